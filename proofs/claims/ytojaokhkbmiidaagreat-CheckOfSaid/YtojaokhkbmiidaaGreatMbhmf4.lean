/- What a recipe must keep to: the sum; all rules. (Written out by wip/tools/gen_rulesz.py.) -/
import Derived.Test.YtojaokhkbmiidaaGreatMbhmf3
import Derived.Test.YtojaokhkbmiidaaGreatMbhmf1
import Derived.Test.YtojaokhkbmiidaaGreatMbhmf2
namespace Go.Proofs.YtojaokhkbmiidaaGreat.Ev
open Go Go.Proofs
set_option maxRecDepth 10000
set_option maxHeartbeats 8000000
set_option linter.unusedVariables false
set_option linter.unusedSimpArgs false
attribute [local irreducible] Next Inside Runs Ops table
attribute [local go_sem] szStr szInt Option.getD_some isNil evStr iv loadStr loadInt rowsS_len rowsN_len rowsGs_len rowsPh_len rowsFl_len mapGs mapPh mapRc ldNode ldGs ldPh cellsGs cellsPh cellsRc cellsRl newGs newPh newRc zrPh zoPh znPh zsPh fpPhLen fpPhLenU fpRcSteps fpRcEpoch fpRcWeights fpRcMetrics fpRcGroups fpRcEval fpRcPhases fpRlList
theorem stepsP_in {u n of ep : Int} : 0 ≤ (stepsP u n of ep).1 ∧ (stepsP u n of ep).1 ≤ 1099511627776 := by
  unfold stepsP
  split
  · rename_i h
    have := lenV_in h.1 h.2.1 h.2.2
    split
    · simp
    · simp only
      omega
  · simp
theorem accS_in (R : Rc) : ∀ i : Nat, 0 ≤ accS R i ∧ accS R i ≤ (i : Int) * 1099511627776
  | 0 => by simp [accS]
  | i + 1 => by
    have h1 := accS_in R i
    have h2 := stepsP_in (u := (R.phases.getD i ph0).lenU) (n := (R.phases.getD i ph0).lenN) (of := R.steps) (ep := R.epoch)
    have e : accS R (i + 1) = accS R i + (R.stepsOf (R.phases.getD i ph0)).1 := rfl
    rw [show stepsP (R.phases.getD i ph0).lenU (R.phases.getD i ph0).lenN R.steps R.epoch = R.stepsOf (R.phases.getD i ph0) from rfl] at h2
    rw [e]
    omega
theorem leaves_out {P : Program} {fn : Func} {m m' m2 : Mem} {e : Env} (h : fn.results = #[]) (hm : finMem m m' = m2) : Leaves P false fn m (.tup [], m2) .ret e m' := by
  show evRet P false fn m e m' = _
  unfold evRet
  rw [h]
  simp [hm]
def sumG : List AV → Mem → Option (AV × Mem)
  | [.ptr r 0, .agg cs], m =>
    match unRc cs, m.var r with
    | some R, some [.v (.int .i64 rule), .lst .full 3 []] => if R.small ∧ R.fit then some (.tup [], flMem m r rule (sumL rule R)) else none
    | _, _ => none
  | _, _ => none
theorem sumG_at {m : Mem} {r : Nat} {rule : Int} {R : Rc} (hv : m.var r = some [.v (.int .i64 rule), .lst .full 3 []]) (h : R.small) (h1 : R.fit) : sumG [.ptr r 0, .agg R.row] m = some (.tup [], flMem m r rule (sumL rule R)) := by
  simp only [sumG, unRc_row, hv]
  rw [if_pos ⟨h, h1⟩]
def kpRSum : Nat → Option (List Nat) := fun
  | 0 => some [0, 3]
  | 1 => some [0, 3, 22]
  | 2 => some [0, 3, 4, 5]
  | 3 => some [0, 3, 4, 5, 24, 25, 26]
  | 4 => some [0, 3, 4, 5, 24, 25, 26, 27]
  | 5 => some [0, 3, 4, 7, 24, 25, 26]
  | 6 => some [0, 3, 4, 5, 7, 24, 25, 26]
  | 7 => some [0, 3, 4, 5, 7, 24, 25, 26, 34]
  | 8 => some [0, 3, 4, 5, 8, 24, 25, 26]
  | 9 => some [0, 3, 4, 5, 24, 25, 26]
  | 10 => some [0, 3, 4, 5, 24, 25, 26]
  | 11 => some []
  | _ => none
attribute [go_sem] kpRSum
def tab_sum_ok : List (FuncId × (List AV → Mem → Option (AV × Mem))) := [(131, kept0G), (48, stepsLG), (78, noteG)]
theorem sum_ok : FunOk Tryz.prog 84 sumG := by
  have hC := table_ok (P := Tryz.prog) (l := tab_sum_ok) (table_more kept0_ok (table_more stepsL_ok (table_more note_ok table_nil)))
  have t1 := fun args mm => table_at (l := tab_sum_ok) (f := 131) (args := args) (m := mm) rfl
  have t2 := fun args mm => table_at (l := tab_sum_ok) (f := 48) (args := args) (m := mm) rfl
  have t3 := fun args mm => table_at (l := tab_sum_ok) (f := 78) (args := args) (m := mm) rfl
  refine fun_ok mixed hC Tryz.func84 rfl kpRSum false rfl fun args m r h => ?_
  unfold sumG at h
  split at h
  · rename_i r0 cs
    split at h
    · rename_i R rule hR hv
      obtain rfl := unRc_some hR
      split at h
      · rename_i hyp
        obtain ⟨hsm, hfit⟩ := hyp
        simp only [Option.some.injEq] at h
        subst h
        have hr0 := (var_lt hv).1
        have hP64 := hsm.2.2.1
        refine ⟨Nat.le_of_ble_eq_true rfl, ?_⟩
        simp only [entry, List.length_cons, List.length_nil, List.range, List.range.loop, List.zip_cons_cons, List.zip_nil_right]
        have hA0 : Above (flMem m r0 rule []) (m.push R.row) := by rw [flMem_nil]; exact above_push (above_self m)
        have hv3 : (m.push R.row).var m.vars.length = some R.row := push_var
        have l0 := vrRc hv3
        have l1 := lpRcPhases hv3
        have c1 := fun mm => kept0G_at (m := mm) (rule := 1) hsm hfit (.inl rfl)
        have c2 := fun mm => kept0G_at (m := mm) (rule := 2) hsm hfit (.inr (.inl rfl))
        have c8 := fun mm => kept0G_at (m := mm) (rule := 8) hsm hfit (.inr (.inr rfl))
        have eS : sumL rule R = if R.kept 1 && (R.kept 2 && R.kept 8) then flawIf R.sumBad rule 0 0 else [] := rfl
        have w1 : (!true) = false := rfl
        have w2 : (!false) = true := rfl
        rw [eS]
        have out : ∀ e : Env, Leaves Tryz.prog false Tryz.f84 m (.tup [], flMem m r0 rule []) .ret e (m.push R.row) := fun e => by
          rw [flMem_nil]
          exact leaves_out rfl fin_push
        cases q1 : R.kept 1 with
        | false =>
          rw [q1] at c1
          repeat' (first | refine gos1 (jn @l0 (jn @t1 (jn @c1 @w2))) ?_ | (refine ops_here ?_; (fail_if_success (refine ops_case (B := true) rfl rfl rfl ?_ ?_)); (fail_if_success (refine ops_case (B := false) rfl rfl rfl ?_ ?_)); refine ops_case rfl rfl rfl (fun hB => ?_) (fun hB => ?_) <;> rw [hB]) | (refine runs_here ?_; refine runs_cond rfl (fun hc => ?_) (fun hc => ?_) <;> first | (cases hc; done) | skip))
          exact out _
        | true =>
          rw [q1] at c1
          cases q2 : R.kept 2 with
          | false =>
            rw [q2] at c2
            repeat' (first | refine gos1 (jn @l0 (jn @t1 (jn @c1 (jn @c2 (jn @w1 @w2))))) ?_ | (refine ops_here ?_; (fail_if_success (refine ops_case (B := true) rfl rfl rfl ?_ ?_)); (fail_if_success (refine ops_case (B := false) rfl rfl rfl ?_ ?_)); refine ops_case rfl rfl rfl (fun hB => ?_) (fun hB => ?_) <;> rw [hB]) | (refine runs_here ?_; refine runs_cond rfl (fun hc => ?_) (fun hc => ?_) <;> first | (cases hc; done) | skip))
            exact out _
          | true =>
            rw [q2] at c2
            cases q8 : R.kept 8 with
            | false =>
              rw [q8] at c8
              repeat' (first | refine gos1 (jn @l0 (jn @t1 (jn @c1 (jn @c2 (jn @c8 (jn @w1 @w2)))))) ?_ | (refine ops_here ?_; (fail_if_success (refine ops_case (B := true) rfl rfl rfl ?_ ?_)); (fail_if_success (refine ops_case (B := false) rfl rfl rfl ?_ ?_)); refine ops_case rfl rfl rfl (fun hB => ?_) (fun hB => ?_) <;> rw [hB]) | (refine runs_here ?_; refine runs_cond rfl (fun hc => ?_) (fun hc => ?_) <;> first | (cases hc; done) | skip))
              exact out _
            | true =>
              rw [q8] at c8
              rw [if_pos (show (true && (true && true)) = true from rfl)]
              refine go1 (jn @l0 (jn @t1 (jn @c1 (jn @c2 (jn @c8 (jn @w1 @w2)))))) ?_
              refine runs_cond rfl (fun hc => by cases hc) (fun hc => ?_)
              refine go1 @l1 ?_
              have fin : ∀ (e : Env) (m2 : Mem) (b : Bool), Above (flMem m r0 rule (if b then [] ++ [⟨rule, 0, 0⟩] else [])) m2 → R.sumBad = b → Leaves Tryz.prog false Tryz.f84 m (.tup [], flMem m r0 rule (flawIf R.sumBad rule 0 0)) .normal e m2 := fun e m2 b hA2 hb => by
                rw [flawIf_app, ← hb, List.nil_append] at hA2
                exact leaves_none rfl (fin_flMem hv hA2)
              refine runs_loop (fun k e m' => ∃ (i : Nat), i ≤ R.phases.length ∧ Above (flMem m r0 rule []) m' ∧ m'.var m.vars.length = some R.row ∧ firstBy restP (R.phases.drop i) i = firstBy restP R.phases 0 ∧ k = R.phases.length - i ∧
                e = [(0, AV.ptr r0 0), (3, .ptr m.vars.length 0), (4, .v (.int .i64 (accS R i))), (5, .v (.bool false)), (24, .lst .no 5 (rowsPh R.phases)), (25, .v (.int .i64 (R.phases.length : Int))), (26, .v (.int .i64 (i : Int)))]) (k := R.phases.length)
                ⟨0, Nat.zero_le _, hA0, hv3, rfl, rfl, rfl⟩ ?_
              rintro k e m' ⟨i, hi0, hA, hw3, hf, rfl, rfl⟩
              refine go0 ?_
              refine runs_cond rfl (fun hc => ?_) (fun hc => ?_)
              · have hi1 : i < R.phases.length := by have := of_decide_eq_true hc; omega
                have f2 := atPh (g := .no) (kk := .i64) hi1
                have eA : accS R (i + 1) = accS R i + (R.stepsOf (R.phases.getD i ph0)).1 := rfl
                have hin := accS_in R (i + 1)
                have hyes := fun hp => by_yes (d := ph0) hi1 hp hf
                have hno := fun hp => by_no (d := ph0) hi1 hp hf
                generalize R.phases.getD i ph0 = p at f2 eA hyes hno
                have hA1 := above_push (cs := p.row) hA
                have hp5 : (m'.push p.row).var m'.vars.length = some p.row := push_var
                have hw5 := push_old (cs' := p.row) hw3
                have y1 := lpPhLenU hp5
                have y2 := lpPhLen hp5
                have y4 := lpRcSteps hw5
                have y5 := lpRcEpoch hw5
                have r6 := next_i64 (i := i) (by omega)
                cases h3 : (p.lenU == 3) with
                | true =>
                  have hx := hyes h3
                  obtain ⟨m2, n1, n2, n3⟩ := note_step hv hA1 (by decide) (decide (accS R i ≥ R.steps)) 0 0
                  have hb : R.sumBad = decide (accS R i ≥ R.steps) := by
                    unfold Rc.sumBad
                    rw [hx, if_neg (by omega), Int.toNat_natCast]
                  refine go1 (jn @f2 (jn @y1 @h3)) ?_
                  refine runs_cond rfl (fun hc => ?_) (fun hc => by cases hc)
                  cases hd : decide (accS R i ≥ R.steps) with
                  | true =>
                    rw [hd] at n1 n2 hb
                    repeat' (first | refine gos1 (jn @y4 (jn @hd (jn @t3 (jn @n1 (jn @w1 @w2))))) ?_ | (refine ops_here ?_; (fail_if_success (refine ops_case (B := true) rfl rfl rfl ?_ ?_)); (fail_if_success (refine ops_case (B := false) rfl rfl rfl ?_ ?_)); refine ops_case rfl rfl rfl (fun hB => ?_) (fun hB => ?_) <;> rw [hB]) | (refine runs_here ?_; refine runs_cond rfl (fun hc => ?_) (fun hc => ?_) <;> first | (cases hc; done) | skip))
                    exact fin _ _ _ n2 hb
                  | false =>
                    rw [hd] at n1 n2 hb
                    repeat' (first | refine gos1 (jn @y4 (jn @hd (jn @t3 (jn @n1 (jn @w1 @w2))))) ?_ | (refine ops_here ?_; (fail_if_success (refine ops_case (B := true) rfl rfl rfl ?_ ?_)); (fail_if_success (refine ops_case (B := false) rfl rfl rfl ?_ ?_)); refine ops_case rfl rfl rfl (fun hB => ?_) (fun hB => ?_) <;> rw [hB]) | (refine runs_here ?_; refine runs_cond rfl (fun hc => ?_) (fun hc => ?_) <;> first | (cases hc; done) | skip))
                    exact fin _ _ _ n2 hb
                | false =>
                  have hx := hno h3
                  have f3 := fun mm => stepsLG_eq (u := p.lenU) (n := p.lenN) (of := R.steps) (ep := R.epoch) (m := mm)
                  rw [show stepsP p.lenU p.lenN R.steps R.epoch = R.stepsOf p from rfl] at f3
                  rw [eA] at hin
                  have r1 : IntKind.i64.wrap (accS R i + (R.stepsOf p).1) = accS R i + (R.stepsOf p).1 := i64_wrap (by omega) (by omega)
                  rw [← eA] at r1
                  refine go1 (jn @f2 (jn @y1 @h3)) ?_
                  refine runs_cond rfl (fun hc => by cases hc) (fun hc => ?_)
                  refine go1 (jn @y2 (jn @y4 (jn @y5 (jn @t2 (jn @f3 @r6))))) ?_
                  rw [← eA, r1]
                  exact ⟨R.phases.length - (i + 1), by omega, i + 1, hi1, hA1, hw5, hx, rfl, rfl⟩
              · have hi1 : i = R.phases.length := by have := of_decide_eq_false hc; omega
                subst hi1
                have hx := by_end hf
                have y4 := lpRcSteps hw3
                obtain ⟨m2, n1, n2, n3⟩ := note_step hv hA (by decide) (accS R R.phases.length != R.steps) 0 0
                have hb : R.sumBad = (accS R R.phases.length != R.steps) := by
                  unfold Rc.sumBad
                  rw [hx, if_pos (by decide)]
                repeat' (first | refine gos1 (jn @y4 (jn @t3 (jn @n1 (jn @w1 @w2)))) ?_ | (refine ops_here ?_; (fail_if_success (refine ops_case (B := true) rfl rfl rfl ?_ ?_)); (fail_if_success (refine ops_case (B := false) rfl rfl rfl ?_ ?_)); refine ops_case rfl rfl rfl (fun hB => ?_) (fun hB => ?_) <;> rw [hB]) | (refine runs_here ?_; refine runs_cond rfl (fun hc => ?_) (fun hc => ?_) <;> first | (cases hc; done) | skip))
                exact fin _ _ _ n2 hb
      · cases h
    · cases h
  · cases h
/-! ### all -/
def brokenG : List AV → Mem → Option (AV × Mem)
  | [.agg cs, .v (.int .i64 rule)], m =>
    match unRc cs with
    | some R => if R.small ∧ R.fit ∧ (rule = 1 ∨ rule = 2 ∨ rule = 3 ∨ rule = 4 ∨ rule = 5 ∨ rule = 6 ∨ rule = 7 ∨ rule = 8 ∨ rule = 9 ∨ rule = 10 ∨ rule = 11 ∨ rule = 12 ∨ rule = 13 ∨ rule = 14 ∨ rule = 15 ∨ rule = 16 ∨ rule = 17 ∨ rule = 18 ∨ rule = 19) then some (.lst .no 3 (rowsFl (brkL R rule)), m) else none
    | none => none
  | _, _ => none
theorem brokenG_at {m : Mem} {R : Rc} {rule : Int} (h : R.small) (h1 : R.fit) (h2 : rule = 1 ∨ rule = 2 ∨ rule = 3 ∨ rule = 4 ∨ rule = 5 ∨ rule = 6 ∨ rule = 7 ∨ rule = 8 ∨ rule = 9 ∨ rule = 10 ∨ rule = 11 ∨ rule = 12 ∨ rule = 13 ∨ rule = 14 ∨ rule = 15 ∨ rule = 16 ∨ rule = 17 ∨ rule = 18 ∨ rule = 19) : brokenG [.agg R.row, .v (.int .i64 rule)] m = some (.lst .no 3 (rowsFl (brkL R rule)), m) := by
  simp only [brokenG, unRc_row]
  rw [if_pos ⟨h, h1, h2⟩]
def kpBroken : Nat → Option (List Nat) := fun
  | 0 => some [1, 2]
  | 1 => some [1, 2, 5]
  | 2 => some [2, 5, 9]
  | 3 => some [5]
  | 4 => some [2, 5, 9, 13]
  | 5 => some [5]
  | 6 => some [2, 5, 9, 21]
  | 7 => some [5]
  | 8 => some [2, 5, 9, 37]
  | 9 => some [5]
  | 10 => some [2, 5, 9, 44]
  | 11 => some [5]
  | 12 => some [2, 5, 9, 50]
  | 13 => some [5]
  | 14 => some [2, 5, 9, 56]
  | 15 => some [5]
  | 16 => some [2, 5, 9, 64]
  | 17 => some [5]
  | 18 => some [2, 5, 9, 70]
  | 19 => some [5]
  | 20 => some [2, 5, 9, 75]
  | 21 => some [5]
  | 22 => some [2, 5, 9, 80]
  | 23 => some [5]
  | 24 => some [2, 5, 9, 85]
  | 25 => some [5]
  | 26 => some [2, 5, 9, 90]
  | 27 => some [5]
  | 28 => some [2, 5, 9, 95]
  | 29 => some [5]
  | 30 => some [2, 5, 100]
  | 31 => some [5]
  | 32 => some [4]
  | _ => none
attribute [go_sem] kpBroken
def tab_broken_ok : List (FuncId × (List AV → Mem → Option (AV × Mem))) := [(79, withinG), (78, noteG), (80, epochsG), (83, rlastsG), (81, twinsG), (82, namesG), (84, sumG), (85, frozenG), (86, setsG), (87, eachG), (92, endsFG)]
theorem broken_ok : FunOk Tryz.prog 38 brokenG := by
  have hC := table_ok (P := Tryz.prog) (l := tab_broken_ok) (table_more rwithin_ok (table_more note_ok (table_more epochs_ok (table_more rlasts_ok (table_more twins_ok (table_more names_ok (table_more sum_ok (table_more frozen_ok (table_more sets_ok (table_more each_ok (table_more endsF_ok table_nil)))))))))))
  have t1 := fun args mm => table_at (l := tab_broken_ok) (f := 79) (args := args) (m := mm) rfl
  have t2 := fun args mm => table_at (l := tab_broken_ok) (f := 78) (args := args) (m := mm) rfl
  have t3 := fun args mm => table_at (l := tab_broken_ok) (f := 80) (args := args) (m := mm) rfl
  have t4 := fun args mm => table_at (l := tab_broken_ok) (f := 83) (args := args) (m := mm) rfl
  have t5 := fun args mm => table_at (l := tab_broken_ok) (f := 81) (args := args) (m := mm) rfl
  have t6 := fun args mm => table_at (l := tab_broken_ok) (f := 82) (args := args) (m := mm) rfl
  have t7 := fun args mm => table_at (l := tab_broken_ok) (f := 84) (args := args) (m := mm) rfl
  have t8 := fun args mm => table_at (l := tab_broken_ok) (f := 85) (args := args) (m := mm) rfl
  have t9 := fun args mm => table_at (l := tab_broken_ok) (f := 86) (args := args) (m := mm) rfl
  have t10 := fun args mm => table_at (l := tab_broken_ok) (f := 87) (args := args) (m := mm) rfl
  have t11 := fun args mm => table_at (l := tab_broken_ok) (f := 92) (args := args) (m := mm) rfl
  refine fun_ok mixed hC Tryz.func38 rfl kpBroken false rfl fun args m r h => ?_
  unfold brokenG at h
  split at h
  · rename_i cs rule
    split at h
    · rename_i R hR
      obtain rfl := unRc_some hR
      split at h
      · rename_i hyp
        obtain ⟨hsm, hfit, hrule⟩ := hyp
        simp only [Option.some.injEq] at h
        subst h
        refine ⟨Nat.le_of_ble_eq_true rfl, ?_⟩
        simp only [entry, List.length_cons, List.length_nil, List.range, List.range.loop, List.zip_cons_cons, List.zip_nil_right]
        have hv3 : (m.push R.row).var m.vars.length = some R.row := push_var
        have hn3 : m.vars.length < (m.push R.row).vars.length := by rw [push_len]; omega
        have hA1 := above_push (cs := R.row) (above_self m)
        have nr := newRc (m := m) (x := R)
        generalize hm1 : m.push R.row = m1 at hv3 hn3 hA1 nr
        have nl := newRl (m := m1) (rule := rule)
        have hv5 : (m1.push [.v (.int .i64 rule), .lst .full 3 []]).var m1.vars.length = some [.v (.int .i64 rule), .lst .full 3 []] := push_var
        have hw3 := push_old (cs' := [.v (.int .i64 rule), .lst .full 3 []]) hv3
        have hA2 := above_push (cs := [.v (.int .i64 rule), .lst .full 3 []]) hA1
        have hle : m.vars.length ≤ m1.vars.length := by omega
        generalize hn5 : m1.vars.length = n5 at nl hv5 hle
        generalize m1.push [.v (.int .i64 rule), .lst .full 3 []] = m5 at nl hv5 hw3 hA2
        have fin : ∀ (e : Env) (m' : Mem) (L : List Fl), Above (flMem m5 n5 rule L) m' → brkL R rule = L → Ev.get e 4 = flLst m5 L → Leaves Tryz.prog false Tryz.f38 m (.lst .no 3 (rowsFl (brkL R rule)), m) .ret e m' := fun e m' L hA hL hg => by
          obtain ⟨g, hgl⟩ := flLst_is m5 L
          rw [hL]
          exact leaves_lst rfl (hg.trans hgl) (fin_own hA2 hle hA)
        have hld : ∀ (m' : Mem) (L : List Fl), Above (flMem m5 n5 rule L) m' → evLoad Tryz.prog m' 40 (.ptr n5 1) = some (flLst m5 L) := fun m' L hA => lpRlList (above_var hA (flMem_var hv5))
        have l1 := vrRc hw3
        have l2 := lpRcSteps hw3
        have l3 := lpRcEpoch hw3
        have l4 := lpRcWeights hw3
        have l5 := lpRcMetrics hw3
        have l6 := lpRcGroups hw3
        have l7 := lpRcEval hw3
        have l8 := lpRcPhases hw3
        have f1 : ∀ x lo hi mm, withinG [.v (.int .i64 x), .v (.int .i64 lo), .v (.int .i64 hi)] mm = some (.v (.bool (decide (lo ≤ x ∧ x ≤ hi))), mm) := fun _ _ _ _ => rfl
        have f3 := fun mm => epochsG_at R mm hfit
        have f6 := fun mm => namesG_at R mm hsm
        rcases hrule with rfl | rfl | rfl | rfl | rfl | rfl | rfl | rfl | rfl | rfl | rfl | rfl | rfl | rfl | rfl | rfl | rfl | rfl | rfl
        · have hL : brkL R 1 = flawIf (!decide (1 ≤ R.steps ∧ R.steps ≤ 1000000)) 1 0 0 := rfl
          obtain ⟨m2, n1, hA, n3⟩ := note_step hv5 (by rw [flMem_nil]; exact above_self m5) (by decide) (!decide (1 ≤ R.steps ∧ R.steps ≤ 1000000)) 0 0
          rw [flawIf_app, List.nil_append] at hA
          have k2 := hld _ _ hA
          repeat' (first | refine gos1 (jn @nr (jn @hn5 (jn @nl (jn @mkRl (jn @l1 (jn @l2 (jn @l3 (jn @l4 (jn @l5 (jn @l6 (jn @l7 (jn @l8 (jn @t1 (jn @f1 (jn @t2 (jn @n1 @k2)))))))))))))))) ?_ | (refine ops_here ?_; (fail_if_success (refine ops_case (B := true) rfl rfl rfl ?_ ?_)); (fail_if_success (refine ops_case (B := false) rfl rfl rfl ?_ ?_)); refine ops_case rfl rfl rfl (fun hB => ?_) (fun hB => ?_) <;> rw [hB]) | (refine runs_here ?_; refine runs_cond rfl (fun hc => ?_) (fun hc => ?_) <;> first | (cases hc; done) | skip))
          exact fin _ _ _ hA hL rfl
        · have hL : brkL R 2 = flawIf (decide (R.epoch > 1000000) || ((R.epoch == 0) && R.epochs)) 2 0 0 := rfl
          cases q1 : decide (R.epoch > 1000000) with
          | true =>
            obtain ⟨m2, n1, hA, n3⟩ := note_step hv5 (by rw [flMem_nil]; exact above_self m5) (by decide) true 0 0
            rw [flawIf_app, List.nil_append] at hA
            rw [q1] at hL
            have k2 := hld _ _ hA
            repeat' (first | refine gos1 (jn @nr (jn @hn5 (jn @nl (jn @mkRl (jn @l1 (jn @l2 (jn @l3 (jn @l4 (jn @l5 (jn @l6 (jn @l7 (jn @l8 (jn @q1 (jn @t2 (jn @n1 @k2))))))))))))))) ?_ | (refine ops_here ?_; (fail_if_success (refine ops_case (B := true) rfl rfl rfl ?_ ?_)); (fail_if_success (refine ops_case (B := false) rfl rfl rfl ?_ ?_)); refine ops_case rfl rfl rfl (fun hB => ?_) (fun hB => ?_) <;> rw [hB]) | (refine runs_here ?_; refine runs_cond rfl (fun hc => ?_) (fun hc => ?_) <;> first | (cases hc; done) | skip))
            exact fin _ _ _ hA hL rfl
          | false =>
            cases q2 : (R.epoch == 0) with
            | false =>
              obtain ⟨m2, n1, hA, n3⟩ := note_step hv5 (by rw [flMem_nil]; exact above_self m5) (by decide) false 0 0
              rw [flawIf_app, List.nil_append] at hA
              rw [q1, q2] at hL
              have k2 := hld _ _ hA
              repeat' (first | refine gos1 (jn @nr (jn @hn5 (jn @nl (jn @mkRl (jn @l1 (jn @l2 (jn @l3 (jn @l4 (jn @l5 (jn @l6 (jn @l7 (jn @l8 (jn @q1 (jn @q2 (jn @t2 (jn @n1 @k2)))))))))))))))) ?_ | (refine ops_here ?_; (fail_if_success (refine ops_case (B := true) rfl rfl rfl ?_ ?_)); (fail_if_success (refine ops_case (B := false) rfl rfl rfl ?_ ?_)); refine ops_case rfl rfl rfl (fun hB => ?_) (fun hB => ?_) <;> rw [hB]) | (refine runs_here ?_; refine runs_cond rfl (fun hc => ?_) (fun hc => ?_) <;> first | (cases hc; done) | skip))
              exact fin _ _ _ hA hL rfl
            | true =>
              obtain ⟨m2, n1, hA, n3⟩ := note_step hv5 (by rw [flMem_nil]; exact above_self m5) (by decide) R.epochs 0 0
              rw [flawIf_app, List.nil_append] at hA
              rw [q1, q2] at hL
              have k2 := hld _ _ hA
              repeat' (first | refine gos1 (jn @nr (jn @hn5 (jn @nl (jn @mkRl (jn @l1 (jn @l2 (jn @l3 (jn @l4 (jn @l5 (jn @l6 (jn @l7 (jn @l8 (jn @q1 (jn @q2 (jn @t2 (jn @t3 (jn @f3 (jn @n1 @k2)))))))))))))))))) ?_ | (refine ops_here ?_; (fail_if_success (refine ops_case (B := true) rfl rfl rfl ?_ ?_)); (fail_if_success (refine ops_case (B := false) rfl rfl rfl ?_ ?_)); refine ops_case rfl rfl rfl (fun hB => ?_) (fun hB => ?_) <;> rw [hB]) | (refine runs_here ?_; refine runs_cond rfl (fun hc => ?_) (fun hc => ?_) <;> first | (cases hc; done) | skip))
              exact fin _ _ _ hA hL rfl
        · have hL : brkL R 3 = flawIf (decide (R.weights > 16)) 3 0 0 := rfl
          obtain ⟨m2, n1, hA, n3⟩ := note_step hv5 (by rw [flMem_nil]; exact above_self m5) (by decide) (decide (R.weights > 16)) 0 0
          rw [flawIf_app, List.nil_append] at hA
          have k2 := hld _ _ hA
          repeat' (first | refine gos1 (jn @nr (jn @hn5 (jn @nl (jn @mkRl (jn @l1 (jn @l2 (jn @l3 (jn @l4 (jn @l5 (jn @l6 (jn @l7 (jn @l8 (jn @t1 (jn @f1 (jn @t2 (jn @n1 @k2)))))))))))))))) ?_ | (refine ops_here ?_; (fail_if_success (refine ops_case (B := true) rfl rfl rfl ?_ ?_)); (fail_if_success (refine ops_case (B := false) rfl rfl rfl ?_ ?_)); refine ops_case rfl rfl rfl (fun hB => ?_) (fun hB => ?_) <;> rw [hB]) | (refine runs_here ?_; refine runs_cond rfl (fun hc => ?_) (fun hc => ?_) <;> first | (cases hc; done) | skip))
          exact fin _ _ _ hA hL rfl
        · have hL : brkL R 4 = twinsL 4 R.metrics := rfl
          have c := twinsG_at (g := .no) hv5 (show R.metrics.length ≤ 64 from hsm.1)
          have hA := above_self (flMem m5 n5 4 (twinsL 4 R.metrics))
          have k2 := hld _ _ hA
          repeat' (first | refine gos1 (jn @nr (jn @hn5 (jn @nl (jn @mkRl (jn @l1 (jn @l2 (jn @l3 (jn @l4 (jn @l5 (jn @l6 (jn @l7 (jn @l8 (jn @t5 (jn @c @k2)))))))))))))) ?_ | (refine ops_here ?_; (fail_if_success (refine ops_case (B := true) rfl rfl rfl ?_ ?_)); (fail_if_success (refine ops_case (B := false) rfl rfl rfl ?_ ?_)); refine ops_case rfl rfl rfl (fun hB => ?_) (fun hB => ?_) <;> rw [hB]) | (refine runs_here ?_; refine runs_cond rfl (fun hc => ?_) (fun hc => ?_) <;> first | (cases hc; done) | skip))
          exact fin _ _ _ hA hL rfl
        · have hL : brkL R 5 = twinsL 5 R.groups := rfl
          have c := twinsG_at (g := .no) hv5 (show R.groups.length ≤ 64 from hsm.2.1)
          have hA := above_self (flMem m5 n5 5 (twinsL 5 R.groups))
          have k2 := hld _ _ hA
          repeat' (first | refine gos1 (jn @nr (jn @hn5 (jn @nl (jn @mkRl (jn @l1 (jn @l2 (jn @l3 (jn @l4 (jn @l5 (jn @l6 (jn @l7 (jn @l8 (jn @t5 (jn @c @k2)))))))))))))) ?_ | (refine ops_here ?_; (fail_if_success (refine ops_case (B := true) rfl rfl rfl ?_ ?_)); (fail_if_success (refine ops_case (B := false) rfl rfl rfl ?_ ?_)); refine ops_case rfl rfl rfl (fun hB => ?_) (fun hB => ?_) <;> rw [hB]) | (refine runs_here ?_; refine runs_cond rfl (fun hc => ?_) (fun hc => ?_) <;> first | (cases hc; done) | skip))
          exact fin _ _ _ hA hL rfl
        · have hL : brkL R 6 = flawIf (((R.phases.length : Int) == 0)) 6 0 0 := rfl
          obtain ⟨m2, n1, hA, n3⟩ := note_step hv5 (by rw [flMem_nil]; exact above_self m5) (by decide) (((R.phases.length : Int) == 0)) 0 0
          rw [flawIf_app, List.nil_append] at hA
          have k2 := hld _ _ hA
          repeat' (first | refine gos1 (jn @nr (jn @hn5 (jn @nl (jn @mkRl (jn @l1 (jn @l2 (jn @l3 (jn @l4 (jn @l5 (jn @l6 (jn @l7 (jn @l8 (jn @t1 (jn @f1 (jn @t2 (jn @n1 @k2)))))))))))))))) ?_ | (refine ops_here ?_; (fail_if_success (refine ops_case (B := true) rfl rfl rfl ?_ ?_)); (fail_if_success (refine ops_case (B := false) rfl rfl rfl ?_ ?_)); refine ops_case rfl rfl rfl (fun hB => ?_) (fun hB => ?_) <;> rw [hB]) | (refine runs_here ?_; refine runs_cond rfl (fun hc => ?_) (fun hc => ?_) <;> first | (cases hc; done) | skip))
          exact fin _ _ _ hA hL rfl
        · have hL : brkL R 7 = twinsL 7 (R.phases.map Ph.name) := rfl
          have c := twinsG_at (g := .no) hv5 (show (R.phases.map Ph.name).length ≤ 64 by rw [List.length_map]; exact hsm.2.2.1)
          have hA := above_self (flMem m5 n5 7 (twinsL 7 (R.phases.map Ph.name)))
          have k2 := hld _ _ hA
          repeat' (first | refine gos1 (jn @nr (jn @hn5 (jn @nl (jn @mkRl (jn @l1 (jn @l2 (jn @l3 (jn @l4 (jn @l5 (jn @l6 (jn @l7 (jn @l8 (jn @t5 (jn @c (jn @k2 (jn @t6 @f6)))))))))))))))) ?_ | (refine ops_here ?_; (fail_if_success (refine ops_case (B := true) rfl rfl rfl ?_ ?_)); (fail_if_success (refine ops_case (B := false) rfl rfl rfl ?_ ?_)); refine ops_case rfl rfl rfl (fun hB => ?_) (fun hB => ?_) <;> rw [hB]) | (refine runs_here ?_; refine runs_cond rfl (fun hc => ?_) (fun hc => ?_) <;> first | (cases hc; done) | skip))
          exact fin _ _ _ hA hL rfl
        · have hL : brkL R 8 = lastsL 8 R := rfl
          have c := rlastsG_at hv5 hsm
          have hA := above_self (flMem m5 n5 8 (lastsL 8 R))
          have k2 := hld _ _ hA
          repeat' (first | refine gos1 (jn @nr (jn @hn5 (jn @nl (jn @mkRl (jn @l1 (jn @l2 (jn @l3 (jn @l4 (jn @l5 (jn @l6 (jn @l7 (jn @l8 (jn @t4 (jn @c @k2)))))))))))))) ?_ | (refine ops_here ?_; (fail_if_success (refine ops_case (B := true) rfl rfl rfl ?_ ?_)); (fail_if_success (refine ops_case (B := false) rfl rfl rfl ?_ ?_)); refine ops_case rfl rfl rfl (fun hB => ?_) (fun hB => ?_) <;> rw [hB]) | (refine runs_here ?_; refine runs_cond rfl (fun hc => ?_) (fun hc => ?_) <;> first | (cases hc; done) | skip))
          exact fin _ _ _ hA hL rfl
        · have hL : brkL R 9 = sumL 9 R := rfl
          have c := sumG_at hv5 hsm hfit
          have hA := above_self (flMem m5 n5 9 (sumL 9 R))
          have k2 := hld _ _ hA
          repeat' (first | refine gos1 (jn @nr (jn @hn5 (jn @nl (jn @mkRl (jn @l1 (jn @l2 (jn @l3 (jn @l4 (jn @l5 (jn @l6 (jn @l7 (jn @l8 (jn @t7 (jn @c @k2)))))))))))))) ?_ | (refine ops_here ?_; (fail_if_success (refine ops_case (B := true) rfl rfl rfl ?_ ?_)); (fail_if_success (refine ops_case (B := false) rfl rfl rfl ?_ ?_)); refine ops_case rfl rfl rfl (fun hB => ?_) (fun hB => ?_) <;> rw [hB]) | (refine runs_here ?_; refine runs_cond rfl (fun hc => ?_) (fun hc => ?_) <;> first | (cases hc; done) | skip))
          exact fin _ _ _ hA hL rfl
        · have hL : brkL R 10 = frozenL 10 R := rfl
          have c := frozenG_at hv5 hsm
          have hA := above_self (flMem m5 n5 10 (frozenL 10 R))
          have k2 := hld _ _ hA
          repeat' (first | refine gos1 (jn @nr (jn @hn5 (jn @nl (jn @mkRl (jn @l1 (jn @l2 (jn @l3 (jn @l4 (jn @l5 (jn @l6 (jn @l7 (jn @l8 (jn @t8 (jn @c @k2)))))))))))))) ?_ | (refine ops_here ?_; (fail_if_success (refine ops_case (B := true) rfl rfl rfl ?_ ?_)); (fail_if_success (refine ops_case (B := false) rfl rfl rfl ?_ ?_)); refine ops_case rfl rfl rfl (fun hB => ?_) (fun hB => ?_) <;> rw [hB]) | (refine runs_here ?_; refine runs_cond rfl (fun hc => ?_) (fun hc => ?_) <;> first | (cases hc; done) | skip))
          exact fin _ _ _ hA hL rfl
        · have hL : brkL R 11 = setsFl 11 R := rfl
          have c := setsG_at hv5 hsm
          have hA := above_self (flMem m5 n5 11 (setsFl 11 R))
          have k2 := hld _ _ hA
          repeat' (first | refine gos1 (jn @nr (jn @hn5 (jn @nl (jn @mkRl (jn @l1 (jn @l2 (jn @l3 (jn @l4 (jn @l5 (jn @l6 (jn @l7 (jn @l8 (jn @t9 (jn @c @k2)))))))))))))) ?_ | (refine ops_here ?_; (fail_if_success (refine ops_case (B := true) rfl rfl rfl ?_ ?_)); (fail_if_success (refine ops_case (B := false) rfl rfl rfl ?_ ?_)); refine ops_case rfl rfl rfl (fun hB => ?_) (fun hB => ?_) <;> rw [hB]) | (refine runs_here ?_; refine runs_cond rfl (fun hc => ?_) (fun hc => ?_) <;> first | (cases hc; done) | skip))
          exact fin _ _ _ hA hL rfl
        · have hL : brkL R 12 = eachBL 12 R := rfl
          have c := eachG_B hv5 hsm
          have hA := above_self (flMem m5 n5 12 (eachBL 12 R))
          have k2 := hld _ _ hA
          repeat' (first | refine gos1 (jn @nr (jn @hn5 (jn @nl (jn @mkRl (jn @l1 (jn @l2 (jn @l3 (jn @l4 (jn @l5 (jn @l6 (jn @l7 (jn @l8 (jn @t10 (jn @c @k2)))))))))))))) ?_ | (refine ops_here ?_; (fail_if_success (refine ops_case (B := true) rfl rfl rfl ?_ ?_)); (fail_if_success (refine ops_case (B := false) rfl rfl rfl ?_ ?_)); refine ops_case rfl rfl rfl (fun hB => ?_) (fun hB => ?_) <;> rw [hB]) | (refine runs_here ?_; refine runs_cond rfl (fun hc => ?_) (fun hc => ?_) <;> first | (cases hc; done) | skip))
          exact fin _ _ _ hA hL rfl
        · have hL : brkL R 13 = eachHL 13 R := rfl
          have c := eachG_H hv5 hsm
          have hA := above_self (flMem m5 n5 13 (eachHL 13 R))
          have k2 := hld _ _ hA
          repeat' (first | refine gos1 (jn @nr (jn @hn5 (jn @nl (jn @mkRl (jn @l1 (jn @l2 (jn @l3 (jn @l4 (jn @l5 (jn @l6 (jn @l7 (jn @l8 (jn @t10 (jn @c @k2)))))))))))))) ?_ | (refine ops_here ?_; (fail_if_success (refine ops_case (B := true) rfl rfl rfl ?_ ?_)); (fail_if_success (refine ops_case (B := false) rfl rfl rfl ?_ ?_)); refine ops_case rfl rfl rfl (fun hB => ?_) (fun hB => ?_) <;> rw [hB]) | (refine runs_here ?_; refine runs_cond rfl (fun hc => ?_) (fun hc => ?_) <;> first | (cases hc; done) | skip))
          exact fin _ _ _ hA hL rfl
        · have hL : brkL R 14 = flawIf (R.endBad 14) 14 0 0 := rfl
          have c := endsFG_at hv5 hsm (by decide) (by decide)
          have hA := above_self (flMem m5 n5 14 (flawIf (R.endBad 14) 14 0 0))
          have k2 := hld _ _ hA
          repeat' (first | refine gos1 (jn @nr (jn @hn5 (jn @nl (jn @mkRl (jn @l1 (jn @l2 (jn @l3 (jn @l4 (jn @l5 (jn @l6 (jn @l7 (jn @l8 (jn @t11 (jn @c @k2)))))))))))))) ?_ | (refine ops_here ?_; (fail_if_success (refine ops_case (B := true) rfl rfl rfl ?_ ?_)); (fail_if_success (refine ops_case (B := false) rfl rfl rfl ?_ ?_)); refine ops_case rfl rfl rfl (fun hB => ?_) (fun hB => ?_) <;> rw [hB]) | (refine runs_here ?_; refine runs_cond rfl (fun hc => ?_) (fun hc => ?_) <;> first | (cases hc; done) | skip))
          exact fin _ _ _ hA hL rfl
        · have hL : brkL R 15 = flawIf (R.endBad 15) 15 0 0 := rfl
          have c := endsFG_at hv5 hsm (by decide) (by decide)
          have hA := above_self (flMem m5 n5 15 (flawIf (R.endBad 15) 15 0 0))
          have k2 := hld _ _ hA
          repeat' (first | refine gos1 (jn @nr (jn @hn5 (jn @nl (jn @mkRl (jn @l1 (jn @l2 (jn @l3 (jn @l4 (jn @l5 (jn @l6 (jn @l7 (jn @l8 (jn @t11 (jn @c @k2)))))))))))))) ?_ | (refine ops_here ?_; (fail_if_success (refine ops_case (B := true) rfl rfl rfl ?_ ?_)); (fail_if_success (refine ops_case (B := false) rfl rfl rfl ?_ ?_)); refine ops_case rfl rfl rfl (fun hB => ?_) (fun hB => ?_) <;> rw [hB]) | (refine runs_here ?_; refine runs_cond rfl (fun hc => ?_) (fun hc => ?_) <;> first | (cases hc; done) | skip))
          exact fin _ _ _ hA hL rfl
        · have hL : brkL R 16 = flawIf (R.endBad 16) 16 0 0 := rfl
          have c := endsFG_at hv5 hsm (by decide) (by decide)
          have hA := above_self (flMem m5 n5 16 (flawIf (R.endBad 16) 16 0 0))
          have k2 := hld _ _ hA
          repeat' (first | refine gos1 (jn @nr (jn @hn5 (jn @nl (jn @mkRl (jn @l1 (jn @l2 (jn @l3 (jn @l4 (jn @l5 (jn @l6 (jn @l7 (jn @l8 (jn @t11 (jn @c @k2)))))))))))))) ?_ | (refine ops_here ?_; (fail_if_success (refine ops_case (B := true) rfl rfl rfl ?_ ?_)); (fail_if_success (refine ops_case (B := false) rfl rfl rfl ?_ ?_)); refine ops_case rfl rfl rfl (fun hB => ?_) (fun hB => ?_) <;> rw [hB]) | (refine runs_here ?_; refine runs_cond rfl (fun hc => ?_) (fun hc => ?_) <;> first | (cases hc; done) | skip))
          exact fin _ _ _ hA hL rfl
        · have hL : brkL R 17 = flawIf (R.endBad 17) 17 0 0 := rfl
          have c := endsFG_at hv5 hsm (by decide) (by decide)
          have hA := above_self (flMem m5 n5 17 (flawIf (R.endBad 17) 17 0 0))
          have k2 := hld _ _ hA
          repeat' (first | refine gos1 (jn @nr (jn @hn5 (jn @nl (jn @mkRl (jn @l1 (jn @l2 (jn @l3 (jn @l4 (jn @l5 (jn @l6 (jn @l7 (jn @l8 (jn @t11 (jn @c @k2)))))))))))))) ?_ | (refine ops_here ?_; (fail_if_success (refine ops_case (B := true) rfl rfl rfl ?_ ?_)); (fail_if_success (refine ops_case (B := false) rfl rfl rfl ?_ ?_)); refine ops_case rfl rfl rfl (fun hB => ?_) (fun hB => ?_) <;> rw [hB]) | (refine runs_here ?_; refine runs_cond rfl (fun hc => ?_) (fun hc => ?_) <;> first | (cases hc; done) | skip))
          exact fin _ _ _ hA hL rfl
        · have hL : brkL R 18 = flawIf (R.endBad 18) 18 0 0 := rfl
          have c := endsFG_at hv5 hsm (by decide) (by decide)
          have hA := above_self (flMem m5 n5 18 (flawIf (R.endBad 18) 18 0 0))
          have k2 := hld _ _ hA
          repeat' (first | refine gos1 (jn @nr (jn @hn5 (jn @nl (jn @mkRl (jn @l1 (jn @l2 (jn @l3 (jn @l4 (jn @l5 (jn @l6 (jn @l7 (jn @l8 (jn @t11 (jn @c @k2)))))))))))))) ?_ | (refine ops_here ?_; (fail_if_success (refine ops_case (B := true) rfl rfl rfl ?_ ?_)); (fail_if_success (refine ops_case (B := false) rfl rfl rfl ?_ ?_)); refine ops_case rfl rfl rfl (fun hB => ?_) (fun hB => ?_) <;> rw [hB]) | (refine runs_here ?_; refine runs_cond rfl (fun hc => ?_) (fun hc => ?_) <;> first | (cases hc; done) | skip))
          exact fin _ _ _ hA hL rfl
        · have hL : brkL R 19 = flawIf (decide (R.eval > R.steps)) 19 0 0 := rfl
          obtain ⟨m2, n1, hA, n3⟩ := note_step hv5 (by rw [flMem_nil]; exact above_self m5) (by decide) (decide (R.eval > R.steps)) 0 0
          rw [flawIf_app, List.nil_append] at hA
          have k2 := hld _ _ hA
          repeat' (first | refine gos1 (jn @nr (jn @hn5 (jn @nl (jn @mkRl (jn @l1 (jn @l2 (jn @l3 (jn @l4 (jn @l5 (jn @l6 (jn @l7 (jn @l8 (jn @t1 (jn @f1 (jn @t2 (jn @n1 @k2)))))))))))))))) ?_ | (refine ops_here ?_; (fail_if_success (refine ops_case (B := true) rfl rfl rfl ?_ ?_)); (fail_if_success (refine ops_case (B := false) rfl rfl rfl ?_ ?_)); refine ops_case rfl rfl rfl (fun hB => ?_) (fun hB => ?_) <;> rw [hB]) | (refine runs_here ?_; refine runs_cond rfl (fun hc => ?_) (fun hc => ?_) <;> first | (cases hc; done) | skip))
          exact fin _ _ _ hA hL rfl
      · cases h
    · cases h
  · cases h
def keptG : List AV → Mem → Option (AV × Mem)
  | [.agg cs, .v (.int .i64 rule)], m =>
    match unRc cs with
    | some R => if R.small ∧ R.fit ∧ (rule = 1 ∨ rule = 2 ∨ rule = 3 ∨ rule = 4 ∨ rule = 5 ∨ rule = 6 ∨ rule = 7 ∨ rule = 8 ∨ rule = 9 ∨ rule = 10 ∨ rule = 11 ∨ rule = 12 ∨ rule = 13 ∨ rule = 14 ∨ rule = 15 ∨ rule = 16 ∨ rule = 17 ∨ rule = 18 ∨ rule = 19) then some (.v (.bool (R.kept rule)), m) else none
    | none => none
  | _, _ => none
theorem keptG_at {m : Mem} {R : Rc} {rule : Int} (h : R.small) (h1 : R.fit) (h2 : rule = 1 ∨ rule = 2 ∨ rule = 3 ∨ rule = 4 ∨ rule = 5 ∨ rule = 6 ∨ rule = 7 ∨ rule = 8 ∨ rule = 9 ∨ rule = 10 ∨ rule = 11 ∨ rule = 12 ∨ rule = 13 ∨ rule = 14 ∨ rule = 15 ∨ rule = 16 ∨ rule = 17 ∨ rule = 18 ∨ rule = 19) : keptG [.agg R.row, .v (.int .i64 rule)] m = some (.v (.bool (R.kept rule)), m) := by
  simp only [keptG, unRc_row]
  rw [if_pos ⟨h, h1, h2⟩]
def kpKept : Nat → Option (List Nat) := fun
  | 0 => some [1, 2]
  | 1 => some [4]
  | _ => none
attribute [go_sem] kpKept
def tab_kept_ok : List (FuncId × (List AV → Mem → Option (AV × Mem))) := [(38, brokenG)]
theorem kept_ok : FunOk Tryz.prog 131 keptG := by
  have hC := table_ok (P := Tryz.prog) (l := tab_kept_ok) (table_more broken_ok table_nil)
  have t1 := fun args mm => table_at (l := tab_kept_ok) (f := 38) (args := args) (m := mm) rfl
  refine fun_ok mixed hC Tryz.func131 rfl kpKept false rfl fun args m r h => ?_
  unfold keptG at h
  split at h
  · rename_i cs rule
    split at h
    · rename_i R hR
      obtain rfl := unRc_some hR
      split at h
      · rename_i hyp
        obtain ⟨hsm, hfit, hrule⟩ := hyp
        simp only [Option.some.injEq] at h
        subst h
        refine ⟨Nat.le_of_ble_eq_true rfl, ?_⟩
        simp only [entry, List.length_cons, List.length_nil, List.range, List.range.loop, List.zip_cons_cons, List.zip_nil_right]
        have l1 := vrRc (x := R) (push_var (m := m))
        have f1 := fun mm => brokenG_at (m := mm) hsm hfit hrule
        refine go1 (jn @l1 (jn @t1 @f1)) ?_
        exact leaves_fin rfl rfl fin_push
      · cases h
    · cases h
  · cases h
end Go.Proofs.YtojaokhkbmiidaaGreat.Ev

namespace Go.Proofs.YtojaokhkbmiidaaGreat.Ev
open Go Go.Proofs
set_option maxRecDepth 10000
set_option maxHeartbeats 8000000
set_option linter.unusedVariables false
set_option linter.unusedSimpArgs false
attribute [local irreducible] Next Inside Runs Ops table
attribute [local go_sem] szStr szInt Option.getD_some isNil evStr iv loadStr loadInt mapRc cellsRc newRc fpRcSteps fpRcEpoch fpRcPhases rowsS_len rowsPh_len
theorem zrLen : zeroCells Tryz.prog 33 = some (lenRow 0 0) := by kernel_rfl
theorem zoLen {a b : Int} : (lenRow a b).all okCell = true := rfl
theorem zsLen {m : Mem} {u n : Int} : evStore Tryz.prog (m.push (lenRow 0 0)) 33 (.ptr m.vars.length 0) (.agg [.v (.int .i64 u), .v (.int .i64 n)]) = some (m.push (lenRow u n)) := by
  rw [store_push (cs := lenRow u n) rfl (show tSize Tryz.prog 33 = some 2 by kernel_rfl) (Nat.le_refl _) rfl]
  rfl
theorem fpLenU {r : Nat} : evFieldAddr Tryz.prog 33 (.ptr r 0) 0 = some (.ptr r 0) := by kernel_rfl
theorem lpLenU {m : Mem} {r : Nat} {u n : Int} (hv : m.var r = some (lenRow u n)) : evLoad Tryz.prog m 3 (.ptr r 0) = some (.v (.int .i64 u)) := by
  unfold evLoad
  simp only [ptrCells, hv, Option.map_some, szInt, agInt]
  rfl
def rlastG : List AV → Mem → Option (AV × Mem)
  | [.agg cs, .v (.int .i64 i)], m =>
    match unRc cs with
    | some R => if R.phases.length ≤ 64 ∧ 0 ≤ i ∧ i < (R.phases.length : Int) ∧ lenMay (R.phases.getD i.toNat ph0).lenU (R.phases.getD i.toNat ph0).lenN ∧ 0 ≤ R.steps ∧ 0 ≤ R.epoch then some (.v (.bool (!R.lastBad i.toNat)), m) else none
    | none => none
  | _, _ => none
theorem rlastG_at {R : Rc} {i : Nat} {m : Mem} (h : R.phases.length ≤ 64) (h1 : i < R.phases.length) (h2 : lenMay (R.phases.getD i ph0).lenU (R.phases.getD i ph0).lenN) (h3 : 0 ≤ R.steps) (h4 : 0 ≤ R.epoch) : rlastG [.agg R.row, .v (.int .i64 (i : Int))] m = some (.v (.bool (!R.lastBad i)), m) := by
  simp only [rlastG, unRc_row]
  rw [if_pos ⟨h, by omega, by omega, by rw [Int.toNat_natCast]; exact h2, h3, h4⟩, Int.toNat_natCast]
def kpRLast20 : Nat → Option (List Nat) := fun
  | 0 => some [1, 2]
  | 1 => some [1, 2, 5]
  | 2 => some [1, 2, 5, 16]
  | 3 => some [4]
  | 4 => some [6, 7]
  | 5 => some [4]
  | _ => none
attribute [go_sem] kpRLast20
def tab_rlast_ok : List (FuncId × (List AV → Mem → Option (AV × Mem))) := [(49, rstepsG)]
theorem rlast_ok : FunOk Tryz.prog 100 rlastG := by
  have hC := table_ok (P := Tryz.prog) (l := tab_rlast_ok) (table_more rsteps_ok table_nil)
  have t1 := fun args mm => table_at (l := tab_rlast_ok) (f := 49) (args := args) (m := mm) rfl
  refine fun_ok mixed hC Tryz.func100 rfl kpRLast20 false rfl fun args m r h => ?_
  unfold rlastG at h
  split at h
  · rename_i cs i
    split at h
    · rename_i R hR
      obtain rfl := unRc_some hR
      split at h
      · rename_i hyp
        obtain ⟨h64, h0, h1, hl, hs, he⟩ := hyp
        obtain ⟨j, rfl⟩ := Int.eq_ofNat_of_zero_le h0
        simp only [Int.toNat_natCast] at hl h
        simp only [Option.some.injEq] at h
        subst h
        refine ⟨Nat.le_of_ble_eq_true rfl, ?_⟩
        simp only [entry, List.length_cons, List.length_nil, List.range, List.range.loop, List.zip_cons_cons, List.zip_nil_right]
        have hj : j < R.phases.length := by omega
        have hA := above_push (cs := R.row) (above_self m)
        have hv : (m.push R.row).var m.vars.length = some R.row := push_var
        have f1 := atPh (g := .no) (kk := .i64) hj
        have l1 := lpRcPhases hv
        have nr := newRc (m := m) (x := R)
        generalize m.push R.row = m1 at hA hv l1 nr
        have hbad : R.lastBad j = if (R.phases.getD j ph0).lenU = 3 then decide (((j + 1 : Nat) : Int) < (R.phases.length : Int)) else ((R.stepsOf (R.phases.getD j ph0)).2 != 0) || ((R.stepsOf (R.phases.getD j ph0)).1 == 0) := rfl
        generalize R.phases.getD j ph0 = p at f1 hl hbad
        have z1 := newLen2 (m := m1) (u := 0) (n := 0)
        have z2 := zsLen (m := m1) (u := p.lenU) (n := p.lenN)
        have hA2 := above_push (cs := lenRow p.lenU p.lenN) hA
        have hv2 := push_old (cs' := lenRow p.lenU p.lenN) hv
        have hw2 : (m1.push (lenRow p.lenU p.lenN)).var m1.vars.length = some (lenRow p.lenU p.lenN) := push_var
        have l2 := lpLenU hw2
        have l3 := lpRcPhases hv2
        have l4 := vrRc hv2
        have l5 := vrLen2 hw2
        by_cases h3 : p.lenU = 3
        · have b3 : (p.lenU == 3) = true := by simpa using h3
          rw [if_pos h3] at hbad
          have r1 : IntKind.i64.wrap ((R.phases.length : Int) - 1) = (R.phases.length : Int) - 1 := i64_wrap (by omega) (by omega)
          have e : (!R.lastBad j) = ((j : Int) == (R.phases.length : Int) - 1) := by
            rw [hbad, Bool.eq_iff_iff]
            simp only [Bool.not_eq_true', decide_eq_false_iff_not, beq_iff_eq]
            omega
          rw [e]
          repeat' (first | refine gos1 (jn @nr (jn @l1 (jn @f1 (jn @fePhLen (jn @lePhLen (jn @zrLen (jn @zoLen (jn @z1 (jn @z2 (jn @fpLenU (jn @l2 (jn @b3 (jn @l3 @r1))))))))))))) ?_ | (refine ops_here ?_; (fail_if_success (refine ops_case (B := true) rfl rfl rfl ?_ ?_)); (fail_if_success (refine ops_case (B := false) rfl rfl rfl ?_ ?_)); refine ops_case rfl rfl rfl (fun hB => ?_) (fun hB => ?_) <;> rw [hB]) | (refine runs_here ?_; refine runs_cond rfl (fun hc => ?_) (fun hc => ?_) <;> first | (cases hc; done) | skip))
          exact leaves_fin rfl rfl (above_fin hA2)
        · have b3 : (p.lenU == 3) = false := by simpa using h3
          rw [if_neg h3] at hbad
          have f3 := fun mm => rstepsG_at (m := mm) (R := R) hl hs he
          rw [show stepsP p.lenU p.lenN R.steps R.epoch = R.stepsOf p from rfl] at f3
          have hin := stepsP_in (u := p.lenU) (n := p.lenN) (of := R.steps) (ep := R.epoch)
          rw [show stepsP p.lenU p.lenN R.steps R.epoch = R.stepsOf p from rfl] at hin
          generalize R.stepsOf p = s at f3 hbad hin
          have e : (!R.lastBad j) = ((s.2 == 0) && decide (s.1 > 0)) := by
            rw [hbad, Bool.eq_iff_iff]
            simp only [Bool.not_eq_true', Bool.or_eq_false_iff, bne_eq_false_iff_eq, beq_eq_false_iff_ne, Bool.and_eq_true, beq_iff_eq, decide_eq_true_eq]
            omega
          rw [e]
          cases hz : (s.2 == 0) with
          | true =>
            repeat' (first | refine gos1 (jn @nr (jn @l1 (jn @f1 (jn @fePhLen (jn @lePhLen (jn @zrLen (jn @zoLen (jn @z1 (jn @z2 (jn @fpLenU (jn @l2 (jn @b3 (jn @l4 (jn @l5 (jn @t1 (jn @f3 @hz)))))))))))))))) ?_ | (refine ops_here ?_; (fail_if_success (refine ops_case (B := true) rfl rfl rfl ?_ ?_)); (fail_if_success (refine ops_case (B := false) rfl rfl rfl ?_ ?_)); refine ops_case rfl rfl rfl (fun hB => ?_) (fun hB => ?_) <;> rw [hB]) | (refine runs_here ?_; refine runs_cond rfl (fun hc => ?_) (fun hc => ?_) <;> first | (cases hc; done) | skip))
            exact leaves_fin rfl rfl (above_fin hA2)
          | false =>
            repeat' (first | refine gos1 (jn @nr (jn @l1 (jn @f1 (jn @fePhLen (jn @lePhLen (jn @zrLen (jn @zoLen (jn @z1 (jn @z2 (jn @fpLenU (jn @l2 (jn @b3 (jn @l4 (jn @l5 (jn @t1 (jn @f3 @hz)))))))))))))))) ?_ | (refine ops_here ?_; (fail_if_success (refine ops_case (B := true) rfl rfl rfl ?_ ?_)); (fail_if_success (refine ops_case (B := false) rfl rfl rfl ?_ ?_)); refine ops_case rfl rfl rfl (fun hB => ?_) (fun hB => ?_) <;> rw [hB]) | (refine runs_here ?_; refine runs_cond rfl (fun hc => ?_) (fun hc => ?_) <;> first | (cases hc; done) | skip))
            exact leaves_fin rfl rfl (above_fin hA2)
      · cases h
    · cases h
  · cases h
end Go.Proofs.YtojaokhkbmiidaaGreat.Ev

namespace Go.Proofs.YtojaokhkbmiidaaGreat.Ev
open Go Go.Proofs
set_option maxRecDepth 10000
set_option maxHeartbeats 8000000
set_option linter.unusedVariables false
set_option linter.unusedSimpArgs false
attribute [local irreducible] Next Inside Runs Ops table
attribute [local go_sem] szStr szInt Option.getD_some isNil evStr iv loadStr loadInt mapRc cellsRc newRc fpRcSteps fpRcEpoch fpRcPhases rowsS_len rowsPh_len fePhLen lePhLen
theorem feLenU {x : Ph} : evFieldAddr Tryz.prog 33 (.eptr (x.row.drop 1)) 0 = some (.eptr (x.row.drop 1)) := by kernel_rfl
theorem leLenU {m : Mem} {x : Ph} : evLoad Tryz.prog m 3 (.eptr (x.row.drop 1)) = some (.v (.int .i64 x.lenU)) := by kernel_rfl
def Rc.lensOk (R : Rc) : Prop := R.phases.length ≤ 64 ∧ (∀ p ∈ R.phases, lenMay p.lenU p.lenN) ∧ 0 ≤ R.steps ∧ 0 ≤ R.epoch
instance (R : Rc) : Decidable R.lensOk := by unfold Rc.lensOk; exact inferInstance
def rsumG : List AV → Mem → Option (AV × Mem)
  | [.agg cs], m =>
    match unRc cs with
    | some R => if R.lensOk then some (.v (.bool (!R.sumBad)), m) else none
    | none => none
  | _, _ => none
theorem rsumG_at (R : Rc) (m : Mem) (h : R.lensOk) : rsumG [.agg R.row] m = some (.v (.bool (!R.sumBad)), m) := by
  simp only [rsumG, unRc_row]
  rw [if_pos h]
def kpRSum20 : Nat → Option (List Nat) := fun
  | 0 => some [1]
  | 1 => some [1, 3]
  | 2 => some [1, 3, 4]
  | 3 => some [1, 3, 4, 11]
  | 4 => some [1, 3, 4]
  | 5 => some [1, 3, 4, 21]
  | 6 => some [2]
  | 7 => some [1, 3, 4, 5]
  | 8 => some [1, 3, 4]
  | 9 => some [2]
  | _ => none
attribute [go_sem] kpRSum20
def tab_rsum_ok : List (FuncId × (List AV → Mem → Option (AV × Mem))) := [(49, rstepsG)]
theorem rsum_ok : FunOk Tryz.prog 139 rsumG := by
  have hC := table_ok (P := Tryz.prog) (l := tab_rsum_ok) (table_more rsteps_ok table_nil)
  have t1 := fun args mm => table_at (l := tab_rsum_ok) (f := 49) (args := args) (m := mm) rfl
  refine fun_ok mixed hC Tryz.func139 rfl kpRSum20 false rfl fun args m r h => ?_
  unfold rsumG at h
  split at h
  · rename_i cs
    split at h
    · rename_i R hR
      obtain rfl := unRc_some hR
      split at h
      · rename_i hyp
        obtain ⟨h64, hl, hs, he⟩ := hyp
        simp only [Option.some.injEq] at h
        subst h
        refine ⟨Nat.le_of_ble_eq_true rfl, ?_⟩
        simp only [entry, List.length_cons, List.length_nil, List.range, List.range.loop, List.zip_cons_cons, List.zip_nil_right]
        have hv : (m.push R.row).var m.vars.length = some R.row := push_var
        have l1 := lpRcPhases hv
        have l2 := lpRcSteps hv
        have l4 := vrRc hv
        refine go0 ?_
        refine runs_loop (fun k e m' => ∃ (i : Nat), i ≤ R.phases.length ∧ firstBy restP (R.phases.drop i) i = firstBy restP R.phases 0 ∧ m' = m.push R.row ∧ k = R.phases.length - i ∧
          e = [(1, AV.ptr m.vars.length 0), (3, .v (.int .i64 (accS R i))), (4, .v (.int .i64 (i : Int)))]) (k := R.phases.length) ⟨0, Nat.zero_le _, rfl, rfl, rfl, rfl⟩ ?_
        rintro k e m' ⟨i, hi0, hf, rfl, rfl, rfl⟩
        refine go1 @l1 ?_
        refine runs_cond rfl (fun hc => ?_) (fun hc => ?_)
        · have hi1 : i < R.phases.length := by have := of_decide_eq_true hc; omega
          have f2 := atPh (g := .no) (kk := .i64) hi1
          have eA : accS R (i + 1) = accS R i + (R.stepsOf (R.phases.getD i ph0)).1 := rfl
          have hin := accS_in R (i + 1)
          have hyes := fun hp => by_yes (d := ph0) hi1 hp hf
          have hno := fun hp => by_no (d := ph0) hi1 hp hf
          have hp := hl (R.phases.getD i ph0) (by rw [List.getD, List.getElem?_eq_getElem hi1]; exact List.getElem_mem _)
          generalize R.phases.getD i ph0 = p at f2 eA hyes hno hp
          have r6 := next_i64 (i := i) (by omega)
          cases h3 : (p.lenU == 3) with
          | true =>
            have hx := hyes h3
            have hb : (!R.sumBad) = decide (accS R i < R.steps) := by
              unfold Rc.sumBad
              rw [hx, if_neg (by omega), Int.toNat_natCast, Bool.eq_iff_iff]
              simp only [Bool.not_eq_true', decide_eq_false_iff_not, decide_eq_true_eq]
              omega
            rw [hb]
            refine go1 (jn @l1 (jn @f2 (jn @feLenU (jn @leLenU @h3)))) ?_
            refine runs_cond rfl (fun hc => ?_) (fun hc => by cases hc)
            refine go1 @l2 ?_
            exact leaves_fin rfl rfl fin_push
          | false =>
            have hx := hno h3
            have f3 := fun mm => rstepsG_at (m := mm) (R := R) hp hs he
            rw [show stepsP p.lenU p.lenN R.steps R.epoch = R.stepsOf p from rfl] at f3
            rw [eA] at hin
            have r1 : IntKind.i64.wrap (accS R i + (R.stepsOf p).1) = accS R i + (R.stepsOf p).1 := i64_wrap (by omega) (by omega)
            rw [← eA] at r1
            refine go1 (jn @l1 (jn @f2 (jn @feLenU (jn @leLenU @h3)))) ?_
            refine runs_cond rfl (fun hc => by cases hc) (fun hc => ?_)
            refine go0 ?_
            refine runs_ops_drawn_kept (by kernel_rfl) ?_
            refine go1 (jn @l1 (jn @l4 (jn @f2 (jn @t1 (jn @f3 @r6))))) ?_
            rw [← eA, r1]
            exact ⟨R.phases.length - (i + 1), by omega, i + 1, hi1, hx, rfl, rfl, rfl⟩
        · have hi1 : i = R.phases.length := by have := of_decide_eq_false hc; omega
          subst hi1
          have hx := by_end hf
          have hb : (!R.sumBad) = (accS R R.phases.length == R.steps) := by
            unfold Rc.sumBad
            rw [hx, if_pos (by decide), bne, Bool.not_not]
          rw [hb]
          refine go1 @l2 ?_
          exact leaves_fin rfl rfl fin_push
      · cases h
    · cases h
  · cases h
end Go.Proofs.YtojaokhkbmiidaaGreat.Ev

namespace Go.Proofs.YtojaokhkbmiidaaGreat.Ev
open Go Go.Proofs
set_option maxRecDepth 10000
set_option maxHeartbeats 8000000
set_option linter.unusedVariables false
set_option linter.unusedSimpArgs false
attribute [local irreducible] Next Inside Runs Ops table
/-! ### api.Len -/
structure Ln where
  U : Int
  N : Int
def ln0 : Ln := ⟨0, 0⟩
def Ln.row (x : Ln) : List AV := [iv x.U, iv x.N]
def unLn : List AV → Option Ln
  | [.v (.int .i64 c0), .v (.int .i64 c1)] => some ⟨c0, c1⟩
  | _ => none
theorem unLn_some {cs : List AV} {x : Ln} (h : unLn cs = some x) : cs = x.row := by
  unfold unLn at h
  split at h
  · cases h; rfl
  · cases h
theorem unLn_row (x : Ln) : unLn x.row = some x := by
  rfl
def rowsLn (l : List Ln) : List (List AV) := l.map Ln.row
theorem rowsLn_len (l : List Ln) : (rowsLn l).length = l.length := List.length_map ..
theorem rowsLn_app (l l2 : List Ln) : rowsLn l ++ rowsLn l2 = rowsLn (l ++ l2) := List.map_append.symm
theorem rowsLn_take (l : List Ln) (i : Nat) : (rowsLn l).take i = rowsLn (l.take i) := List.map_take.symm
theorem rowsLn_drop (l : List Ln) (i : Nat) : (rowsLn l).drop i = rowsLn (l.drop i) := List.map_drop.symm
theorem rowsLn_get {l : List Ln} {i : Nat} (hi : i < l.length) : (rowsLn l)[i]? = some (l.getD i ln0).row := by
  simp [rowsLn, List.getD, List.getElem?_eq_getElem hi]
def unsLn : List (List AV) → Option (List Ln)
  | [] => some []
  | row :: r =>
    match unLn row, unsLn r with
    | some x, some l => some (x :: l)
    | _, _ => none
theorem unsLn_some : ∀ {rs : List (List AV)} {l : List Ln}, unsLn rs = some l → rs = rowsLn l
  | [], l, h => by simp only [unsLn, Option.some.injEq] at h; subst h; rfl
  | row :: r, l, h => by
    unfold unsLn at h
    split at h
    · rename_i x l' h1 h2
      cases h
      rw [unLn_some h1, unsLn_some h2]
      rfl
    · cases h
theorem unsLn_rowsLn : ∀ (l : List Ln), unsLn (rowsLn l) = some l
  | [] => rfl
  | x :: l => by
    have e : rowsLn (x :: l) = x.row :: rowsLn l := rfl
    rw [e, unsLn, unLn_row, unsLn_rowsLn l]
theorem elLn : tElem Tryz.prog 151 = some 33 := by simp only [tElem, Tryz.underlying151]
theorem naLn : tArr Tryz.prog 151 = none := by simp only [tArr, Tryz.underlying151]
theorem appLn : appB Tryz.prog 151 151 2 = true := by kernel_rfl
theorem szLn : tSize Tryz.prog 33 = some 2 := by kernel_rfl
theorem agLn : tAgg Tryz.prog 33 = some true := by kernel_rfl
theorem atLn {g : Grow} {kk : IntKind} {l : List Ln} {i : Nat} (hi : i < l.length) : evIndexAddr Tryz.prog 151 (.lst g 2 (rowsLn l)) (.v (.int kk (i : Int))) = some (.eptr (l.getD i ln0).row) := at_list elLn naLn szLn (rowsLn_get hi)
theorem mapLn {x : Ln} : List.map argCell x.row = x.row := rfl
theorem rowLn {x : Ln} : rowOf (.agg x.row) = some x.row := rfl
theorem cellsLn {x : Ln} : cellsOf (.agg x.row) = some x.row := rfl
theorem newLn {m : Mem} {x : Ln} : newVar m m.vars.length x.row = some (m.push x.row) := newVar_push rfl
theorem ldLn {m : Mem} {x : Ln} : evLoad Tryz.prog m 33 (.eptr x.row) = some (.agg x.row) := by kernel_rfl
theorem vrLn {m : Mem} {r : Nat} {x : Ln} (hv : m.var r = some x.row) : evLoad Tryz.prog m 33 (.ptr r 0) = some (.agg x.row) := by
  unfold evLoad
  simp only [ptrCells, hv, Option.map_some, szLn, agLn]
  rfl
def zeroLn : List AV := [.v (.int .i64 0), .v (.int .i64 0)]
theorem zrLn : zeroCells Tryz.prog 33 = some zeroLn := by kernel_rfl
theorem zoLn : zeroLn.all okCell = true := rfl
theorem znLn {m : Mem} : newVar m m.vars.length zeroLn = some (m.push zeroLn) := newVar_push rfl
theorem zsLn {m : Mem} {x : Ln} : evStore Tryz.prog (m.push zeroLn) 33 (.ptr m.vars.length 0) (.agg x.row) = some (m.push x.row) := by
  rw [store_push (cs := x.row) rfl szLn (Nat.le_refl _) rfl]
  rfl
theorem niLn : noIface Tryz.prog 8 33 = true := by kernel_rfl
theorem eqLn {x y : Ln} : eqTy Tryz.prog 8 33 (.agg x.row) (.agg y.row) = some ((x.U == y.U) && ((x.N == y.N) && true)) := by kernel_rfl
theorem mk0Ln : evBuild Tryz.prog 33 [] = some (.agg ln0.row) := by kernel_rfl
theorem feLnU {x : Ln} : evFieldAddr Tryz.prog 33 (.eptr x.row) 0 = some (.eptr x.row) := by kernel_rfl
theorem fpLnU {r : Nat} : evFieldAddr Tryz.prog 33 (.ptr r 0) 0 = some (.ptr r 0) := by kernel_rfl
theorem leLnU {m : Mem} {x : Ln} : evLoad Tryz.prog m 3 (.eptr x.row) = some (iv x.U) := by kernel_rfl
theorem lpLnU {m : Mem} {r : Nat} {x : Ln} (hv : m.var r = some x.row) : evLoad Tryz.prog m 3 (.ptr r 0) = some (iv x.U) := by
  unfold evLoad
  simp only [ptrCells, hv, Option.map_some]
  rw [show tAgg Tryz.prog 3 = some false by kernel_rfl, show tSize Tryz.prog 3 = some 1 by kernel_rfl]
  rfl
theorem feLnN {x : Ln} : evFieldAddr Tryz.prog 33 (.eptr x.row) 1 = some (.eptr (x.row.drop 1)) := by kernel_rfl
theorem fpLnN {r : Nat} : evFieldAddr Tryz.prog 33 (.ptr r 0) 1 = some (.ptr r 1) := by kernel_rfl
theorem leLnN {m : Mem} {x : Ln} : evLoad Tryz.prog m 3 (.eptr (x.row.drop 1)) = some (iv x.N) := by kernel_rfl
theorem lpLnN {m : Mem} {r : Nat} {x : Ln} (hv : m.var r = some x.row) : evLoad Tryz.prog m 3 (.ptr r 1) = some (iv x.N) := by
  unfold evLoad
  simp only [ptrCells, hv, Option.map_some]
  rw [show tAgg Tryz.prog 3 = some false by kernel_rfl, show tSize Tryz.prog 3 = some 1 by kernel_rfl]
  rfl
end Go.Proofs.YtojaokhkbmiidaaGreat.Ev

namespace Go.Proofs.YtojaokhkbmiidaaGreat.Ev
open Go Go.Proofs
set_option maxRecDepth 10000
set_option maxHeartbeats 8000000
set_option linter.unusedVariables false
set_option linter.unusedSimpArgs false
attribute [local irreducible] Next Inside Runs Ops table
attribute [local go_sem] szStr szInt Option.getD_some isNil evStr iv mapRc cellsRc newRc rowsFl_len
theorem named_len {l : List ByteArray} {n : Int} (h : namedB l n = true) : (l.length : Int) ≤ n := by
  unfold namedB at h
  simp only [Bool.and_eq_true, decide_eq_true_eq] at h
  exact h.1
theorem checkT_len {l : List Nd} (h : checkT l = 0) : l.length ≤ 64 := by
  unfold checkT at h
  split at h
  · cases h
  · omega
theorem Rc.may_small {R : Rc} (h : R.may = true) : R.small := by
  unfold Rc.may Rc.headBad Rc.listBad Rc.phBad at h
  simp only [Bool.and_eq_true, Bool.not_eq_true', Bool.or_eq_false_iff, decide_eq_false_iff_not, Bool.not_eq_false'] at h
  obtain ⟨_, ⟨h1, h2, _⟩, h3, h4, _⟩ := h
  have n1 := named_len h1
  have n2 := named_len h2
  refine ⟨by omega, by omega, by omega, fun p hp => ?_⟩
  have hq := List.any_eq_false.1 h4 p hp
  simp only [phNot, phMay, Bool.not_eq_true', Bool.not_eq_false, Bool.and_eq_true, decide_eq_true_eq, Bool.not_eq_false'] at hq
  obtain ⟨_, _, h5, h6, h7⟩ := hq
  have n5 := named_len h5
  refine ⟨by omega, by omega, fun s hs => ?_⟩
  have h7' : p.sets.any setNot = false := by first | exact h7 | simpa using h7
  have hr := List.any_eq_false.1 h7' s hs
  simp only [setNot, setMay, Bool.not_eq_true', Bool.not_eq_false, Bool.and_eq_true, beq_iff_eq] at hr
  have := checkT_len hr.2.2.2
  omega
theorem flawIf_le (b : Bool) (rule i k : Int) : (flawIf b rule i k).length ≤ 4096 := by have := flawIf_len b rule i k; omega
theorem upto_le1 {n : Nat} {b : Nat → Bool} {rule : Int} {f g : Nat → Int} (hn : n ≤ 64) : (upto n fun i => flawIf (b i) rule (f i) (g i)).length ≤ 64 := by
  have := @upto_len (fun i => flawIf (b i) rule (f i) (g i)) 1 n fun k _ => flawIf_len ..
  omega
theorem upto_le2 {n : Nat} {F : Nat → List Fl} (hn : n ≤ 64) (h : ∀ i, i < n → (F i).length ≤ 64) : (upto n F).length ≤ 4096 := by
  have := @upto_len F 64 n h
  omega
theorem brkL_len {R : Rc} (h : R.small) (rule : Int) : (brkL R rule).length ≤ 4096 := by
  have hp := fun i => h.phase i
  unfold brkL
  by_cases e1 : rule = 1
  · rw [if_pos e1]; exact flawIf_le _ _ _ _
  rw [if_neg e1]
  by_cases e2 : rule = 2
  · rw [if_pos e2]; exact flawIf_le _ _ _ _
  rw [if_neg e2]
  by_cases e3 : rule = 3
  · rw [if_pos e3]; exact flawIf_le _ _ _ _
  rw [if_neg e3]
  by_cases e4 : rule = 4
  · rw [if_pos e4]; have := @upto_le1 R.metrics.length (fun i => decide (placeOf R.metrics (R.metrics.getD i ⟨#[]⟩) < (i : Int))) 4 (fun i => (i : Int)) (fun _ => 0) h.1; unfold twinsL; omega
  rw [if_neg e4]
  by_cases e5 : rule = 5
  · rw [if_pos e5]; have := @upto_le1 R.groups.length (fun i => decide (placeOf R.groups (R.groups.getD i ⟨#[]⟩) < (i : Int))) 5 (fun i => (i : Int)) (fun _ => 0) h.2.1; unfold twinsL; omega
  rw [if_neg e5]
  by_cases e6 : rule = 6
  · rw [if_pos e6]; exact flawIf_le _ _ _ _
  rw [if_neg e6]
  by_cases e7 : rule = 7
  · rw [if_pos e7]; have := @upto_le1 (R.phases.map Ph.name).length (fun i => decide (placeOf (R.phases.map Ph.name) ((R.phases.map Ph.name).getD i ⟨#[]⟩) < (i : Int))) 7 (fun i => (i : Int)) (fun _ => 0) (by rw [List.length_map]; exact h.2.2.1); unfold twinsL; omega
  rw [if_neg e7]
  by_cases e8 : rule = 8
  · rw [if_pos e8]; have := @upto_le1 R.phases.length (fun i => R.lastBad i) 8 (fun i => (i : Int)) (fun _ => 0) h.2.2.1; unfold lastsL; omega
  rw [if_neg e8]
  by_cases e9 : rule = 9
  · rw [if_pos e9]; unfold sumL; split; exact flawIf_le _ _ _ _; simp
  rw [if_neg e9]
  by_cases e10 : rule = 10
  · rw [if_pos e10]; exact upto_le2 h.2.2.1 fun i _ => upto_le1 (hp i).1
  rw [if_neg e10]
  by_cases e11 : rule = 11
  · rw [if_pos e11]; exact upto_le2 h.2.2.1 fun i _ => upto_le1 (hp i).2.1
  rw [if_neg e11]
  by_cases e12 : rule = 12
  · rw [if_pos e12]; exact upto_le2 h.2.2.1 fun i _ => upto_le1 (hp i).2.1
  rw [if_neg e12]
  by_cases e13 : rule = 13
  · rw [if_pos e13]; exact upto_le2 h.2.2.1 fun i _ => upto_le1 (hp i).2.1
  rw [if_neg e13]
  by_cases e14 : rule = 14
  · rw [if_pos e14]; exact flawIf_le _ _ _ _
  rw [if_neg e14]
  by_cases e15 : rule = 15
  · rw [if_pos e15]; exact flawIf_le _ _ _ _
  rw [if_neg e15]
  by_cases e16 : rule = 16
  · rw [if_pos e16]; exact flawIf_le _ _ _ _
  rw [if_neg e16]
  by_cases e17 : rule = 17
  · rw [if_pos e17]; exact flawIf_le _ _ _ _
  rw [if_neg e17]
  by_cases e18 : rule = 18
  · rw [if_pos e18]; exact flawIf_le _ _ _ _
  rw [if_neg e18]
  by_cases e19 : rule = 19
  · rw [if_pos e19]; exact flawIf_le _ _ _ _
  rw [if_neg e19]
  simp
/-- As app_growsA; the variables stay. -/
theorem app_growsV {P : Program} {m : Mem} {t t2 : TypeId} {k : Nat} (ha : appB P t t2 k = true) {g : Grow} {m' : Mem} (hG : GrowsA m g m') {y : AV} {g2 : Grow} {xs ys : List (List AV)} (hy : asList k y = some (g2, ys)) (hl : xs.length + ys.length ≤ lim) :
    ∃ g' m'', evAppend P t t2 m' (.lst g k xs) y = some (.lst g' k (xs ++ ys), m'') ∧ GrowsA m g' m'' ∧ ∀ q, m''.var q = m'.var q := by
  obtain ⟨m1, h1, L, rfl⟩ := hG
  rcases h1 with ⟨rfl, rfl⟩ | ⟨v, rfl, rfl⟩
  · refine ⟨_, _, app_of ha asList_lst hy hl, ⟨m1.tk [0], grows_tok, L, rfl⟩, fun q => rfl⟩
  · refine ⟨_, { vars := m.vars ++ L, toks := m.toks ++ [v + 1] }, ?_, ⟨m.tk [v + 1], grows_tok, L, rfl⟩, fun q => rfl⟩
    rw [app_of ha asList_lst hy hl]
    have h : ({ vars := (m.tk [v]).vars ++ L, toks := (m.tk [v]).toks } : Mem).toks[m.toks.length]? = some v := by simp [Mem.tk]
    simp only [h, if_true]
    simp [Mem.tk, List.set_append]
def flawsTo (R : Rc) (n : Nat) : List Fl := upto n fun k => brkL R ((k + 1 : Nat) : Int)
def Rc.flaws (R : Rc) : List Fl := if R.may = true then flawsTo R 19 else []
def checkOfG : List AV → Mem → Option (AV × Mem)
  | [.agg cs], m =>
    match unRc cs with
    | some R => if R.fit then some (.tup [.lst .no 3 (rowsFl R.flaws), .v (.int .i64 (if R.may then 0 else 1))], m) else none
    | none => none
  | _, _ => none
theorem checkOfG_at (R : Rc) (m : Mem) (h : R.fit) : checkOfG [.agg R.row] m = some (.tup [.lst .no 3 (rowsFl R.flaws), .v (.int .i64 (if R.may then 0 else 1))], m) := by
  simp only [checkOfG, unRc_row]
  rw [if_pos h]
def kpCheckOf : Nat → Option (List Nat) := fun
  | 0 => some [1]
  | 1 => some [1, 4]
  | 2 => some [1, 4, 10]
  | 3 => some [2, 3]
  | 4 => some [1, 5]
  | 5 => some [1, 5, 6]
  | 6 => some [1, 5, 6, 13]
  | 7 => some [1, 5, 6]
  | 8 => some [1, 5, 6]
  | 9 => some [2, 3]
  | _ => none
attribute [go_sem] kpCheckOf
def tab_checkOf_ok : List (FuncId × (List AV → Mem → Option (AV × Mem))) := [(37, mayRG), (38, brokenG)]
theorem checkOf_ok : FunOk Tryz.prog 11 checkOfG := by
  have hC := table_ok (P := Tryz.prog) (l := tab_checkOf_ok) (table_more mayR_ok (table_more broken_ok table_nil))
  have t1 := fun args mm => table_at (l := tab_checkOf_ok) (f := 37) (args := args) (m := mm) rfl
  have t2 := fun args mm => table_at (l := tab_checkOf_ok) (f := 38) (args := args) (m := mm) rfl
  refine fun_ok mixed hC Tryz.func11 rfl kpCheckOf false rfl fun args m r h => ?_
  unfold checkOfG at h
  split at h
  · rename_i cs
    split at h
    · rename_i R hR
      obtain rfl := unRc_some hR
      split at h
      · rename_i hfit
        simp only [Option.some.injEq] at h
        subst h
        refine ⟨Nat.le_of_ble_eq_true rfl, ?_⟩
        simp only [entry, List.length_cons, List.length_nil, List.range, List.range.loop, List.zip_cons_cons, List.zip_nil_right]
        have hv : (m.push R.row).var m.vars.length = some R.row := push_var
        have l1 := vrRc hv
        have f1 := fun mm => mayRG_at R mm hfit
        unfold Rc.flaws
        cases hm : R.may with
        | false =>
          rw [hm] at f1
          have b1 : ((1 : Int) != 0) = true := rfl
          have i1 : (if false = true then (0 : Int) else 1) = 1 := rfl
          rw [i1] at f1
          refine go1 (jn @l1 (jn @t1 (jn @f1 @b1))) ?_
          refine runs_cond rfl (fun hc => ?_) (fun hc => by cases hc)
          refine go0 ?_
          exact leaves_two rfl rfl rfl fin_push
        | true =>
          rw [hm] at f1
          have hsm := Rc.may_small hm
          have b1 : ((0 : Int) != 0) = false := rfl
          have i1 : (if true = true then (0 : Int) else 1) = 0 := rfl
          rw [i1] at f1
          refine go1 (jn @l1 (jn @t1 (jn @f1 @b1))) ?_
          refine runs_cond rfl (fun hc => by cases hc) (fun hc => ?_)
          refine go0 ?_
          have hG0 : GrowsA m .full (m.push R.row) := growsA_push growsA_full
          refine runs_loop (fun k e m' => ∃ (i : Nat) (gr : Grow), i ≤ 19 ∧ GrowsA m gr m' ∧ m'.var m.vars.length = some R.row ∧ k = 19 - i ∧
            e = [(1, AV.ptr m.vars.length 0), (5, .lst gr 3 (rowsFl (flawsTo R i))), (6, .v (.int .i64 ((i + 1 : Nat) : Int)))]) (k := 19) ⟨0, _, Nat.zero_le _, hG0, hv, rfl, rfl⟩ ?_
          rintro k e m' ⟨i, gr, hi0, hG, hw, rfl, rfl⟩
          refine go0 ?_
          refine runs_cond rfl (fun hc => ?_) (fun hc => ?_)
          · have hi1 : i < 19 := by have := of_decide_eq_true hc; omega
            have l2 := vrRc hw
            have f2 := fun mm => brokenG_at (m := mm) (R := R) (rule := ((i + 1 : Nat) : Int)) hsm hfit (by omega)
            have hN : flawsTo R (i + 1) = flawsTo R i ++ brkL R ((i + 1 : Nat) : Int) := upto_next
            have hl1 : (flawsTo R i).length ≤ i * 4096 := upto_len i fun k _ => brkL_len hsm _
            have hl2 := brkL_len hsm ((i + 1 : Nat) : Int)
            have r6 := next_i64 (i := i + 1) (by omega)
            generalize ((i + 1 : Nat) : Int) = j at f2 hN hl2 r6
            obtain ⟨g2, m2, a1, hG2, hV⟩ := app_growsV appFl hG (y := .lst .no 3 (rowsFl (brkL R j))) asList_lst (xs := rowsFl (flawsTo R i)) (by rw [rowsFl_len, rowsFl_len]; unfold lim; omega)
            rw [rowsFl_app, ← hN] at a1
            refine go1 (jn @l2 (jn @t2 (jn @f2 (jn @a1 @r6)))) ?_
            exact ⟨19 - (i + 1), by omega, i + 1, _, hi1, hG2, by rw [hV]; exact hw, rfl, rfl⟩
          · have hi1 : i = 19 := by have := of_decide_eq_false hc; omega
            subst hi1
            refine go0 ?_
            exact leaves_two rfl rfl rfl (growsA_fin hG)
      · cases h
    · cases h
  · cases h
def Rc.sound (R : Rc) : Bool := R.may && ((((R.flaws).length : Nat) : Int) == 0)
def soundG : List AV → Mem → Option (AV × Mem)
  | [.agg cs], m =>
    match unRc cs with
    | some R => if R.fit then some (.v (.bool R.sound), m) else none
    | none => none
  | _, _ => none
theorem soundG_at (R : Rc) (m : Mem) (h : R.fit) : soundG [.agg R.row] m = some (.v (.bool R.sound), m) := by
  simp only [soundG, unRc_row]
  rw [if_pos h]
def kpSound : Nat → Option (List Nat) := fun
  | 0 => some [1]
  | 1 => some [3, 4]
  | 2 => some [2]
  | _ => none
attribute [go_sem] kpSound
def tab_sound_ok : List (FuncId × (List AV → Mem → Option (AV × Mem))) := [(11, checkOfG)]
theorem sound_ok : FunOk Tryz.prog 12 soundG := by
  have hC := table_ok (P := Tryz.prog) (l := tab_sound_ok) (table_more checkOf_ok table_nil)
  have t1 := fun args mm => table_at (l := tab_sound_ok) (f := 11) (args := args) (m := mm) rfl
  refine fun_ok mixed hC Tryz.func12 rfl kpSound false rfl fun args m r h => ?_
  unfold soundG at h
  split at h
  · rename_i cs
    split at h
    · rename_i R hR
      obtain rfl := unRc_some hR
      split at h
      · rename_i hfit
        simp only [Option.some.injEq] at h
        subst h
        refine ⟨Nat.le_of_ble_eq_true rfl, ?_⟩
        simp only [entry, List.length_cons, List.length_nil, List.range, List.range.loop, List.zip_cons_cons, List.zip_nil_right]
        have l1 := vrRc (x := R) (push_var (m := m))
        have f1 := fun mm => checkOfG_at R mm hfit
        unfold Rc.sound
        cases hm : R.may with
        | false =>
          rw [hm, show (if false = true then (0 : Int) else 1) = 1 from rfl] at f1
          have b1 : ((1 : Int) == 0) = false := rfl
          refine go1 (jn @l1 (jn @t1 (jn @f1 @b1))) ?_
          exact leaves_fin rfl rfl fin_push
        | true =>
          rw [hm, show (if true = true then (0 : Int) else 1) = 0 from rfl] at f1
          have b1 : ((0 : Int) == 0) = true := rfl
          refine go1 (jn @l1 (jn @t1 (jn @f1 @b1))) ?_
          exact leaves_fin rfl rfl fin_push
      · cases h
    · cases h
  · cases h
end Go.Proofs.YtojaokhkbmiidaaGreat.Ev

namespace Go.Proofs.YtojaokhkbmiidaaGreat.Ev
open Go Go.Proofs
set_option maxRecDepth 10000
set_option maxHeartbeats 8000000
set_option linter.unusedVariables false
set_option linter.unusedSimpArgs false
attribute [local irreducible] Next Inside Runs Ops table
attribute [local go_sem] szStr szInt Option.getD_some isNil evStr loadStr loadInt mapRc cellsRc newRc fpRcPhases fpRcSwa fpRcSwaOn fpRcSwaFrom rowsPh_len rowsGs_len rowsN_len fePhLen lePhLen fePhSets lePhSets feGsNodes leGsNodes iv
theorem feNdLen {x : Nd} : evFieldAddr Tryz.prog 102 (.eptr x.row) 5 = some (.eptr [iv x.u, iv x.n]) := by kernel_rfl
attribute [local go_sem] feNdLen
theorem leNdLen {m : Mem} {u n : Int} : evLoad Tryz.prog m 33 (.eptr [.v (.int .i64 u), .v (.int .i64 n)]) = some (.agg [.v (.int .i64 u), .v (.int .i64 n)]) := by kernel_rfl
attribute [local go_sem] leNdLen
theorem mkLn0 : evBuildSlice Tryz.prog 151 0 [] = some (.lst .full 2 []) := build_nil appLn
attribute [local go_sem] mkLn0
theorem mkLn1 {u n : Int} : evBuildSlice Tryz.prog 151 1 [(0, .agg [.v (.int .i64 u), .v (.int .i64 n)])] = some (.lst .full 2 [[.v (.int .i64 u), .v (.int .i64 n)]]) := build_rows appLn rfl rfl (by decide)
attribute [local go_sem] mkLn1
def setLens (s : Gs) : List Ln := s.nodes.map fun x => ⟨x.u, x.n⟩
def phLens (p : Ph) : List Ln := ⟨p.lenU, p.lenN⟩ :: p.sets.flatMap setLens
def Rc.lens (R : Rc) : List Ln := R.phases.flatMap phLens ++ (if R.swaOn then [⟨R.swaFromU, R.swaFromN⟩] else [])
theorem flat_len {α β : Type} {f : α → List β} {c : Nat} : ∀ (l : List α), (∀ x ∈ l, (f x).length ≤ c) → (l.flatMap f).length ≤ l.length * c
  | [], _ => by simp
  | x :: l, h => by
    have h1 := h x (List.mem_cons_self ..)
    have h2 := flat_len l fun y hy => h y (List.mem_cons_of_mem _ hy)
    rw [List.flatMap_cons, List.length_append, List.length_cons, Nat.add_mul]
    omega
theorem setLens_len {s : Gs} (h : s.nodes.length ≤ 100) : (setLens s).length ≤ 100 := by unfold setLens; rw [List.length_map]; exact h
theorem take_len {α β : Type} {f : α → List β} {c : Nat} {l : List α} {i : Nat} (h : ∀ x ∈ l, (f x).length ≤ c) (hi : i ≤ l.length) : ((l.take i).flatMap f).length ≤ i * c := by
  have := flat_len (l.take i) fun x hx => h x (List.mem_of_mem_take hx)
  rw [List.length_take, Nat.min_eq_left hi] at this
  exact this
theorem phLens_len {R : Rc} (h : R.small) : ∀ p ∈ R.phases, (phLens p).length ≤ 6401 := fun p hp => by
  have := h.2.2.2 p hp
  have h2 := flat_len (f := setLens) p.sets fun s hs => setLens_len (this.2.2 s hs)
  have h3 := Nat.mul_le_mul_right 100 this.2.1
  unfold phLens
  rw [List.length_cons]
  omega
theorem rowsLn1 {u n : Int} : ([[.v (.int .i64 u), .v (.int .i64 n)]] : List (List AV)) = rowsLn [⟨u, n⟩] := rfl
def lensG : List AV → Mem → Option (AV × Mem)
  | [.agg cs], m =>
    match unRc cs with
    | some R => if R.small then some (.lst .no 2 (rowsLn R.lens), m) else none
    | none => none
  | _, _ => none
theorem lensG_at (R : Rc) (m : Mem) (h : R.small) : lensG [.agg R.row] m = some (.lst .no 2 (rowsLn R.lens), m) := by
  simp only [lensG, unRc_row]
  rw [if_pos h]
theorem app_ln {m m' : Mem} {g g2 : Grow} (hG : GrowsA m g m') (xs : List Ln) (u n : Int) (hl : xs.length ≤ 1000000) :
    ∃ g' m'', evAppend Tryz.prog 151 151 m' (.lst g 2 (rowsLn xs)) (.lst g2 2 [[.v (.int .i64 u), .v (.int .i64 n)]]) = some (.lst g' 2 (rowsLn (xs ++ [⟨u, n⟩])), m'') ∧ GrowsA m g' m'' ∧ ∀ q, m''.var q = m'.var q := by
  have := app_growsV appLn hG (y := .lst g2 2 [[.v (.int .i64 u), .v (.int .i64 n)]]) asList_lst (xs := rowsLn xs) (by rw [rowsLn_len]; unfold lim; simp; omega)
  rwa [rowsLn1, rowsLn_app] at this
def kpLens20 : Nat → Option (List Nat) := fun
  | 0 => some [1]
  | 1 => some [1, 3]
  | 2 => some [1, 3, 4]
  | 3 => some [1, 3, 4, 12]
  | 4 => some [1, 3, 4]
  | 5 => some [1, 3, 4]
  | 6 => some [1, 3, 4, 5]
  | 7 => some [1, 3, 4, 5, 32]
  | 8 => some [1, 3, 4, 5]
  | 9 => some [1, 3, 4, 5, 6]
  | 10 => some [1, 3, 4, 5, 6, 47]
  | 11 => some [1, 3, 4, 5, 6]
  | 12 => some [1, 3, 4, 5, 6]
  | 13 => some [1, 3, 69]
  | 14 => some [3]
  | 15 => some [2]
  | _ => none
attribute [go_sem] kpLens20
theorem lens_ok : FunOk Tryz.prog 138 lensG := by
  have hC := table_ok (P := Tryz.prog) (l := []) table_nil
  refine fun_ok mixed hC Tryz.func138 rfl kpLens20 false rfl fun args m r h => ?_
  unfold lensG at h
  split at h
  · rename_i cs
    split at h
    · rename_i R hR
      obtain rfl := unRc_some hR
      split at h
      · rename_i hsm
        simp only [Option.some.injEq] at h
        subst h
        have hP64 := hsm.2.2.1
        refine ⟨Nat.le_of_ble_eq_true rfl, ?_⟩
        simp only [entry, List.length_cons, List.length_nil, List.range, List.range.loop, List.zip_cons_cons, List.zip_nil_right]
        have hv : (m.push R.row).var m.vars.length = some R.row := push_var
        have hG0 : GrowsA m .full (m.push R.row) := growsA_push growsA_full
        refine go0 ?_
        refine runs_loop (fun k e m' => ∃ (i : Nat) (gr : Grow), i ≤ R.phases.length ∧ GrowsA m gr m' ∧ m'.var m.vars.length = some R.row ∧ k = R.phases.length - i ∧
          e = [(1, AV.ptr m.vars.length 0), (3, .lst gr 2 (rowsLn ((R.phases.take i).flatMap phLens))), (4, .v (.int .i64 (i : Int)))]) (k := R.phases.length) ⟨0, _, Nat.zero_le _, hG0, hv, rfl, rfl⟩ ?_
        rintro k e m' ⟨i, gr, hi0, hG, hw, rfl, rfl⟩
        have l1 := lpRcPhases hw
        refine go1 @l1 ?_
        refine runs_cond rfl (fun hc => ?_) (fun hc => ?_)
        · have hi1 : i < R.phases.length := by have := of_decide_eq_true hc; omega
          have f2 := atPh (g := .no) (kk := .i64) hi1
          have hp := hsm.phase i
          have hN := flat_next (f := phLens) (d := ph0) hi1
          have hB := take_len (phLens_len hsm) hi0
          have hph : phLens (R.phases.getD i ph0) = ⟨(R.phases.getD i ph0).lenU, (R.phases.getD i ph0).lenN⟩ :: (R.phases.getD i ph0).sets.flatMap setLens := rfl
          generalize R.phases.getD i ph0 = p at f2 hp hN hph
          generalize (R.phases.take i).flatMap phLens = acc at hG hN hB
          obtain ⟨g1, m1, a1, hG1, hV1⟩ := app_ln (g2 := .full) hG acc p.lenU p.lenN (by omega)
          have hw1 : m1.var m.vars.length = some R.row := by rw [hV1]; exact hw
          refine go1 (jn @l1 (jn @f2 @a1)) ?_
          refine runs_loop (fun k e m' => ∃ (j : Nat) (gr : Grow), j ≤ p.sets.length ∧ GrowsA m gr m' ∧ m'.var m.vars.length = some R.row ∧ k = p.sets.length - j ∧
            e = [(1, AV.ptr m.vars.length 0), (3, .lst gr 2 (rowsLn (acc ++ [⟨p.lenU, p.lenN⟩] ++ (p.sets.take j).flatMap setLens))), (4, .v (.int .i64 (i : Int))), (5, .v (.int .i64 (j : Int)))]) (k := p.sets.length) ⟨0, _, Nat.zero_le _, hG1, hw1, rfl, by rw [List.take_zero, List.flatMap_nil, List.append_nil]; rfl⟩ ?_
          rintro k e m2 ⟨j, gr2, hj0, hG2, hw2, rfl, rfl⟩
          have l2 := lpRcPhases hw2
          refine go1 (jn @l2 @f2) ?_
          refine runs_cond rfl (fun hc => ?_) (fun hc => ?_)
          · have hj1 : j < p.sets.length := by have := of_decide_eq_true hc; omega
            have f3 := atGs (g := .no) (kk := .i64) hj1
            have hN2 := flat_next (f := setLens) (d := gs0) hj1
            have hB2 := take_len (fun s hs => setLens_len (hp.2.2 s hs)) hj0
            have hs : (p.sets.getD j gs0).nodes.length ≤ 100 := hp.2.2 _ (by rw [List.getD, List.getElem?_eq_getElem hj1]; exact List.getElem_mem _)
            have hse : setLens (p.sets.getD j gs0) = (p.sets.getD j gs0).nodes.map fun x => ⟨x.u, x.n⟩ := rfl
            generalize p.sets.getD j gs0 = s at f3 hN2 hs hse
            generalize (p.sets.take j).flatMap setLens = acc2 at hG2 hN2 hB2
            have hp2 := hp.2.1
            refine go0 ?_
            refine runs_loop (fun k e m' => ∃ (t : Nat) (gr : Grow), t ≤ s.nodes.length ∧ GrowsA m gr m' ∧ m'.var m.vars.length = some R.row ∧ k = s.nodes.length - t ∧
              e = [(1, AV.ptr m.vars.length 0), (3, .lst gr 2 (rowsLn (acc ++ [⟨p.lenU, p.lenN⟩] ++ acc2 ++ (s.nodes.take t).map fun x => ⟨x.u, x.n⟩))), (4, .v (.int .i64 (i : Int))), (5, .v (.int .i64 (j : Int))), (6, .v (.int .i64 (t : Int)))]) (k := s.nodes.length) ⟨0, _, Nat.zero_le _, hG2, hw2, rfl, by rw [List.take_zero, List.map_nil, List.append_nil]; rfl⟩ ?_
            rintro k e m3 ⟨t, gr3, ht0, hG3, hw3, rfl, rfl⟩
            have l3 := lpRcPhases hw3
            refine go1 (jn @l3 (jn @f2 @f3)) ?_
            refine runs_cond rfl (fun hc => ?_) (fun hc => ?_)
            · have ht1 : t < s.nodes.length := by have := of_decide_eq_true hc; omega
              have f4 := atNodes (g := .no) (kk := .i64) ht1
              have hN3 : (s.nodes.take (t + 1)).map (fun x => (⟨x.u, x.n⟩ : Ln)) = (s.nodes.take t).map (fun x => ⟨x.u, x.n⟩) ++ [⟨(s.nodes.getD t nd0).u, (s.nodes.getD t nd0).n⟩] := by rw [take_next (d := nd0) ht1, List.map_append]; rfl
              have hB3 : ((s.nodes.take t).map (fun x => (⟨x.u, x.n⟩ : Ln))).length ≤ 100 := by rw [List.length_map, List.length_take]; omega
              generalize s.nodes.getD t nd0 = x at f4 hN3
              generalize (s.nodes.take t).map (fun x => (⟨x.u, x.n⟩ : Ln)) = acc3 at hG3 hN3 hB3
              obtain ⟨g4, m4, a4, hG4, hV4⟩ := app_ln (g2 := .full) hG3 (acc ++ [⟨p.lenU, p.lenN⟩] ++ acc2 ++ acc3) x.u x.n (by simp only [List.length_append, List.length_cons, List.length_nil]; omega)
              have r6 := next_i64 (i := t) (by omega)
              refine go1 (jn @l3 (jn @f2 (jn @f3 (jn @f4 (jn @a4 @r6))))) ?_
              exact ⟨s.nodes.length - (t + 1), by omega, t + 1, _, ht1, hG4, by rw [hV4]; exact hw3, rfl, by rw [hN3, ← List.append_assoc]⟩
            · have ht1 : t = s.nodes.length := by have := of_decide_eq_false hc; omega
              subst ht1
              have r6 := next_i64 (i := j) (by omega)
              rw [List.take_length, ← hse, List.append_assoc _ acc2, ← hN2]
              refine go1 @r6 ?_
              exact ⟨p.sets.length - (j + 1), by omega, j + 1, _, hj1, hG3, hw3, rfl, rfl⟩
          · have hj1 : j = p.sets.length := by have := of_decide_eq_false hc; omega
            subst hj1
            have r6 := next_i64 (i := i) (by omega)
            rw [List.take_length, List.append_assoc acc, List.singleton_append, ← hph, ← hN]
            refine go1 @r6 ?_
            exact ⟨R.phases.length - (i + 1), by omega, i + 1, _, hi1, hG2, hw2, rfl, rfl⟩
        · have hi1 : i = R.phases.length := by have := of_decide_eq_false hc; omega
          subst hi1
          rw [List.take_length]
          have hB := flat_len R.phases (phLens_len hsm)
          have y1 := lpRcSwaOn hw
          have y2 := lpRcSwaFrom hw
          unfold Rc.lens
          cases hq : R.swaOn with
          | true =>
            obtain ⟨g4, m4, a4, hG4, hV4⟩ := app_ln (g2 := .full) hG (R.phases.flatMap phLens) R.swaFromU R.swaFromN (by omega)
            repeat' (first | refine gos1 (jn @y1 (jn @hq (jn @y2 @a4))) ?_ | (refine ops_here ?_; (fail_if_success (refine ops_case (B := true) rfl rfl rfl ?_ ?_)); (fail_if_success (refine ops_case (B := false) rfl rfl rfl ?_ ?_)); refine ops_case rfl rfl rfl (fun hB => ?_) (fun hB => ?_) <;> rw [hB]) | (refine runs_here ?_; refine runs_cond rfl (fun hc => ?_) (fun hc => ?_) <;> first | (cases hc; done) | skip))
            exact leaves_lst rfl rfl (growsA_fin hG4)
          | false =>
            rw [if_neg (by decide), List.append_nil]
            repeat' (first | refine gos1 (jn @y1 @hq) ?_ | (refine ops_here ?_; (fail_if_success (refine ops_case (B := true) rfl rfl rfl ?_ ?_)); (fail_if_success (refine ops_case (B := false) rfl rfl rfl ?_ ?_)); refine ops_case rfl rfl rfl (fun hB => ?_) (fun hB => ?_) <;> rw [hB]) | (refine runs_here ?_; refine runs_cond rfl (fun hc => ?_) (fun hc => ?_) <;> first | (cases hc; done) | skip))
            exact leaves_lst rfl rfl (growsA_fin hG)
      · cases h
    · cases h
  · cases h
end Go.Proofs.YtojaokhkbmiidaaGreat.Ev

namespace Go.Proofs.YtojaokhkbmiidaaGreat.Ev
open Go Go.Proofs
set_option maxRecDepth 10000
set_option maxHeartbeats 8000000
set_option linter.unusedVariables false
set_option linter.unusedSimpArgs false
attribute [local irreducible] Next Inside Runs Ops table
theorem endW_all9 : ∀ (xs : List Nd) (k p : Nat), (∀ x ∈ xs, x.op = 9) → endW xs (k + 1) p = -1
  | [], k, p, _ => rfl
  | x :: r, k, p, h => by
    have hx := h x (List.mem_cons_self ..)
    have ha : arityOf x.op = 2 := by rw [hx]; rfl
    rw [endW, ha, if_neg (by omega)]
    have := endW_all9 r (k + 1) (p + 1) fun y hy => h y (List.mem_cons_of_mem _ hy)
    first | exact this | (rw [show k + (2 : Int).toNat = k + 1 + 1 from rfl]; exact this)
theorem any_badN {l : List Nd} (h : l.any badN = false) {x : Nd} (hx : x ∈ l) : mayN x := by
  have := List.any_eq_false.1 h x hx
  simpa [badN] using this
theorem checkT_parts {l : List Nd} (h : checkT l = 0) : 0 < l.length ∧ l.length ≤ 64 ∧ endOf l 0 = (l.length : Int) ∧ ∀ x ∈ l, mayN x := by
  unfold checkT at h
  split at h
  · cases h
  · split at h
    · cases h
    · split at h
      · cases h
      · rename_i h1 h2 h3
        have hw : wholeB l = true := by
          cases hw : wholeB l with
          | true => rfl
          | false => exact absurd (.inl hw) h2
        have hb : l.any badN = false := by
          cases hb : l.any badN with
          | false => rfl
          | true => exact absurd (.inr hb) h2
        unfold wholeB at hw
        simp only [Bool.and_eq_true, decide_eq_true_eq] at hw
        exact ⟨hw.1.1, hw.1.2, hw.2, fun x hx => any_badN hb hx⟩
theorem nums_ends {l : List Nd} (h : ∀ x ∈ l, mayN x) : l.flatMap numsN = l.flatMap endsN := by
  induction l with
  | nil => rfl
  | cons x l ih =>
    rw [List.flatMap_cons, List.flatMap_cons, ih fun y hy => h y (List.mem_cons_of_mem _ hy)]
    have hx := h x (List.mem_cons_self ..)
    unfold mayN at hx
    rw [numsN_ends ⟨hx.1, hx.2.1⟩]
theorem endsN_in {x : Nd} (h : mayN x) : ∀ y ∈ endsN x, 0 ≤ y ∧ y ≤ 4503599627370496 := by
  unfold mayN inQ at h
  intro y hy
  unfold endsN at hy
  split at hy
  · simp at hy
  · split at hy
    · simp at hy; omega
    · split at hy
      · simp at hy; omega
      · simp at hy; omega
theorem endsN_some {x : Nd} (h : x.op ≠ 9) : x.a ∈ endsN x := by
  unfold endsN
  rw [if_neg h]
  split <;> (try split) <;> simp
theorem nums_some {l : List Nd} (h : checkT l = 0) : ∃ y, y ∈ l.flatMap endsN := by
  obtain ⟨h0, h64, he, hm⟩ := checkT_parts h
  by_cases hall : ∀ x ∈ l, x.op = 9
  · have := endW_all9 l 0 0 hall
    rw [show (0 : Int) = ((0 : Nat) : Int) from rfl, endOf_nat, List.drop_zero] at he
    rw [Nat.zero_add] at this
    omega
  · simp only [Classical.not_forall] at hall
    obtain ⟨x, hx, h9⟩ := hall
    exact ⟨x.a, List.mem_flatMap.2 ⟨x, hx, endsN_some h9⟩⟩
/-- What the law holds against the numbers. -/
theorem lohi_best {l : List Nd} (h : checkT l = 0) : (∀ y ∈ l.flatMap numsN, (endsL l).1 ≤ y ∧ y ≤ (endsL l).2) ∧ (endsL l).1 ∈ l.flatMap numsN ∧ (endsL l).2 ∈ l.flatMap numsN := by
  obtain ⟨h0, h64, he, hm⟩ := checkT_parts h
  rw [nums_ends hm, show endsL l = lohi (4503599627370496, 0) (l.flatMap endsN) from if_pos h]
  obtain ⟨⟨a1, a2, a3⟩, b1, b2, b3⟩ := lohi_spec (l.flatMap endsN) (4503599627370496, 0)
  have hin : ∀ y ∈ l.flatMap endsN, 0 ≤ y ∧ y ≤ 4503599627370496 := fun y hy => by
    obtain ⟨x, hx, hy⟩ := List.mem_flatMap.1 hy
    exact endsN_in (hm x hx) y hy
  obtain ⟨y, hy⟩ := nums_some h
  have hy2 := hin y hy
  refine ⟨fun z hz => ⟨a2 z hz, b2 z hz⟩, ?_, ?_⟩
  · rcases a3 with a3 | a3
    · have e : y = (lohi (4503599627370496, 0) (l.flatMap endsN)).1 := by have := a2 y hy; simp only at a3; omega
      rw [← e]; exact hy
    · exact a3
  · rcases b3 with b3 | b3
    · have e : y = (lohi (4503599627370496, 0) (l.flatMap endsN)).2 := by have := b2 y hy; simp only at b3; omega
      rw [← e]; exact hy
    · exact b3
theorem any_next {p : Int → Bool} {L : List Int} {i : Nat} (hi : i < L.length) : ((L.take i).any p || p (L.getD i 0)) = (L.take (i + 1)).any p := by
  rw [take_next (d := 0) hi, List.any_append]
  simp
theorem getD_mem {L : List Int} {i : Nat} (hi : i < L.length) : L.getD i 0 ∈ L := by
  rw [List.getD, List.getElem?_eq_getElem hi, Option.getD_some]
  exact List.getElem_mem _
def bigN (l : List Nd) : Bool := (l.flatMap numsN).any fun y => decide (y > 4294967296)
theorem high_big {l : List Nd} (h : checkT l = 0) : decide ((endsL l).2 > 4294967296) = bigN l := by
  obtain ⟨h1, _, h3⟩ := lohi_best h
  unfold bigN
  rw [Bool.eq_iff_iff]
  simp only [decide_eq_true_eq, List.any_eq_true]
  exact ⟨fun hb => ⟨_, h3, hb⟩, fun ⟨y, hy, hb⟩ => by have := (h1 y hy).2; omega⟩
theorem highS_big {s : Gs} (h : checkT s.nodes = 0) : highS s = ((s.param != 0) && bigN s.nodes) := by
  unfold highS
  rw [high_big h]
/-! ### cuts -/
theorem ops_rcut {P : Program} {call : CallF} {nt : Nat} {kp : Nat → Option (List Nat)} {ops : Array Oper} {pu : Bool} {l : List Oper} {e : Env} {m : Mem} {id : Nat} {Q : Env → Mem → Prop} (E : Env) (M : Mem)
    (h : Ops P call nt ops pu l e m fun e' m' => ∀ e2, Ev.restr (kp id) e' = e2 → e2 = E ∧ m' = M) (hk : Q E M) : Ops P call nt ops pu l e m fun e' m' => ∀ e2, Ev.restr (kp id) e' = e2 → Q e2 m' :=
  ops_cut h fun e' m' hh e2 he => by obtain ⟨a, b⟩ := hh e2 he; rw [a, b]; exact hk
/-- A cut behind a piece of code: what holds there. -/
theorem runs_icut {P : Program} {call : CallF} {nt : Nat} {kp : Nat → Option (List Nat)} {c : Code} {e : Env} {m : Mem} {Q : Ex → Env → Mem → Prop} (I : Env → Mem → Prop) (h : Runs P call nt kp c e m fun x e2 m2 => x = .normal ∧ I e2 m2) (hk : ∀ e2 m2, I e2 m2 → Q .normal e2 m2) : Runs P call nt kp c e m Q :=
  runs_mono h fun x e2 m2 ⟨h1, h2⟩ => by rw [h1]; exact hk _ _ h2
theorem firstAt_app2 (p : ByteArray → Bool) : ∀ (l1 l2 : List ByteArray) (j : Nat), firstAt p (l1 ++ l2) j = if l1.any p then firstAt p l1 j else firstAt p l2 (j + l1.length)
  | [], l2, j => by simp
  | s :: l1, l2, j => by
    rw [List.cons_append, firstAt]
    cases h : p s with
    | true => simp [firstAt, h]
    | false =>
      rw [if_neg (by simp), firstAt_app2 p l1 l2 (j + 1)]
      simp only [List.any_cons, h, Bool.false_or, List.length_cons, firstAt, Bool.false_eq_true, if_false]
      rw [show j + 1 + l1.length = j + (l1.length + 1) by omega]
theorem place_take {l : List ByteArray} {i : Nat} (hi : i < l.length) : decide (0 ≤ placeOf (l.take i) (l.getD i ⟨#[]⟩)) = decide (placeOf l (l.getD i ⟨#[]⟩) < (i : Int)) := by
  unfold placeOf
  rw [firstAt_any]
  have e : l = l.take i ++ l.drop i := (List.take_append_drop i l).symm
  have hlen : (l.take i).length = i := by rw [List.length_take]; omega
  generalize hx : l.getD i ⟨#[]⟩ = x
  have e2 : firstAt (fun y => decide (y = x)) l 0 = if (l.take i).any (fun y => decide (y = x)) then firstAt (fun y => decide (y = x)) (l.take i) 0 else (i : Int) := by
    conv => lhs; rw [e]
    rw [firstAt_app2, hlen, drop_next (d := ⟨#[]⟩) hi, hx, firstAt]
    simp
  rw [e2]
  cases h : (l.take i).any fun y => decide (y = x) with
  | true =>
    rw [if_pos rfl]
    have := (firstAt_in (fun y => decide (y = x)) (l.take i) 0).2
    rw [hlen] at this
    exact (decide_eq_true (by omega)).symm
  | false => simp
theorem place_self {l : List ByteArray} {i : Nat} (hi : i < l.length) : (!(placeOf l (l.getD i ⟨#[]⟩) == (i : Int))) = decide (placeOf l (l.getD i ⟨#[]⟩) < (i : Int)) := by
  have hle : placeOf l (l.getD i ⟨#[]⟩) ≤ (i : Int) := by
    unfold placeOf
    have e : l = l.take i ++ l.drop i := (List.take_append_drop i l).symm
    have hlen : (l.take i).length = i := by rw [List.length_take]; omega
    generalize hx : l.getD i ⟨#[]⟩ = x
    have e2 : firstAt (fun y => decide (y = x)) l 0 = if (l.take i).any (fun y => decide (y = x)) then firstAt (fun y => decide (y = x)) (l.take i) 0 else (i : Int) := by
      conv => lhs; rw [e]
      rw [firstAt_app2, hlen, drop_next (d := ⟨#[]⟩) hi, hx, firstAt]
      simp
    rw [e2]
    split
    · have := (firstAt_in (fun y => decide (y = x)) (l.take i) 0).2
      rw [hlen] at this
      omega
    · omega
  rw [Bool.eq_iff_iff]
  simp only [Bool.not_eq_true', beq_eq_false_iff_ne, decide_eq_true_eq]
  omega
theorem place_any {l : List ByteArray} {i : Nat} (hi : i < l.length) : (l.take i).any (fun y => decide (y = l.getD i ⟨#[]⟩)) = decide (placeOf l (l.getD i ⟨#[]⟩) < (i : Int)) := by
  rw [← place_take hi]
  exact (firstAt_any _ _ 0).symm
theorem runs_xcut {P : Program} {call : CallF} {nt : Nat} {kp : Nat → Option (List Nat)} {c : Code} {e : Env} {m : Mem} {Q : Ex → Env → Mem → Prop} (x0 : Ex) (I : Env → Mem → Prop) (h : Runs P call nt kp c e m fun x e2 m2 => x = x0 ∧ I e2 m2) (hk : ∀ e2 m2, I e2 m2 → Q x0 e2 m2) : Runs P call nt kp c e m Q :=
  runs_mono h fun x e2 m2 ⟨h1, h2⟩ => by rw [h1]; exact hk _ _ h2
end Go.Proofs.YtojaokhkbmiidaaGreat.Ev

namespace Go.Proofs.YtojaokhkbmiidaaGreat.Ev
open Go Go.Proofs
set_option maxRecDepth 10000
set_option maxHeartbeats 8000000
set_option linter.unusedVariables false
set_option linter.unusedSimpArgs false
attribute [local irreducible] Next Inside Runs Ops table
attribute [local go_sem] szStr szInt Option.getD_some isNil evStr iv loadStr loadInt mapRc cellsRc newRc fpRcPhases fpRcGroups rowsPh_len rowsGs_len rowsN_len rowsI_len ldPh ldGs ldNode cellsPh cellsGs cellsNd zrPh zoPh znPh zsPh zrGs zoGs znGs zsGs fpPhSets fpPhFrozen fpGsGroup fpGsParam fpGsNodes fpNdOp fpNdA fpNdB fpNdK feGsParam leGsParam leGsGroup feGsGroup
def zeroNd : List AV := [.v (.int .i64 0), .v (.int .i64 0), .v (.int .i64 0), .v (.int .i64 0), .v (.int .i64 0), .v (.int .i64 0), .v (.int .i64 0)]
theorem zrNd : zeroCells Tryz.prog 102 = some zeroNd := by kernel_rfl
attribute [local go_sem] zrNd
theorem zoNd : zeroNd.all okCell = true := rfl
attribute [local go_sem] zoNd
theorem znNd {m : Mem} : newVar m m.vars.length zeroNd = some (m.push zeroNd) := newVar_push rfl
attribute [local go_sem] znNd
theorem zsNd {m : Mem} {x : Nd} : evStore Tryz.prog (m.push zeroNd) 102 (.ptr m.vars.length 0) (.agg x.row) = some (m.push x.row) := by
  rw [store_push (cs := x.row) rfl szNode (Nat.le_refl _) rfl]
  rfl
attribute [local go_sem] zsNd
def Rc.setOk (R : Rc) (rule : Int) (i k : Nat) : Bool :=
  if rule = 11 then !setBad R (R.phases.getD i ph0) k else
  if rule = 13 then !((((R.phases.getD i ph0).sets.getD k gs0).param != 0) && bigN ((R.phases.getD i ph0).sets.getD k gs0).nodes) else
  !bentS ((R.phases.getD i ph0).sets.getD k gs0)
def setOkG : List AV → Mem → Option (AV × Mem)
  | [.agg cs, .v (.int .i64 rule), .v (.int .i64 i), .v (.int .i64 k)], m =>
    match unRc cs with
    | some R => if R.small ∧ (rule = 11 ∨ rule = 12 ∨ rule = 13) ∧ 0 ≤ i ∧ i < (R.phases.length : Int) ∧ 0 ≤ k ∧ k < ((R.phases.getD i.toNat ph0).sets.length : Int) then some (.v (.bool (R.setOk rule i.toNat k.toNat)), m) else none
    | none => none
  | _, _ => none
theorem setOkG_at {R : Rc} {m : Mem} {rule : Int} {i k : Nat} (h : R.small) (h1 : rule = 11 ∨ rule = 12 ∨ rule = 13) (h2 : i < R.phases.length) (h3 : k < (R.phases.getD i ph0).sets.length) : setOkG [.agg R.row, .v (.int .i64 rule), .v (.int .i64 (i : Int)), .v (.int .i64 (k : Int))] m = some (.v (.bool (R.setOk rule i k)), m) := by
  simp only [setOkG, unRc_row]
  rw [if_pos ⟨h, h1, by omega, by omega, by omega, by rw [Int.toNat_natCast]; omega⟩, Int.toNat_natCast, Int.toNat_natCast]
theorem among_place (l : List ByteArray) (s : ByteArray) : decide (placeOf l s ≥ 0) = among l s := place_in l s
theorem place_neg (l : List ByteArray) (s : ByteArray) : decide (placeOf l s < 0) = !among l s := by
  rw [← place_in, Bool.eq_iff_iff]
  simp only [decide_eq_true_eq, Bool.not_eq_true', decide_eq_false_iff_not]
  omega
def keyB (s x : Gs) : Bool := (x.group == s.group) && (x.param == s.param)
theorem dup_by {l : List Gs} {k : Nat} : dupAt l k = decide (0 ≤ firstBy (keyB (l.getD k gs0)) (l.take k) 0) := by
  rw [firstBy_any]
  unfold dupAt cnt
  rw [Bool.eq_iff_iff]
  simp only [decide_eq_true_eq, List.length_pos_iff_exists_mem, List.mem_filter, List.any_eq_true, keyB, Bool.and_eq_true, bytes_same, beq_iff_eq, keyOf, Prod.mk.injEq]
theorem bentN_ops (x : Nd) : bentN x = ((((x.op == 3) || (x.op == 7)) && (decide (x.k < 1) || decide (x.k > 16))) || ((x.op == 4) && (decide (x.b > x.a) || decide (x.k > 4294967296)))) := by
  unfold bentN
  rw [Bool.eq_iff_iff]
  split
  · rename_i h
    simp only [Bool.not_eq_true', decide_eq_false_iff_not, Bool.or_eq_true, Bool.and_eq_true, beq_iff_eq, decide_eq_true_eq]
    omega
  · split
    · simp only [Bool.or_eq_true, Bool.and_eq_true, beq_iff_eq, decide_eq_true_eq]
      omega
    · rename_i h1 h2
      have a3 : ¬ x.op = 3 := fun h => h1 (.inl h)
      have a7 : ¬ x.op = 7 := fun h => h1 (.inr h)
      simp only [Bool.false_eq_true, Bool.or_eq_true, Bool.and_eq_true, beq_iff_eq, a3, a7, h2, false_or, false_and]
theorem firstBy_no {α : Type} {p : α → Bool} {l : List α} (h : firstBy p (l.drop l.length) l.length = firstBy p l 0) : l.any p = false := by
  rw [← firstBy_any p l 0, by_end h]
  rfl
theorem firstBy_yes {α : Type} {d : α} {p : α → Bool} {l : List α} {i : Nat} (hi : i < l.length) (hp : p (l.getD i d) = true) : l.any p = true := by
  rw [List.any_eq_true]
  refine ⟨_, ?_, hp⟩
  rw [List.getD, List.getElem?_eq_getElem hi]
  exact List.getElem_mem _
def kpSet20 : Nat → Option (List Nat) := fun
  | 0 => some [1, 2, 3, 4]
  | 1 => some [1, 3, 4, 9]
  | 2 => some [1, 3, 4, 9, 10]
  | 3 => some [1, 3, 4, 9, 10, 27]
  | 4 => some [3, 4, 9, 10, 11]
  | 5 => some [3, 4, 9, 10, 11, 30]
  | 6 => some [3, 4, 9, 10, 11]
  | 7 => some [3, 4, 9, 10, 11, 52]
  | 8 => some [8]
  | 9 => some [8]
  | 10 => some [10, 68]
  | 11 => some [10, 12]
  | 12 => some [10, 12, 13]
  | 13 => some [10, 12, 13, 80]
  | 14 => some [10, 12, 13]
  | 15 => some [10, 12, 13, 87]
  | 16 => some [8]
  | 17 => some [8]
  | 18 => some [10, 14]
  | 19 => some [10, 14, 92]
  | 20 => some [10, 14]
  | 21 => some [10, 14, 15]
  | 22 => some [10, 14, 134]
  | 23 => some [8]
  | 24 => some [8]
  | _ => none
attribute [go_sem] kpSet20
def tab_set20_ok : List (FuncId × (List AV → Mem → Option (AV × Mem))) := [(93, placeG), (116, numsG)]
theorem set20_ok : FunOk Tryz.prog 101 setOkG := by
  have hC := table_ok (P := Tryz.prog) (l := tab_set20_ok) (table_more refPlace_ok (table_more nums_ok table_nil))
  have t1 := fun args mm => table_at (l := tab_set20_ok) (f := 93) (args := args) (m := mm) rfl
  have t2 := fun args mm => table_at (l := tab_set20_ok) (f := 116) (args := args) (m := mm) rfl
  refine fun_ok mixed hC Tryz.func101 rfl kpSet20 false rfl fun args m r h => ?_
  unfold setOkG at h
  split at h
  · rename_i cs rule i0 k0
    split at h
    · rename_i R hR
      obtain rfl := unRc_some hR
      split at h
      · rename_i hyp
        obtain ⟨hsm, hrule, hi0, hi1, hk0, hk1⟩ := hyp
        obtain ⟨i, rfl⟩ := Int.eq_ofNat_of_zero_le hi0
        obtain ⟨k, rfl⟩ := Int.eq_ofNat_of_zero_le hk0
        simp only [Int.toNat_natCast] at hk1 h
        simp only [Option.some.injEq] at h
        subst h
        refine ⟨Nat.le_of_ble_eq_true rfl, ?_⟩
        simp only [entry, List.length_cons, List.length_nil, List.range, List.range.loop, List.zip_cons_cons, List.zip_nil_right]
        have hi : i < R.phases.length := by omega
        have hk : k < (R.phases.getD i ph0).sets.length := by omega
        have hP64 := hsm.2.2.1
        have hG64 := hsm.2.1
        have hp := hsm.phase i
        have hA := above_push (cs := R.row) (above_self m)
        have hv : (m.push R.row).var m.vars.length = some R.row := push_var
        have f1 := atPh (g := .no) (kk := .i64) hi
        have l1 := lpRcPhases hv
        have nr := newRc (m := m) (x := R)
        generalize m.push R.row = m1 at hA hv l1 nr
        have hok : R.setOk rule i k = if rule = 11 then !setBad R (R.phases.getD i ph0) k else if rule = 13 then !((((R.phases.getD i ph0).sets.getD k gs0).param != 0) && bigN ((R.phases.getD i ph0).sets.getD k gs0).nodes) else !bentS ((R.phases.getD i ph0).sets.getD k gs0) := rfl
        generalize R.phases.getD i ph0 = p at f1 hk hp hok
        have z1 := zsPh (m := m1) (x := p)
        have z2 := znPh (m := m1)
        have hA2 := above_push (cs := p.row) hA
        have hv2 := push_old (cs' := p.row) hv
        have hp2 : (m1.push p.row).var m1.vars.length = some p.row := push_var
        have l2 := lpPhSets hp2
        have f2 := atGs (g := .no) (kk := .i64) hk
        generalize m1.push p.row = m2 at z1 hA2 hv2 hp2 l2
        have hs : (p.sets.getD k gs0).nodes.length ≤ 100 := hp.2.2 _ (by rw [List.getD, List.getElem?_eq_getElem hk]; exact List.getElem_mem _)
        have hdup := dup_by (l := p.sets) (k := k)
        have hbad : setBad R p k = (!among R.groups (p.sets.getD k gs0).group || (among p.frozen (p.sets.getD k gs0).group || dupAt p.sets k)) := rfl
        rw [hbad, hdup] at hok
        clear hbad hdup
        generalize p.sets.getD k gs0 = s at f2 hs hok
        have z3 := zsGs (m := m2) (x := s)
        have z4 := znGs (m := m2)
        have hA3 := above_push (cs := s.row) hA2
        have hv3 := push_old (cs' := s.row) hv2
        have hp3 := push_old (cs' := s.row) hp2
        have hs3 : (m2.push s.row).var m2.vars.length = some s.row := push_var
        generalize m2.push s.row = m3 at z3 hA3 hv3 hp3 hs3
        have g1 := lpPhSets hp3
        have g2 := lpPhFrozen hp3
        have g3 := lpGsGroup hs3
        have g4 := lpGsParam hs3
        have g5 := lpGsNodes hs3
        have g6 := lpRcGroups hv3
        have yes11 : ∀ j : Nat, j < k → j < p.sets.length := fun j hj => by omega
        have hp2' := hp.2.1
        generalize hD : decide (0 ≤ firstBy (keyB s) (p.sets.take k) 0) = D at hok
        rw [hok]
        rcases hrule with rfl | rfl | rfl
        · rw [if_pos rfl]
          have b11 : ((11 : Int) == 11) = true := rfl
          refine go1 (jn @nr (jn @l1 (jn @f1 (jn @z2 (jn @z1 (jn @l2 (jn @f2 (jn @z4 (jn @z3 @b11))))))))) ?_
          refine runs_cond rfl (fun hc => ?_) (fun hc => by cases hc)
          refine go0 ?_
          have hlen : (p.sets.take k).length = k := by rw [List.length_take]; omega
          refine runs_loop (fun kk e m' => ∃ (j : Nat), j ≤ k ∧ firstBy (keyB s) ((p.sets.take k).drop j) j = firstBy (keyB s) (p.sets.take k) 0 ∧ m3 = m' ∧ kk = k - j ∧
            e = [(3, .v (.int .i64 (k : Int))), (4, AV.ptr m.vars.length 0), (9, .ptr m1.vars.length 0), (10, .ptr m2.vars.length 0), (11, .v (.int .i64 (j : Int)))]) (k := k) ⟨0, Nat.zero_le _, rfl, rfl, rfl, rfl⟩ ?_
          rintro kk e m' ⟨j, hj0, hf, rfl, rfl, rfl⟩
          refine go0 ?_
          refine runs_cond rfl (fun hc => ?_) (fun hc => ?_)
          · have hj1 : j < k := by have := of_decide_eq_true hc; omega
            have f3 := atGs (g := .no) (kk := .i64) (yes11 j hj1)
            have hj2 : j < (p.sets.take k).length := by omega
            have hget : (p.sets.take k).getD j gs0 = p.sets.getD j gs0 := by simp [List.getD, List.getElem?_take, hj1]
            have hyes := fun hp => by_yes (d := gs0) hj2 hp hf
            have hno := fun hp => by_no (d := gs0) hj2 hp hf
            rw [hget] at hyes hno
            have r6 := next_i64 (i := j) (by omega)
            generalize p.sets.getD j gs0 = x at f3 hyes hno
            have hkey : keyB s x = ((x.group == s.group) && (x.param == s.param)) := rfl
            refine go0 ?_
            refine runs_ops_drawn_kept (by kernel_rfl) ?_
            cases ha : (x.group == s.group) with
            | false =>
              have hn := hno (by rw [hkey, ha]; rfl)
              refine go1 (jn @g1 (jn @f3 (jn @g3 @ha))) ?_
              refine runs_cond rfl (fun hc => by cases hc) (fun hc => ?_)
              refine go1 @r6 ?_
              exact ⟨k - (j + 1), by omega, j + 1, hj1, hn, rfl, rfl, rfl⟩
            | true =>
              cases hb : (x.param == s.param) with
              | false =>
                have hn := hno (by rw [hkey, ha, hb]; rfl)
                refine go1 (jn @g1 (jn @f3 (jn @g3 (jn @g4 (jn @ha @hb))))) ?_
                refine runs_cond rfl (fun hc => by cases hc) (fun hc => ?_)
                refine go1 @r6 ?_
                exact ⟨k - (j + 1), by omega, j + 1, hj1, hn, rfl, rfl, rfl⟩
              | true =>
                have hy := hyes (by rw [hkey, ha, hb]; rfl)
                rw [show D = true by rw [← hD, hy]; exact decide_eq_true (by omega), Bool.or_true, Bool.or_true]
                refine go1 (jn @g1 (jn @f3 (jn @g3 (jn @g4 (jn @ha @hb))))) ?_
                refine runs_cond rfl (fun hc => ?_) (fun hc => by cases hc)
                refine go0 ?_
                exact leaves_fin rfl rfl (above_fin hA3)
          · have hj1 : j = k := by have := of_decide_eq_false hc; omega
            subst hj1
            rw [show D = false by rw [← hD, by_end (by rw [hlen]; exact hf)]; rfl, Bool.or_false]
            have c1 := fun mm => placeG_eq (m := mm) (g := .no) (s := s.group) (show R.groups.length ≤ 9223372036854775807 by omega)
            have c2 := fun mm => placeG_eq (m := mm) (g := .no) (s := s.group) (show p.frozen.length ≤ 9223372036854775807 by omega)
            have d1 := among_place R.groups s.group
            have d2 := place_neg p.frozen s.group
            generalize placeOf R.groups s.group = q1 at c1 d1
            generalize placeOf p.frozen s.group = q2 at c2 d2
            cases ha : among R.groups s.group with
            | true =>
              rw [ha] at d1
              rw [show (!(!true || among p.frozen s.group)) = !among p.frozen s.group from by cases among p.frozen s.group <;> rfl]
              refine go1 (jn @g6 (jn @g3 (jn @t1 (jn @c1 (jn @d1 (jn @g2 (jn @c2 @d2))))))) ?_
              exact leaves_fin rfl rfl (above_fin hA3)
            | false =>
              rw [ha] at d1
              refine go1 (jn @g6 (jn @g3 (jn @t1 (jn @c1 @d1)))) ?_
              exact leaves_fin rfl rfl (above_fin hA3)
        · rw [if_neg (by decide), if_neg (by decide)]
          have b11 : ((12 : Int) == 11) = false := rfl
          have b13 : ((12 : Int) == 13) = false := rfl
          refine go1 (jn @nr (jn @l1 (jn @f1 (jn @z2 (jn @z1 (jn @l2 (jn @f2 (jn @z4 (jn @z3 @b11))))))))) ?_
          refine runs_cond rfl (fun hc => by cases hc) (fun hc => ?_)
          refine go1 @b13 ?_
          refine runs_cond rfl (fun hc => by cases hc) (fun hc => ?_)
          refine go0 ?_
          unfold bentS
          refine runs_loop (fun kk e m' => ∃ (j : Nat), j ≤ s.nodes.length ∧ firstBy bentN (s.nodes.drop j) j = firstBy bentN s.nodes 0 ∧ Above m m' ∧ m'.var m2.vars.length = some s.row ∧ kk = s.nodes.length - j ∧
            e = [(10, AV.ptr m2.vars.length 0), (14, .v (.int .i64 (j : Int)))]) (k := s.nodes.length) ⟨0, Nat.zero_le _, rfl, hA3, hs3, rfl, rfl⟩ ?_
          rintro kk e m' ⟨j, hj0, hf, hA4, hs4, rfl, rfl⟩
          have l4 := lpGsNodes hs4
          refine go1 @l4 ?_
          refine runs_cond rfl (fun hc => ?_) (fun hc => ?_)
          · have hj1 : j < s.nodes.length := by have := of_decide_eq_true hc; omega
            have f3 := atNodes (g := .no) (kk := .i64) hj1
            have hyes := fun hp => firstBy_yes (d := nd0) (p := bentN) hj1 hp
            have hno := fun hp => by_no (d := nd0) hj1 hp hf
            generalize s.nodes.getD j nd0 = x at f3 hyes hno
            have z5 := zsNd (m := m') (x := x)
            have z6 := znNd (m := m')
            have hA5 := above_push (cs := x.row) hA4
            have hs5 := push_old (cs' := x.row) hs4
            have hx5 : (m'.push x.row).var m'.vars.length = some x.row := push_var
            generalize m'.push x.row = m5 at z5 hA5 hs5 hx5
            have y0 := lpNdI (i := 0) (v := x.op) hx5 rfl
            have y1 := lpNdI (i := 1) (v := x.a) hx5 rfl
            have y2 := lpNdI (i := 2) (v := x.b) hx5 rfl
            have y4 := lpNdI (i := 4) (v := x.k) hx5 rfl
            have r6 := next_i64 (i := j) (by omega)
            have hbn := bentN_ops x
            refine go1 (jn @l4 (jn @f3 (jn @z6 @z5))) ?_
            refine ops_rcut [(10, .ptr m2.vars.length 0), (14, .v (.int .i64 (j : Int))), (134, .v (.bool (bentN x)))] m5 ?_ ?_
            · rw [hbn]
              repeat' (first | refine gos1 (jn @y0 (jn @y1 (jn @y2 @y4))) ?_ | (refine ops_here ?_; (fail_if_success (refine ops_case (B := true) rfl rfl rfl ?_ ?_)); (fail_if_success (refine ops_case (B := false) rfl rfl rfl ?_ ?_)); refine ops_case rfl rfl rfl (fun hB => ?_) (fun hB => ?_) <;> rw [hB]) | (refine runs_here ?_; refine runs_cond rfl (fun hc => ?_) (fun hc => ?_) <;> first | (cases hc; done) | skip))
              all_goals refine ⟨?_, rfl⟩
              all_goals simp_all
            refine next_normal ?_
            refine runs_cond rfl (fun hc => ?_) (fun hc => ?_)
            · rw [hyes hc]
              refine go0 ?_
              exact leaves_fin rfl rfl (above_fin hA5)
            · refine go1 @r6 ?_
              exact ⟨s.nodes.length - (j + 1), by omega, j + 1, hj1, hno hc, hA5, hs5, rfl, rfl⟩
          · have hj1 : j = s.nodes.length := by have := of_decide_eq_false hc; omega
            subst hj1
            rw [firstBy_no hf]
            refine go0 ?_
            exact leaves_fin rfl rfl (above_fin hA4)
        · rw [if_neg (by decide), if_pos rfl]
          have b11 : ((13 : Int) == 11) = false := rfl
          have b13 : ((13 : Int) == 13) = true := rfl
          have c1 := fun mm => numsG_eq (m := mm) (g := .no) (l := s.nodes) (by omega)
          have hl := numsL_len s.nodes
          refine go1 (jn @nr (jn @l1 (jn @f1 (jn @z2 (jn @z1 (jn @l2 (jn @f2 (jn @z4 (jn @z3 @b11))))))))) ?_
          refine runs_cond rfl (fun hc => by cases hc) (fun hc => ?_)
          refine go1 @b13 ?_
          refine runs_cond rfl (fun hc => ?_) (fun hc => by cases hc)
          refine go1 (jn @g5 (jn @t2 @c1)) ?_
          unfold bigN
          generalize s.nodes.flatMap numsN = all at hl
          refine runs_loop (fun kk e m' => ∃ (j : Nat), j ≤ all.length ∧ firstBy (fun y => decide (y > 4294967296)) (all.drop j) j = firstBy (fun y => decide (y > 4294967296)) all 0 ∧ m3 = m' ∧ kk = all.length - j ∧
            e = [(10, AV.ptr m2.vars.length 0), (12, .lst .no 1 (rowsI all)), (13, .v (.int .i64 (j : Int)))]) (k := all.length) ⟨0, Nat.zero_le _, rfl, rfl, rfl, rfl⟩ ?_
          rintro kk e m' ⟨j, hj0, hf, rfl, rfl, rfl⟩
          by_cases hj1 : j < all.length
          · have b0 : decide ((j : Int) < (all.length : Int)) = true := decide_eq_true (by omega)
            have f3 := atInts (g := .no) (kk := .i64) hj1
            have hyes := fun hp => firstBy_yes (d := (0 : Int)) (p := fun y => decide (y > 4294967296)) hj1 hp
            have hno := fun hp => by_no (d := (0 : Int)) hj1 hp hf
            have r6 := next_i64 (i := j) (by omega)
            generalize all.getD j 0 = y at f3 hyes hno
            cases ha : (s.param != 0) with
            | false =>
              refine go1 (jn @b0 (jn @g4 @ha)) ?_
              refine runs_cond rfl (fun hc => by cases hc) (fun hc => ?_)
              refine go0 ?_
              exact leaves_fin rfl rfl (above_fin hA3)
            | true =>
              refine go1 (jn @b0 (jn @g4 @ha)) ?_
              refine runs_cond rfl (fun hc => ?_) (fun hc => by cases hc)
              refine go1 @f3 ?_
              refine runs_cond rfl (fun hc => ?_) (fun hc => ?_)
              · rw [hyes hc]
                refine go0 ?_
                exact leaves_fin rfl rfl (above_fin hA3)
              · refine go1 @r6 ?_
                exact ⟨all.length - (j + 1), by omega, j + 1, hj1, hno hc, rfl, rfl, rfl⟩
          · have hj2 : j = all.length := by omega
            subst hj2
            have b0 : decide ((all.length : Int) < (all.length : Int)) = false := decide_eq_false (by omega)
            rw [firstBy_no hf, Bool.and_false]
            refine go1 @b0 ?_
            refine runs_cond rfl (fun hc => by cases hc) (fun hc => ?_)
            refine go0 ?_
            exact leaves_fin rfl rfl (above_fin hA3)
      · cases h
    · cases h
  · cases h
end Go.Proofs.YtojaokhkbmiidaaGreat.Ev

namespace Go.Proofs.YtojaokhkbmiidaaGreat.Ev
open Go Go.Proofs
set_option maxRecDepth 10000
set_option maxHeartbeats 8000000
set_option linter.unusedVariables false
set_option linter.unusedSimpArgs false
attribute [local irreducible] Next Inside Runs Ops table
theorem setMay_tree {s : Gs} (h : setMay s = true) : checkT s.nodes = 0 := by
  simp only [setMay, Bool.and_eq_true, beq_iff_eq] at h
  exact h.2.2.2
/-- What a recipe that may be told has. -/
theorem may_parts {R : Rc} (h : R.may = true) : R.headBad = false ∧ (∀ p ∈ R.phases, lenMay p.lenU p.lenN ∧ ∀ s ∈ p.sets, checkT s.nodes = 0) ∧ R.endsMay = true ∧ R.listBad = false ∧ R.phases.length ≤ 16 := by
  unfold Rc.may at h
  simp only [Bool.and_eq_true, Bool.not_eq_true'] at h
  obtain ⟨h1, h2, h3⟩ := h
  unfold Rc.phBad at h3
  simp only [Bool.or_eq_false_iff, decide_eq_false_iff_not, Bool.not_eq_false'] at h3
  obtain ⟨h4, h5, h6⟩ := h3
  refine ⟨h1, fun p hp => ?_, h6, h2, by omega⟩
  have hq := List.any_eq_false.1 h5 p hp
  simp only [phNot, phMay, Bool.not_eq_true', Bool.not_eq_false, Bool.and_eq_true, decide_eq_true_eq, Bool.not_eq_false'] at hq
  obtain ⟨_, a, _, _, b⟩ := hq
  refine ⟨a, fun s hs => ?_⟩
  have b' : p.sets.any setNot = false := by first | exact b | simpa using b
  have hr := List.any_eq_false.1 b' s hs
  simp only [setNot, Bool.not_eq_true', Bool.not_eq_false, Bool.not_eq_true] at hr
  exact setMay_tree (by simpa using hr)
structure Rc.Num (R : Rc) : Prop where
  steps : 0 ≤ R.steps ∧ R.steps ≤ 1099511627776
  epoch : 0 ≤ R.epoch ∧ R.epoch ≤ 1099511627776
  weights : 0 ≤ R.weights ∧ R.weights ≤ 1099511627776
  eval : 0 ≤ R.eval ∧ R.eval ≤ 1099511627776
  stop : R.stopOn = true → 0 ≤ R.stopPatience
  plateau : R.plateauOn = true → 0 ≤ R.plateauPatience
  every : R.swaOn = true → 0 ≤ R.swaEvery
  from_ : lenMay R.swaFromU R.swaFromN
  swa3 : R.swaOn = true → R.swaFromU ≠ 3
theorem Rc.may_num {R : Rc} (h : R.may = true) : R.Num := by
  obtain ⟨h1, _, h2, _⟩ := may_parts h
  unfold Rc.headBad at h1
  simp only [Bool.or_eq_false_iff, Bool.not_eq_false', countB, decide_eq_true_eq] at h1
  obtain ⟨_, a1, a2, a3, a4⟩ := h1
  unfold Rc.endsMay at h2
  simp only [Bool.and_eq_true] at h2
  obtain ⟨b1, b2, _, _, b5⟩ := h2
  unfold Tp.may Tp.bad at b1
  unfold Pt.may Pt.bad at b2
  unfold Sw.may Sw.bad at b5
  simp only [Bool.and_eq_true, Bool.not_eq_true', Bool.and_eq_false_iff, Rc.tp, Rc.pt, Rc.sw, countB, Bool.not_eq_false', Bool.or_eq_false_iff, Bool.or_eq_true, decide_eq_true_eq, beq_eq_false_iff_ne] at b1 b2 b5
  refine ⟨a1, a2, a3, a4, fun ho => ?_, fun ho => ?_, fun ho => ?_, ?_, fun ho => ?_⟩
  · rcases b1.1 with b | b
    · rw [b] at ho; cases ho
    · exact (of_decide_eq_true b.2.1).1
  · rcases b2.1 with b | b
    · rw [b] at ho; cases ho
    · exact (of_decide_eq_true b.2.2.1).1
  · rcases b5.1 with b | b
    · rw [b] at ho; cases ho
    · exact (of_decide_eq_true b.2.2).1
  · rcases b5.1 with b | b
    · have hz := b5.2
      rw [b] at hz
      rcases hz with hz | hz
      · cases hz
      · simp only [swEq, sw0, Bool.and_eq_true, beq_iff_eq] at hz
        obtain ⟨_, ⟨hu, hn, _⟩, _⟩ := hz
        rw [hu, hn]
        unfold lenMay
        decide
    · exact of_decide_eq_true b.1
  · rcases b5.1 with b | b
    · rw [b] at ho; cases ho
    · exact b.2.1
theorem Rc.may_lens {R : Rc} (h : R.may = true) : R.lensOk := by
  obtain ⟨_, h1, _, _, h2⟩ := may_parts h
  have hn := Rc.may_num h
  exact ⟨by omega, fun p hp => (h1 p hp).1, hn.steps.1, hn.epoch.1⟩
def Rc.wholeBad (R : Rc) (rule : Int) : Bool :=
  if rule = 1 then !decide (1 ≤ R.steps ∧ R.steps ≤ 1000000) else if rule = 2 then (decide (R.epoch > 1000000) || ((R.epoch == 0) && R.epochs)) else if rule = 3 then decide (R.weights > 16) else if rule = 6 then ((R.phases.length : Int) == 0) else
  if rule = 9 then (R.kept 1 && (R.kept 2 && R.kept 8)) && R.sumBad else if rule = 19 then decide (R.eval > R.steps) else R.endBad rule
theorem seen_blind {R : Rc} (s : ByteArray) (h : 0 ≤ R.eval) : R.seen s = !R.blind s := by
  unfold Rc.seen Rc.blind
  rw [among_place]
  cases among R.metrics s with
  | false => rfl
  | true =>
    rw [Bool.eq_iff_iff]
    simp only [Bool.true_and, Bool.not_true, Bool.false_or, Bool.not_eq_true', decide_eq_true_eq, beq_eq_false_iff_ne]
    omega
theorem any_flat {α β : Type} {f : α → List β} {p : β → Bool} {q : α → Bool} (h : ∀ x, (f x).any p = q x) : ∀ l : List α, (l.flatMap f).any p = l.any q
  | [] => rfl
  | x :: l => by rw [List.flatMap_cons, List.any_append, h, any_flat h l, List.any_cons]
def u1 (x : Ln) : Bool := x.U == 1
theorem lens_epochs (R : Rc) : R.lens.any u1 = R.epochs := by
  have h1 : ∀ s : Gs, (setLens s).any u1 = epS s := fun s => by
    unfold setLens epS
    rw [List.any_map]
    rfl
  have h2 : ∀ p : Ph, (phLens p).any u1 = epP p := fun p => by
    unfold phLens epP
    rw [List.any_cons, any_flat h1]
    rfl
  unfold Rc.lens Rc.epochs
  rw [List.any_append, any_flat h2]
  cases R.swaOn <;> simp [u1]
theorem neg_eq {a b : Bool} (h : (a = true) ↔ ¬ (b = true)) : (!b) = a := by
  cases a <;> cases b <;> simp_all
section
variable {R : Rc}
theorem whole_1 : (!R.wholeBad 1) = (decide (R.steps ≥ 1) && decide (R.steps ≤ 1000000)) := neg_eq (by simp [Rc.wholeBad])
theorem whole_2 : (!R.wholeBad 2) = (!(R.lens.any u1 && (R.epoch == 0)) && decide (R.epoch ≤ 1000000)) := by
  unfold Rc.wholeBad
  rw [lens_epochs, if_neg (by decide), if_pos rfl, Bool.not_or, Bool.and_comm R.epochs, Bool.and_comm]
  congr 1
  rw [Bool.eq_iff_iff]
  simp only [Bool.not_eq_true', decide_eq_false_iff_not, decide_eq_true_eq]
  omega
theorem whole_3 : (!R.wholeBad 3) = decide (R.weights ≤ 16) := neg_eq (by simp [Rc.wholeBad])
theorem whole_6 : (!R.wholeBad 6) = decide ((R.phases.length : Int) > 0) := by
  show (!((R.phases.length : Int) == 0)) = _
  rw [Bool.eq_iff_iff]
  simp only [Bool.not_eq_true', beq_eq_false_iff_ne, ne_eq, decide_eq_true_eq]
  omega
theorem whole_9 : (!R.wholeBad 9) = (!R.kept 1 || (!R.kept 2 || (!R.kept 8 || !R.sumBad))) := by
  unfold Rc.wholeBad
  rw [if_neg (by decide), if_neg (by decide), if_neg (by decide), if_neg (by decide), if_pos rfl]
  cases R.kept 1 <;> cases R.kept 2 <;> cases R.kept 8 <;> cases R.sumBad <;> rfl
theorem whole_14 (hn : R.Num) : (!R.wholeBad 14) = (!R.stopOn || (R.seen R.stopMetric && decide (R.stopPatience > 0))) := by
  rw [seen_blind _ hn.eval.1]
  show (!(R.stopOn && (R.blind R.stopMetric || (R.stopPatience == 0)))) = _
  have := hn.stop
  generalize R.blind R.stopMetric = b
  cases h : R.stopOn
  · rfl
  · have := this h
    cases b
    · rw [Bool.eq_iff_iff]; simp; omega
    · rfl
theorem whole_15 (hn : R.Num) : (!R.wholeBad 15) = (!R.plateauOn || ((R.seen R.plateauMetric && decide (R.plateauPatience > 0)) && decide (R.plateauFactor < 4294967296))) := by
  rw [seen_blind _ hn.eval.1]
  show (!(R.plateauOn && (R.blind R.plateauMetric || ((R.plateauPatience == 0) || decide (R.plateauFactor ≥ 4294967296))))) = _
  have := hn.plateau
  generalize R.blind R.plateauMetric = b
  cases h : R.plateauOn
  · rfl
  · have := this h
    cases b
    · rw [Bool.eq_iff_iff]; simp; omega
    · rfl
theorem whole_16 (hn : R.Num) : (!R.wholeBad 16) = (!R.keepOn || ((R.seen R.keepMetric && decide (R.keepCount ≥ 1)) && decide (R.keepCount ≤ 16))) := by
  rw [seen_blind _ hn.eval.1]
  show (!(R.keepOn && (R.blind R.keepMetric || !decide (1 ≤ R.keepCount ∧ R.keepCount ≤ 16)))) = _
  generalize R.blind R.keepMetric = b
  cases h : R.keepOn
  · rfl
  · cases b
    · rw [Bool.eq_iff_iff]; simp
    · rfl
theorem whole_17 : (!R.wholeBad 17) = (!R.emaOn || decide (R.emaDecay ≤ 4294967296)) := by
  show (!(R.emaOn && decide (R.emaDecay > 4294967296))) = _
  cases R.emaOn
  · rfl
  · rw [Bool.eq_iff_iff]; simp
theorem whole_18 (hn : R.Num) : (!R.wholeBad 18) = (!R.swaOn || ((decide (R.swaEvery > 0) && (R.swaSteps.2 == 0)) && decide (R.swaSteps.1 ≤ R.steps))) := by
  show (!(R.swaOn && ((R.swaEvery == 0) || ((R.swaSteps.2 != 0) || decide (R.swaSteps.1 > R.steps))))) = _
  have := hn.every
  cases h : R.swaOn
  · rfl
  · have := this h
    rw [Bool.eq_iff_iff]
    simp only [Bool.true_and, Bool.not_true, Bool.false_or, Bool.not_or, Bool.and_eq_true, Bool.not_eq_true', beq_eq_false_iff_ne, bne_eq_false_iff_eq, decide_eq_false_iff_not, decide_eq_true_eq, beq_iff_eq]
    omega
theorem whole_19 : (!R.wholeBad 19) = decide (R.eval ≤ R.steps) := neg_eq (by simp [Rc.wholeBad])
theorem whole_no {rule : Int} (h : rule = 4 ∨ rule = 5 ∨ rule = 7 ∨ rule = 8 ∨ rule = 10 ∨ rule = 11 ∨ rule = 12 ∨ rule = 13) : R.wholeBad rule = false := by
  rcases h with rfl | rfl | rfl | rfl | rfl | rfl | rfl | rfl <;> rfl
end
def isRule (n : Int) : Prop := n = 1 ∨ n = 2 ∨ n = 3 ∨ n = 4 ∨ n = 5 ∨ n = 6 ∨ n = 7 ∨ n = 8 ∨ n = 9 ∨ n = 10 ∨ n = 11 ∨ n = 12 ∨ n = 13 ∨ n = 14 ∨ n = 15 ∨ n = 16 ∨ n = 17 ∨ n = 18 ∨ n = 19
instance (n : Int) : Decidable (isRule n) := by unfold isRule; exact inferInstance
def wholeRG (b : Bool) : List AV → Mem → Option (AV × Mem)
  | [.agg cs, .v (.int .i64 rule)], m =>
    match unRc cs with
    | some R => if R.may = true ∧ R.fit ∧ isRule rule ∧ (b = true ∨ rule ≠ 9) then some (.v (.bool (!R.wholeBad rule)), m) else none
    | none => none
  | _, _ => none
theorem wholeRG_at {R : Rc} {m : Mem} {b : Bool} {rule : Int} (h : R.may = true) (h1 : R.fit) (h2 : isRule rule) (h3 : b = true ∨ rule ≠ 9) : wholeRG b [.agg R.row, .v (.int .i64 rule)] m = some (.v (.bool (!R.wholeBad rule)), m) := by
  simp only [wholeRG, unRc_row]
  rw [if_pos ⟨h, h1, h2, h3⟩]
end Go.Proofs.YtojaokhkbmiidaaGreat.Ev

namespace Go.Proofs.YtojaokhkbmiidaaGreat.Ev
open Go Go.Proofs
set_option maxRecDepth 10000
set_option maxHeartbeats 8000000
set_option linter.unusedVariables false
set_option linter.unusedSimpArgs false
attribute [local irreducible] Next Inside Runs Ops table
attribute [local go_sem] szStr szInt Option.getD_some isNil evStr iv loadStr loadInt mapRc cellsRc newRc rowsPh_len rowsLn_len fpRcSteps fpRcEpoch fpRcWeights fpRcPhases fpRcEval fpRcStop fpRcStopOn fpRcStopMetric fpRcStopPatience fpRcPlateau fpRcPlateauOn fpRcPlateauMetric fpRcPlateauPatience fpRcPlateauFactor fpRcKeep fpRcKeepOn fpRcKeepMetric fpRcKeepCount fpRcEma fpRcEmaOn fpRcEmaDecay fpRcSwa fpRcSwaOn fpRcSwaFrom fpRcSwaEvery
def kpWhole20 : Nat → Option (List Nat) := fun
  | 0 => some [1, 2]
  | 1 => some [2, 9]
  | 2 => some [2, 9, 10]
  | 3 => some [4]
  | 4 => some [2, 9, 20]
  | 5 => some [2, 5]
  | 6 => some [2, 5, 6]
  | 7 => some [2, 5, 6, 27]
  | 8 => some [2, 5, 6]
  | 9 => some [2, 5, 6, 40]
  | 10 => some [4]
  | 11 => some [4]
  | 12 => some [2, 9, 44]
  | 13 => some [4]
  | 14 => some [2, 9, 49]
  | 15 => some [4]
  | 16 => some [2, 9, 55]
  | 17 => some [4]
  | 18 => some [2, 9, 74]
  | 19 => some [4]
  | 20 => some [2, 9, 93]
  | 21 => some [4]
  | 22 => some [2, 9, 118]
  | 23 => some [4]
  | 24 => some [2, 9, 143]
  | 25 => some [4]
  | 26 => some [2, 9, 155]
  | 27 => some [2, 7, 8]
  | 28 => some [4]
  | 29 => some [2, 185]
  | 30 => some [4]
  | 31 => some [4]
  | _ => none
attribute [go_sem] kpWhole20
def tab_whole20 (G : List AV → Mem → Option (AV × Mem)) : List (FuncId × (List AV → Mem → Option (AV × Mem))) := [(138, lensG), (39, G), (139, rsumG), (140, seenG), (49, rstepsG)]
theorem whole20_ok (b : Bool) (G : List AV → Mem → Option (AV × Mem)) (hG : FunOk Tryz.prog 39 G)
    (hK : b = true → ∀ (R : Rc) (mm : Mem) (rule : Int), R.may = true → R.fit → (rule = 1 ∨ rule = 2 ∨ rule = 8) → G [.agg R.row, .v (.int .i64 rule)] mm = some (.v (.bool (R.kept rule)), mm)) : FunOk Tryz.prog 102 (wholeRG b) := by
  have hC := table_ok (P := Tryz.prog) (l := tab_whole20 G) (table_more lens_ok (table_more hG (table_more rsum_ok (table_more seen20_ok (table_more rsteps_ok table_nil)))))
  have t1 := fun args mm => table_at (l := tab_whole20 G) (f := 138) (args := args) (m := mm) rfl
  have t2 := fun args mm => table_at (l := tab_whole20 G) (f := 39) (args := args) (m := mm) rfl
  have t3 := fun args mm => table_at (l := tab_whole20 G) (f := 139) (args := args) (m := mm) rfl
  have t4 := fun args mm => table_at (l := tab_whole20 G) (f := 140) (args := args) (m := mm) rfl
  have t5 := fun args mm => table_at (l := tab_whole20 G) (f := 49) (args := args) (m := mm) rfl
  refine fun_ok mixed hC Tryz.func102 rfl kpWhole20 false rfl fun args m r h => ?_
  unfold wholeRG at h
  split at h
  · rename_i cs rule
    split at h
    · rename_i R hR
      obtain rfl := unRc_some hR
      split at h
      · rename_i hyp
        obtain ⟨hmay, hfit, hrule, hb⟩ := hyp
        simp only [Option.some.injEq] at h
        subst h
        refine ⟨Nat.le_of_ble_eq_true rfl, ?_⟩
        simp only [entry, List.length_cons, List.length_nil, List.range, List.range.loop, List.zip_cons_cons, List.zip_nil_right]
        have hn := Rc.may_num hmay
        have hsm := Rc.may_small hmay
        have hM64 := hsm.1
        have hA := above_push (cs := R.row) (above_self m)
        have hv : (m.push R.row).var m.vars.length = some R.row := push_var
        have nr := newRc (m := m) (x := R)
        generalize m.push R.row = m1 at hA hv nr
        have l0 := vrRc hv
        have l1 := lpRcSteps hv
        have l2 := lpRcEpoch hv
        have fin : ∀ (e : Env) (b' : Bool), Ev.get e 4 = .v (.bool b') → (!R.wholeBad rule) = b' → Leaves Tryz.prog false Tryz.f102 m (.v (.bool (!R.wholeBad rule)), m) .ret e m1 := fun e b' h1 h2 => by
          rw [h2]
          exact leaves_fin rfl h1 (above_fin hA)
        have w1 : (!true) = false := rfl
        have w2 : (!false) = true := rfl
        have c4 := fun (s : ByteArray) mm => seenG_at (R := R) (s := s) (m := mm) hM64
        have no : R.wholeBad rule = false → ∀ e, Ev.get e 4 = .v (.bool true) → Leaves Tryz.prog false Tryz.f102 m (.v (.bool (!R.wholeBad rule)), m) .ret e m1 := fun h0 e h1 => fin e true h1 (by rw [h0]; rfl)
        unfold isRule at hrule
        rcases hrule with rfl | rfl | rfl | rfl | rfl | rfl | rfl | rfl | rfl | rfl | rfl | rfl | rfl | rfl | rfl | rfl | rfl | rfl | rfl
        · have e := whole_1 (R := R)
          cases q0 : decide (R.steps ≥ 1) with
          | true =>
            rw [q0] at e
            repeat' (first | refine gos1 (jn @nr (jn @l1 @q0)) ?_ | (refine ops_here ?_; (fail_if_success (refine ops_case (B := true) rfl rfl rfl ?_ ?_)); (fail_if_success (refine ops_case (B := false) rfl rfl rfl ?_ ?_)); refine ops_case rfl rfl rfl (fun hB => ?_) (fun hB => ?_) <;> rw [hB]) | (refine runs_here ?_; refine runs_cond rfl (fun hc => ?_) (fun hc => ?_) <;> first | (cases hc; done) | skip))
            exact fin _ _ rfl e
          | false =>
            rw [q0] at e
            repeat' (first | refine gos1 (jn @nr (jn @l1 @q0)) ?_ | (refine ops_here ?_; (fail_if_success (refine ops_case (B := true) rfl rfl rfl ?_ ?_)); (fail_if_success (refine ops_case (B := false) rfl rfl rfl ?_ ?_)); refine ops_case rfl rfl rfl (fun hB => ?_) (fun hB => ?_) <;> rw [hB]) | (refine runs_here ?_; refine runs_cond rfl (fun hc => ?_) (fun hc => ?_) <;> first | (cases hc; done) | skip))
            exact fin _ _ rfl e
        · have e := whole_2 (R := R)
          have c1 := fun mm => lensG_at R mm hsm
          repeat' (first | refine gos1 (jn @nr (jn @l0 (jn @t1 @c1))) ?_ | (refine ops_here ?_; (fail_if_success (refine ops_case (B := true) rfl rfl rfl ?_ ?_)); (fail_if_success (refine ops_case (B := false) rfl rfl rfl ?_ ?_)); refine ops_case rfl rfl rfl (fun hB => ?_) (fun hB => ?_) <;> rw [hB]) | (refine runs_here ?_; refine runs_cond rfl (fun hc => ?_) (fun hc => ?_) <;> first | (cases hc; done) | skip))
          have hlen : R.lens.length ≤ 1000000 := by
            have hB := flat_len R.phases (phLens_len hsm)
            have := hsm.2.2.1
            unfold Rc.lens
            rw [List.length_append]
            split <;> simp only [List.length_cons, List.length_nil] <;> omega
          generalize R.lens = L at e hlen
          refine runs_loop (fun k e m' => ∃ (i : Nat), i ≤ L.length ∧ (R.epoch = 0 → firstBy u1 (L.drop i) i = firstBy u1 L 0) ∧ m1 = m' ∧ k = L.length - i ∧
            e = [(2, AV.ptr m.vars.length 0), (5, .lst .no 2 (rowsLn L)), (6, .v (.int .i64 (i : Int)))]) (k := L.length) ⟨0, Nat.zero_le _, fun _ => rfl, rfl, rfl, rfl⟩ ?_
          rintro k e2 m' ⟨i, hi0, hf, rfl, rfl, rfl⟩
          refine go0 ?_
          refine runs_cond rfl (fun hc => ?_) (fun hc => ?_)
          · have hi1 : i < L.length := by have := of_decide_eq_true hc; omega
            have f2 := atLn (g := .no) (kk := .i64) hi1
            have hyes := fun hp => firstBy_yes (d := ln0) (p := u1) hi1 hp
            have hno := fun hp hz => by_no (d := ln0) hi1 hp (hf hz)
            have r6 := next_i64 (i := i) (by omega)
            generalize L.getD i ln0 = x at f2 hyes hno
            have hu : u1 x = (x.U == 1) := rfl
            rw [hu] at hyes hno
            cases q0 : (x.U == 1) with
            | false =>
              have hn0 := hno q0
              refine go1 (jn @f2 (jn @feLnU (jn @leLnU @q0))) ?_
              refine runs_cond rfl (fun hc => by cases hc) (fun hc => ?_)
              refine go1 @r6 ?_
              exact ⟨L.length - (i + 1), by omega, i + 1, hi1, hn0, rfl, rfl, rfl⟩
            | true =>
              have hy := hyes q0
              cases q1 : (R.epoch == 0) with
              | false =>
                refine go1 (jn @f2 (jn @feLnU (jn @leLnU (jn @q0 (jn @l2 @q1))))) ?_
                refine runs_cond rfl (fun hc => by cases hc) (fun hc => ?_)
                refine go1 @r6 ?_
                exact ⟨L.length - (i + 1), by omega, i + 1, hi1, (fun hz => by rw [hz] at q1; cases q1), rfl, rfl, rfl⟩
              | true =>
                rw [hy, q1] at e
                refine go1 (jn @f2 (jn @feLnU (jn @leLnU (jn @q0 (jn @l2 @q1))))) ?_
                refine runs_cond rfl (fun hc => ?_) (fun hc => by cases hc)
                refine go0 ?_
                exact fin _ _ rfl e
          · have hi1 : i = L.length := by have := of_decide_eq_false hc; omega
            subst hi1
            have hz : (L.any u1 && (R.epoch == 0)) = false := by
              cases q1 : (R.epoch == 0) with
              | false => exact Bool.and_false _
              | true => rw [firstBy_no (hf (by simpa using q1))]; rfl
            rw [hz] at e
            refine go1 @l2 ?_
            exact fin _ _ rfl (e.trans (Bool.true_and _))
        · have e := whole_3 (R := R)
          have y1 := lpRcWeights hv
          repeat' (first | refine gos1 (jn @nr @y1) ?_ | (refine ops_here ?_; (fail_if_success (refine ops_case (B := true) rfl rfl rfl ?_ ?_)); (fail_if_success (refine ops_case (B := false) rfl rfl rfl ?_ ?_)); refine ops_case rfl rfl rfl (fun hB => ?_) (fun hB => ?_) <;> rw [hB]) | (refine runs_here ?_; refine runs_cond rfl (fun hc => ?_) (fun hc => ?_) <;> first | (cases hc; done) | skip))
          exact fin _ _ rfl e
        · repeat' (first | refine gos1 @nr ?_ | (refine ops_here ?_; (fail_if_success (refine ops_case (B := true) rfl rfl rfl ?_ ?_)); (fail_if_success (refine ops_case (B := false) rfl rfl rfl ?_ ?_)); refine ops_case rfl rfl rfl (fun hB => ?_) (fun hB => ?_) <;> rw [hB]) | (refine runs_here ?_; refine runs_cond rfl (fun hc => ?_) (fun hc => ?_) <;> first | (cases hc; done) | skip))
          exact no rfl _ rfl
        · repeat' (first | refine gos1 @nr ?_ | (refine ops_here ?_; (fail_if_success (refine ops_case (B := true) rfl rfl rfl ?_ ?_)); (fail_if_success (refine ops_case (B := false) rfl rfl rfl ?_ ?_)); refine ops_case rfl rfl rfl (fun hB => ?_) (fun hB => ?_) <;> rw [hB]) | (refine runs_here ?_; refine runs_cond rfl (fun hc => ?_) (fun hc => ?_) <;> first | (cases hc; done) | skip))
          exact no rfl _ rfl
        · have e := whole_6 (R := R)
          have y1 := lpRcPhases hv
          repeat' (first | refine gos1 (jn @nr @y1) ?_ | (refine ops_here ?_; (fail_if_success (refine ops_case (B := true) rfl rfl rfl ?_ ?_)); (fail_if_success (refine ops_case (B := false) rfl rfl rfl ?_ ?_)); refine ops_case rfl rfl rfl (fun hB => ?_) (fun hB => ?_) <;> rw [hB]) | (refine runs_here ?_; refine runs_cond rfl (fun hc => ?_) (fun hc => ?_) <;> first | (cases hc; done) | skip))
          exact fin _ _ rfl e
        · repeat' (first | refine gos1 @nr ?_ | (refine ops_here ?_; (fail_if_success (refine ops_case (B := true) rfl rfl rfl ?_ ?_)); (fail_if_success (refine ops_case (B := false) rfl rfl rfl ?_ ?_)); refine ops_case rfl rfl rfl (fun hB => ?_) (fun hB => ?_) <;> rw [hB]) | (refine runs_here ?_; refine runs_cond rfl (fun hc => ?_) (fun hc => ?_) <;> first | (cases hc; done) | skip))
          exact no rfl _ rfl
        · repeat' (first | refine gos1 @nr ?_ | (refine ops_here ?_; (fail_if_success (refine ops_case (B := true) rfl rfl rfl ?_ ?_)); (fail_if_success (refine ops_case (B := false) rfl rfl rfl ?_ ?_)); refine ops_case rfl rfl rfl (fun hB => ?_) (fun hB => ?_) <;> rw [hB]) | (refine runs_here ?_; refine runs_cond rfl (fun hc => ?_) (fun hc => ?_) <;> first | (cases hc; done) | skip))
          exact no rfl _ rfl
        · have e := whole_9 (R := R)
          have hb' : b = true := by rcases hb with h | h; exact h; exact absurd rfl h
          have k1 := fun mm => hK hb' R mm 1 hmay hfit (.inl rfl)
          have k2 := fun mm => hK hb' R mm 2 hmay hfit (.inr (.inl rfl))
          have k8 := fun mm => hK hb' R mm 8 hmay hfit (.inr (.inr rfl))
          have c3 := fun mm => rsumG_at R mm (Rc.may_lens hmay)
          cases q1 : R.kept 1 with
          | false =>
            rw [q1] at e k1
            repeat' (first | refine gos1 (jn @nr (jn @l0 (jn @t2 (jn @k1 (jn @w1 @w2))))) ?_ | (refine ops_here ?_; (fail_if_success (refine ops_case (B := true) rfl rfl rfl ?_ ?_)); (fail_if_success (refine ops_case (B := false) rfl rfl rfl ?_ ?_)); refine ops_case rfl rfl rfl (fun hB => ?_) (fun hB => ?_) <;> rw [hB]) | (refine runs_here ?_; refine runs_cond rfl (fun hc => ?_) (fun hc => ?_) <;> first | (cases hc; done) | skip))
            exact fin _ _ rfl e
          | true =>
            rw [q1] at e k1
            cases q2 : R.kept 2 with
            | false =>
              rw [q2] at e k2
              repeat' (first | refine gos1 (jn @nr (jn @l0 (jn @t2 (jn @k1 (jn @k2 (jn @w1 @w2)))))) ?_ | (refine ops_here ?_; (fail_if_success (refine ops_case (B := true) rfl rfl rfl ?_ ?_)); (fail_if_success (refine ops_case (B := false) rfl rfl rfl ?_ ?_)); refine ops_case rfl rfl rfl (fun hB => ?_) (fun hB => ?_) <;> rw [hB]) | (refine runs_here ?_; refine runs_cond rfl (fun hc => ?_) (fun hc => ?_) <;> first | (cases hc; done) | skip))
              exact fin _ _ rfl e
            | true =>
              rw [q2] at e k2
              cases q8 : R.kept 8 with
              | false =>
                rw [q8] at e k8
                repeat' (first | refine gos1 (jn @nr (jn @l0 (jn @t2 (jn @k1 (jn @k2 (jn @k8 (jn @w1 @w2))))))) ?_ | (refine ops_here ?_; (fail_if_success (refine ops_case (B := true) rfl rfl rfl ?_ ?_)); (fail_if_success (refine ops_case (B := false) rfl rfl rfl ?_ ?_)); refine ops_case rfl rfl rfl (fun hB => ?_) (fun hB => ?_) <;> rw [hB]) | (refine runs_here ?_; refine runs_cond rfl (fun hc => ?_) (fun hc => ?_) <;> first | (cases hc; done) | skip))
                exact fin _ _ rfl e
              | true =>
                rw [q8] at e k8
                repeat' (first | refine gos1 (jn @nr (jn @l0 (jn @t2 (jn @k1 (jn @k2 (jn @k8 (jn @w1 (jn @w2 (jn @t3 @c3))))))))) ?_ | (refine ops_here ?_; (fail_if_success (refine ops_case (B := true) rfl rfl rfl ?_ ?_)); (fail_if_success (refine ops_case (B := false) rfl rfl rfl ?_ ?_)); refine ops_case rfl rfl rfl (fun hB => ?_) (fun hB => ?_) <;> rw [hB]) | (refine runs_here ?_; refine runs_cond rfl (fun hc => ?_) (fun hc => ?_) <;> first | (cases hc; done) | skip))
                exact fin _ _ rfl e
        · repeat' (first | refine gos1 @nr ?_ | (refine ops_here ?_; (fail_if_success (refine ops_case (B := true) rfl rfl rfl ?_ ?_)); (fail_if_success (refine ops_case (B := false) rfl rfl rfl ?_ ?_)); refine ops_case rfl rfl rfl (fun hB => ?_) (fun hB => ?_) <;> rw [hB]) | (refine runs_here ?_; refine runs_cond rfl (fun hc => ?_) (fun hc => ?_) <;> first | (cases hc; done) | skip))
          exact no rfl _ rfl
        · repeat' (first | refine gos1 @nr ?_ | (refine ops_here ?_; (fail_if_success (refine ops_case (B := true) rfl rfl rfl ?_ ?_)); (fail_if_success (refine ops_case (B := false) rfl rfl rfl ?_ ?_)); refine ops_case rfl rfl rfl (fun hB => ?_) (fun hB => ?_) <;> rw [hB]) | (refine runs_here ?_; refine runs_cond rfl (fun hc => ?_) (fun hc => ?_) <;> first | (cases hc; done) | skip))
          exact no rfl _ rfl
        · repeat' (first | refine gos1 @nr ?_ | (refine ops_here ?_; (fail_if_success (refine ops_case (B := true) rfl rfl rfl ?_ ?_)); (fail_if_success (refine ops_case (B := false) rfl rfl rfl ?_ ?_)); refine ops_case rfl rfl rfl (fun hB => ?_) (fun hB => ?_) <;> rw [hB]) | (refine runs_here ?_; refine runs_cond rfl (fun hc => ?_) (fun hc => ?_) <;> first | (cases hc; done) | skip))
          exact no rfl _ rfl
        · repeat' (first | refine gos1 @nr ?_ | (refine ops_here ?_; (fail_if_success (refine ops_case (B := true) rfl rfl rfl ?_ ?_)); (fail_if_success (refine ops_case (B := false) rfl rfl rfl ?_ ?_)); refine ops_case rfl rfl rfl (fun hB => ?_) (fun hB => ?_) <;> rw [hB]) | (refine runs_here ?_; refine runs_cond rfl (fun hc => ?_) (fun hc => ?_) <;> first | (cases hc; done) | skip))
          exact no rfl _ rfl
        · have e := whole_14 hn
          have y1 := lpRcStopOn hv
          have y2 := lpRcStopMetric hv
          have y3 := lpRcStopPatience hv
          cases q0 : R.stopOn with
          | false =>
            rw [q0] at e
            repeat' (first | refine gos1 (jn @nr (jn @y1 (jn @q0 @w2))) ?_ | (refine ops_here ?_; (fail_if_success (refine ops_case (B := true) rfl rfl rfl ?_ ?_)); (fail_if_success (refine ops_case (B := false) rfl rfl rfl ?_ ?_)); refine ops_case rfl rfl rfl (fun hB => ?_) (fun hB => ?_) <;> rw [hB]) | (refine runs_here ?_; refine runs_cond rfl (fun hc => ?_) (fun hc => ?_) <;> first | (cases hc; done) | skip))
            exact fin _ _ rfl e
          | true =>
            rw [q0] at e
            cases q1 : R.seen R.stopMetric with
            | false =>
              rw [q1] at e
              repeat' (first | refine gos1 (jn @nr (jn @y1 (jn @q0 (jn @w1 (jn @l0 (jn @y2 (jn @t4 (jn @c4 @q1)))))))) ?_ | (refine ops_here ?_; (fail_if_success (refine ops_case (B := true) rfl rfl rfl ?_ ?_)); (fail_if_success (refine ops_case (B := false) rfl rfl rfl ?_ ?_)); refine ops_case rfl rfl rfl (fun hB => ?_) (fun hB => ?_) <;> rw [hB]) | (refine runs_here ?_; refine runs_cond rfl (fun hc => ?_) (fun hc => ?_) <;> first | (cases hc; done) | skip))
              exact fin _ _ rfl e
            | true =>
              rw [q1] at e
              repeat' (first | refine gos1 (jn @nr (jn @y1 (jn @q0 (jn @w1 (jn @l0 (jn @y2 (jn @t4 (jn @c4 (jn @q1 @y3))))))))) ?_ | (refine ops_here ?_; (fail_if_success (refine ops_case (B := true) rfl rfl rfl ?_ ?_)); (fail_if_success (refine ops_case (B := false) rfl rfl rfl ?_ ?_)); refine ops_case rfl rfl rfl (fun hB => ?_) (fun hB => ?_) <;> rw [hB]) | (refine runs_here ?_; refine runs_cond rfl (fun hc => ?_) (fun hc => ?_) <;> first | (cases hc; done) | skip))
              exact fin _ _ rfl (e.trans (by simp only [Bool.not_true, Bool.false_or, Bool.true_and]))
        · have e := whole_15 hn
          have y1 := lpRcPlateauOn hv
          have y2 := lpRcPlateauMetric hv
          have y3 := lpRcPlateauPatience hv
          have y4 := lpRcPlateauFactor hv
          cases q0 : R.plateauOn with
          | false =>
            rw [q0] at e
            repeat' (first | refine gos1 (jn @nr (jn @y1 (jn @q0 @w2))) ?_ | (refine ops_here ?_; (fail_if_success (refine ops_case (B := true) rfl rfl rfl ?_ ?_)); (fail_if_success (refine ops_case (B := false) rfl rfl rfl ?_ ?_)); refine ops_case rfl rfl rfl (fun hB => ?_) (fun hB => ?_) <;> rw [hB]) | (refine runs_here ?_; refine runs_cond rfl (fun hc => ?_) (fun hc => ?_) <;> first | (cases hc; done) | skip))
            exact fin _ _ rfl e
          | true =>
            rw [q0] at e
            cases q1 : R.seen R.plateauMetric with
            | false =>
              rw [q1] at e
              repeat' (first | refine gos1 (jn @nr (jn @y1 (jn @q0 (jn @w1 (jn @l0 (jn @y2 (jn @t4 (jn @c4 @q1)))))))) ?_ | (refine ops_here ?_; (fail_if_success (refine ops_case (B := true) rfl rfl rfl ?_ ?_)); (fail_if_success (refine ops_case (B := false) rfl rfl rfl ?_ ?_)); refine ops_case rfl rfl rfl (fun hB => ?_) (fun hB => ?_) <;> rw [hB]) | (refine runs_here ?_; refine runs_cond rfl (fun hc => ?_) (fun hc => ?_) <;> first | (cases hc; done) | skip))
              exact fin _ _ rfl e
            | true =>
              rw [q1] at e
              cases q2 : decide (R.plateauPatience > 0) with
              | false =>
                rw [q2] at e
                repeat' (first | refine gos1 (jn @nr (jn @y1 (jn @q0 (jn @w1 (jn @l0 (jn @y2 (jn @t4 (jn @c4 (jn @q1 (jn @y3 @q2)))))))))) ?_ | (refine ops_here ?_; (fail_if_success (refine ops_case (B := true) rfl rfl rfl ?_ ?_)); (fail_if_success (refine ops_case (B := false) rfl rfl rfl ?_ ?_)); refine ops_case rfl rfl rfl (fun hB => ?_) (fun hB => ?_) <;> rw [hB]) | (refine runs_here ?_; refine runs_cond rfl (fun hc => ?_) (fun hc => ?_) <;> first | (cases hc; done) | skip))
                exact fin _ _ rfl e
              | true =>
                rw [q2] at e
                repeat' (first | refine gos1 (jn @nr (jn @y1 (jn @q0 (jn @w1 (jn @l0 (jn @y2 (jn @t4 (jn @c4 (jn @q1 (jn @y3 (jn @q2 @y4))))))))))) ?_ | (refine ops_here ?_; (fail_if_success (refine ops_case (B := true) rfl rfl rfl ?_ ?_)); (fail_if_success (refine ops_case (B := false) rfl rfl rfl ?_ ?_)); refine ops_case rfl rfl rfl (fun hB => ?_) (fun hB => ?_) <;> rw [hB]) | (refine runs_here ?_; refine runs_cond rfl (fun hc => ?_) (fun hc => ?_) <;> first | (cases hc; done) | skip))
                exact fin _ _ rfl (e.trans (by simp only [Bool.not_true, Bool.false_or, Bool.true_and]))
        · have e := whole_16 hn
          have y1 := lpRcKeepOn hv
          have y2 := lpRcKeepMetric hv
          have y3 := lpRcKeepCount hv
          cases q0 : R.keepOn with
          | false =>
            rw [q0] at e
            repeat' (first | refine gos1 (jn @nr (jn @y1 (jn @q0 @w2))) ?_ | (refine ops_here ?_; (fail_if_success (refine ops_case (B := true) rfl rfl rfl ?_ ?_)); (fail_if_success (refine ops_case (B := false) rfl rfl rfl ?_ ?_)); refine ops_case rfl rfl rfl (fun hB => ?_) (fun hB => ?_) <;> rw [hB]) | (refine runs_here ?_; refine runs_cond rfl (fun hc => ?_) (fun hc => ?_) <;> first | (cases hc; done) | skip))
            exact fin _ _ rfl e
          | true =>
            rw [q0] at e
            cases q1 : R.seen R.keepMetric with
            | false =>
              rw [q1] at e
              repeat' (first | refine gos1 (jn @nr (jn @y1 (jn @q0 (jn @w1 (jn @l0 (jn @y2 (jn @t4 (jn @c4 @q1)))))))) ?_ | (refine ops_here ?_; (fail_if_success (refine ops_case (B := true) rfl rfl rfl ?_ ?_)); (fail_if_success (refine ops_case (B := false) rfl rfl rfl ?_ ?_)); refine ops_case rfl rfl rfl (fun hB => ?_) (fun hB => ?_) <;> rw [hB]) | (refine runs_here ?_; refine runs_cond rfl (fun hc => ?_) (fun hc => ?_) <;> first | (cases hc; done) | skip))
              exact fin _ _ rfl e
            | true =>
              rw [q1] at e
              cases q2 : decide (R.keepCount ≥ 1) with
              | false =>
                rw [q2] at e
                repeat' (first | refine gos1 (jn @nr (jn @y1 (jn @q0 (jn @w1 (jn @l0 (jn @y2 (jn @t4 (jn @c4 (jn @q1 (jn @y3 @q2)))))))))) ?_ | (refine ops_here ?_; (fail_if_success (refine ops_case (B := true) rfl rfl rfl ?_ ?_)); (fail_if_success (refine ops_case (B := false) rfl rfl rfl ?_ ?_)); refine ops_case rfl rfl rfl (fun hB => ?_) (fun hB => ?_) <;> rw [hB]) | (refine runs_here ?_; refine runs_cond rfl (fun hc => ?_) (fun hc => ?_) <;> first | (cases hc; done) | skip))
                exact fin _ _ rfl e
              | true =>
                rw [q2] at e
                repeat' (first | refine gos1 (jn @nr (jn @y1 (jn @q0 (jn @w1 (jn @l0 (jn @y2 (jn @t4 (jn @c4 (jn @q1 (jn @y3 @q2)))))))))) ?_ | (refine ops_here ?_; (fail_if_success (refine ops_case (B := true) rfl rfl rfl ?_ ?_)); (fail_if_success (refine ops_case (B := false) rfl rfl rfl ?_ ?_)); refine ops_case rfl rfl rfl (fun hB => ?_) (fun hB => ?_) <;> rw [hB]) | (refine runs_here ?_; refine runs_cond rfl (fun hc => ?_) (fun hc => ?_) <;> first | (cases hc; done) | skip))
                exact fin _ _ rfl (e.trans (by simp only [Bool.not_true, Bool.false_or, Bool.true_and]))
        · have e := whole_17 (R := R)
          have y1 := lpRcEmaOn hv
          have y2 := lpRcEmaDecay hv
          cases q0 : R.emaOn with
          | false =>
            rw [q0] at e
            repeat' (first | refine gos1 (jn @nr (jn @y1 (jn @q0 @w2))) ?_ | (refine ops_here ?_; (fail_if_success (refine ops_case (B := true) rfl rfl rfl ?_ ?_)); (fail_if_success (refine ops_case (B := false) rfl rfl rfl ?_ ?_)); refine ops_case rfl rfl rfl (fun hB => ?_) (fun hB => ?_) <;> rw [hB]) | (refine runs_here ?_; refine runs_cond rfl (fun hc => ?_) (fun hc => ?_) <;> first | (cases hc; done) | skip))
            exact fin _ _ rfl e
          | true =>
            rw [q0] at e
            repeat' (first | refine gos1 (jn @nr (jn @y1 (jn @q0 (jn @w1 @y2)))) ?_ | (refine ops_here ?_; (fail_if_success (refine ops_case (B := true) rfl rfl rfl ?_ ?_)); (fail_if_success (refine ops_case (B := false) rfl rfl rfl ?_ ?_)); refine ops_case rfl rfl rfl (fun hB => ?_) (fun hB => ?_) <;> rw [hB]) | (refine runs_here ?_; refine runs_cond rfl (fun hc => ?_) (fun hc => ?_) <;> first | (cases hc; done) | skip))
            exact fin _ _ rfl (e.trans (by simp only [Bool.not_true, Bool.false_or, Bool.true_and]))
        · have e := whole_18 hn
          have y1 := lpRcSwaOn hv
          have y2 := lpRcSwaFrom hv
          have y3 := lpRcSwaEvery hv
          have c5 := fun mm => rstepsG_at (R := R) (m := mm) hn.from_ hn.steps.1 hn.epoch.1
          rw [show stepsP R.swaFromU R.swaFromN R.steps R.epoch = R.swaSteps from rfl] at c5
          generalize R.swaSteps = S at e c5
          cases q0 : R.swaOn with
          | false =>
            rw [q0] at e
            repeat' (first | refine gos1 (jn @nr (jn @l0 (jn @y1 (jn @y2 (jn @t5 (jn @c5 (jn @q0 @w2))))))) ?_ | (refine ops_here ?_; (fail_if_success (refine ops_case (B := true) rfl rfl rfl ?_ ?_)); (fail_if_success (refine ops_case (B := false) rfl rfl rfl ?_ ?_)); refine ops_case rfl rfl rfl (fun hB => ?_) (fun hB => ?_) <;> rw [hB]) | (refine runs_here ?_; refine runs_cond rfl (fun hc => ?_) (fun hc => ?_) <;> first | (cases hc; done) | skip))
            exact fin _ _ rfl e
          | true =>
            rw [q0] at e
            cases q1 : decide (R.swaEvery > 0) with
            | false =>
              rw [q1] at e
              repeat' (first | refine gos1 (jn @nr (jn @l0 (jn @y1 (jn @y2 (jn @t5 (jn @c5 (jn @q0 (jn @w1 (jn @y3 @q1))))))))) ?_ | (refine ops_here ?_; (fail_if_success (refine ops_case (B := true) rfl rfl rfl ?_ ?_)); (fail_if_success (refine ops_case (B := false) rfl rfl rfl ?_ ?_)); refine ops_case rfl rfl rfl (fun hB => ?_) (fun hB => ?_) <;> rw [hB]) | (refine runs_here ?_; refine runs_cond rfl (fun hc => ?_) (fun hc => ?_) <;> first | (cases hc; done) | skip))
              exact fin _ _ rfl e
            | true =>
              rw [q1] at e
              cases q2 : (S.2 == 0) with
              | false =>
                rw [q2] at e
                repeat' (first | refine gos1 (jn @nr (jn @l0 (jn @y1 (jn @y2 (jn @t5 (jn @c5 (jn @q0 (jn @w1 (jn @y3 (jn @q1 @q2)))))))))) ?_ | (refine ops_here ?_; (fail_if_success (refine ops_case (B := true) rfl rfl rfl ?_ ?_)); (fail_if_success (refine ops_case (B := false) rfl rfl rfl ?_ ?_)); refine ops_case rfl rfl rfl (fun hB => ?_) (fun hB => ?_) <;> rw [hB]) | (refine runs_here ?_; refine runs_cond rfl (fun hc => ?_) (fun hc => ?_) <;> first | (cases hc; done) | skip))
                exact fin _ _ rfl e
              | true =>
                rw [q2] at e
                repeat' (first | refine gos1 (jn @nr (jn @l0 (jn @y1 (jn @y2 (jn @t5 (jn @c5 (jn @q0 (jn @w1 (jn @y3 (jn @q1 (jn @q2 @l1))))))))))) ?_ | (refine ops_here ?_; (fail_if_success (refine ops_case (B := true) rfl rfl rfl ?_ ?_)); (fail_if_success (refine ops_case (B := false) rfl rfl rfl ?_ ?_)); refine ops_case rfl rfl rfl (fun hB => ?_) (fun hB => ?_) <;> rw [hB]) | (refine runs_here ?_; refine runs_cond rfl (fun hc => ?_) (fun hc => ?_) <;> first | (cases hc; done) | skip))
                exact fin _ _ rfl (e.trans (by simp only [Bool.not_true, Bool.false_or, Bool.true_and]))
        · have e := whole_19 (R := R)
          have y1 := lpRcEval hv
          repeat' (first | refine gos1 (jn @nr (jn @l1 @y1)) ?_ | (refine ops_here ?_; (fail_if_success (refine ops_case (B := true) rfl rfl rfl ?_ ?_)); (fail_if_success (refine ops_case (B := false) rfl rfl rfl ?_ ?_)); refine ops_case rfl rfl rfl (fun hB => ?_) (fun hB => ?_) <;> rw [hB]) | (refine runs_here ?_; refine runs_cond rfl (fun hc => ?_) (fun hc => ?_) <;> first | (cases hc; done) | skip))
          exact fin _ _ rfl e
      · cases h
    · cases h
  · cases h
end Go.Proofs.YtojaokhkbmiidaaGreat.Ev

namespace Go.Proofs.YtojaokhkbmiidaaGreat.Ev
open Go Go.Proofs
set_option maxRecDepth 10000
set_option maxHeartbeats 8000000
set_option linter.unusedVariables false
set_option linter.unusedSimpArgs false
attribute [local irreducible] Next Inside Runs Ops table
attribute [local go_sem] szStr szInt Option.getD_some isNil evStr iv loadStr loadInt mapRc cellsRc newRc rowsPh_len rowsS_len rowsGs_len rowsFl_len mkFl mkFls1 zrPh zoPh ldPh cellsPh mapPh fpRcMetrics fpRcGroups fpRcPhases fpPhName fpPhFrozen fpPhSets fePhName lePhName feFlItem leFlItem Bool.not_not
theorem mkFl2 {a b : Int} : evBuild Tryz.prog 83 [(0, .v (.int .i64 a)), (1, .v (.int .i64 b))] = some (.agg [.v (.int .i64 a), .v (.int .i64 b), .v (.int .i64 0)]) := by kernel_rfl
attribute [local go_sem] mkFl2
theorem mkFl1 {a : Int} : evBuild Tryz.prog 83 [(0, .v (.int .i64 a))] = some (.agg [.v (.int .i64 a), .v (.int .i64 0), .v (.int .i64 0)]) := by kernel_rfl
attribute [local go_sem] mkFl1
theorem mkFl0 : evBuildSlice Tryz.prog 40 0 [] = some (.lst .full 3 []) := build_nil appFl
attribute [local go_sem] mkFl0
theorem app_fl {m m' : Mem} {g g2 : Grow} (hG : GrowsA m g m') (xs : List Fl) (a b c : Int) (hl : xs.length ≤ 1000000) :
    ∃ g' m'', evAppend Tryz.prog 40 40 m' (.lst g 3 (rowsFl xs)) (.lst g2 3 [[.v (.int .i64 a), .v (.int .i64 b), .v (.int .i64 c)]]) = some (.lst g' 3 (rowsFl (xs ++ [⟨a, b, c⟩])), m'') ∧ GrowsA m g' m'' ∧ ∀ q, m''.var q = m'.var q := by
  have := app_growsV appFl hG (y := .lst g2 3 [[.v (.int .i64 a), .v (.int .i64 b), .v (.int .i64 c)]]) asList_lst (xs := rowsFl xs) (by rw [rowsFl_len]; unfold lim; simp; omega)
  rwa [show ([[.v (.int .i64 a), .v (.int .i64 b), .v (.int .i64 c)]] : List (List AV)) = rowsFl [⟨a, b, c⟩] from rfl, rowsFl_app] at this
/-! ### what the phases have -/
def nameDup (R : Rc) (i : Nat) : Bool := decide (placeOf (R.phases.map Ph.name) ((R.phases.map Ph.name).getD i ⟨#[]⟩) < (i : Int))
def fl7 (R : Rc) (rule : Int) (i : Nat) : List Fl := if rule = 7 then flawIf (nameDup R i) 7 i 0 else []
def fl8 (R : Rc) (rule : Int) (i : Nat) : List Fl := if rule = 8 then flawIf (R.lastBad i) 8 i 0 else []
def fl10 (R : Rc) (rule : Int) (i : Nat) : List Fl := if rule = 10 then upto (R.phases.getD i ph0).frozen.length fun k => flawIf (R.frozenBad (R.phases.getD i ph0) k) 10 i k else []
def fl11 (R : Rc) (rule : Int) (i : Nat) : List Fl := if 11 ≤ rule ∧ rule ≤ 13 then upto (R.phases.getD i ph0).sets.length fun k => flawIf (!R.setOk rule i k) rule i k else []
def phFl (R : Rc) (rule : Int) (i : Nat) : List Fl := fl7 R rule i ++ fl8 R rule i ++ fl10 R rule i ++ fl11 R rule i
theorem upto_nil {f : Nat → List Fl} : ∀ {n : Nat}, (∀ i, i < n → f i = []) → upto n f = []
  | 0, _ => rfl
  | n + 1, h => by rw [upto_next, upto_nil fun i hi => h i (by omega), h n (by omega)]; rfl
theorem upto_eq {f g : Nat → List Fl} : ∀ {n : Nat}, (∀ i, i < n → f i = g i) → upto n f = upto n g
  | 0, _ => rfl
  | n + 1, h => by rw [upto_next, upto_next, upto_eq fun i hi => h i (by omega), h n (by omega)]
theorem ph_none {R : Rc} {rule : Int} (h7 : rule ≠ 7) (h8 : rule ≠ 8) (h10 : rule ≠ 10) (h11 : ¬ (11 ≤ rule ∧ rule ≤ 13)) : upto R.phases.length (phFl R rule) = [] :=
  upto_nil fun i _ => by unfold phFl fl7 fl8 fl10 fl11; rw [if_neg h7, if_neg h8, if_neg h10, if_neg h11]; rfl
theorem brk_whole {R : Rc} {rule : Int} (h7 : rule ≠ 7) (h8 : rule ≠ 8) (h10 : rule ≠ 10) (h11 : ¬ (11 ≤ rule ∧ rule ≤ 13)) (h : brkL R rule = flawIf (R.wholeBad rule) rule 0 0) : brkL R rule = upto R.phases.length (phFl R rule) ++ flawIf (R.wholeBad rule) rule 0 0 := by
  rw [ph_none h7 h8 h10 h11, h]
  rfl
theorem brk_ph {R : Rc} {rule : Int} (hw : R.wholeBad rule = false) (h : brkL R rule = upto R.phases.length (phFl R rule)) : brkL R rule = upto R.phases.length (phFl R rule) ++ flawIf (R.wholeBad rule) rule 0 0 := by
  rw [hw, h]
  exact (List.append_nil _).symm
theorem sum_flaw (R : Rc) : sumL 9 R = flawIf ((R.kept 1 && (R.kept 2 && R.kept 8)) && R.sumBad) 9 0 0 := by
  have e : sumL 9 R = if R.kept 1 && (R.kept 2 && R.kept 8) then flawIf R.sumBad 9 0 0 else [] := rfl
  rw [e]
  cases R.kept 1 && (R.kept 2 && R.kept 8) <;> rfl
theorem phase_mem {R : Rc} {i : Nat} (hi : i < R.phases.length) : R.phases.getD i ph0 ∈ R.phases := by
  rw [List.getD, List.getElem?_eq_getElem hi]
  exact List.getElem_mem _
theorem set_mem {p : Ph} {i : Nat} (hi : i < p.sets.length) : p.sets.getD i gs0 ∈ p.sets := by
  rw [List.getD, List.getElem?_eq_getElem hi]
  exact List.getElem_mem _
theorem brk_is {R : Rc} {rule : Int} (hm : R.may = true) (h : isRule rule) (h4 : rule ≠ 4) (h5 : rule ≠ 5) : brkL R rule = upto R.phases.length (phFl R rule) ++ flawIf (R.wholeBad rule) rule 0 0 := by
  have ht := (may_parts hm).2.1
  unfold isRule at h
  rcases h with rfl | rfl | rfl | rfl | rfl | rfl | rfl | rfl | rfl | rfl | rfl | rfl | rfl | rfl | rfl | rfl | rfl | rfl | rfl
  · exact brk_whole (by decide) (by decide) (by decide) (by decide) rfl
  · exact brk_whole (by decide) (by decide) (by decide) (by decide) rfl
  · exact brk_whole (by decide) (by decide) (by decide) (by decide) rfl
  · exact absurd rfl h4
  · exact absurd rfl h5
  · exact brk_whole (by decide) (by decide) (by decide) (by decide) rfl
  · refine brk_ph rfl ?_
    show upto (R.phases.map Ph.name).length _ = _
    rw [List.length_map]
    exact upto_eq fun i _ => by unfold phFl fl7 fl8 fl10 fl11; rw [if_pos rfl, if_neg (by decide), if_neg (by decide), if_neg (by decide), List.append_nil, List.append_nil, List.append_nil]; rfl
  · refine brk_ph rfl ?_
    show upto R.phases.length _ = _
    exact upto_eq fun i _ => by unfold phFl fl7 fl8 fl10 fl11; rw [if_neg (by decide), if_pos rfl, if_neg (by decide), if_neg (by decide), List.append_nil, List.append_nil, List.nil_append]
  · exact brk_whole (by decide) (by decide) (by decide) (by decide) (sum_flaw R)
  · refine brk_ph rfl ?_
    show upto R.phases.length _ = _
    exact upto_eq fun i _ => by unfold phFl fl7 fl8 fl10 fl11; rw [if_neg (by decide), if_neg (by decide), if_pos rfl, if_neg (by decide), List.append_nil, List.nil_append, List.nil_append]
  · refine brk_ph rfl ?_
    show upto R.phases.length _ = _
    refine upto_eq fun i _ => ?_
    unfold phFl fl7 fl8 fl10 fl11
    rw [if_neg (by decide), if_neg (by decide), if_neg (by decide), if_pos (by decide), List.nil_append, List.nil_append, List.nil_append]
    exact upto_eq fun k _ => by show _ = flawIf (!(!setBad R (R.phases.getD i ph0) k)) 11 i k; rw [Bool.not_not]
  · refine brk_ph rfl ?_
    show upto R.phases.length _ = _
    refine upto_eq fun i _ => ?_
    unfold phFl fl7 fl8 fl10 fl11
    rw [if_neg (by decide), if_neg (by decide), if_neg (by decide), if_pos (by decide), List.nil_append, List.nil_append, List.nil_append]
    exact upto_eq fun k _ => by show _ = flawIf (!(!bentS ((R.phases.getD i ph0).sets.getD k gs0))) 12 i k; rw [Bool.not_not]
  · refine brk_ph rfl ?_
    show upto R.phases.length _ = _
    refine upto_eq fun i hi => ?_
    unfold phFl fl7 fl8 fl10 fl11
    rw [if_neg (by decide), if_neg (by decide), if_neg (by decide), if_pos (by decide), List.nil_append, List.nil_append, List.nil_append]
    exact upto_eq fun k hk => by
      show flawIf (highS _) 13 i k = flawIf (!(!((((R.phases.getD i ph0).sets.getD k gs0).param != 0) && bigN ((R.phases.getD i ph0).sets.getD k gs0).nodes))) 13 i k
      rw [Bool.not_not, highS_big ((ht _ (phase_mem hi)).2 _ (set_mem hk))]
  · exact brk_whole (by decide) (by decide) (by decide) (by decide) rfl
  · exact brk_whole (by decide) (by decide) (by decide) (by decide) rfl
  · exact brk_whole (by decide) (by decide) (by decide) (by decide) rfl
  · exact brk_whole (by decide) (by decide) (by decide) (by decide) rfl
  · exact brk_whole (by decide) (by decide) (by decide) (by decide) rfl
  · exact brk_whole (by decide) (by decide) (by decide) (by decide) rfl
theorem phFl_len {R : Rc} (h : R.small) (rule : Int) (i : Nat) : (phFl R rule i).length ≤ 130 := by
  have hp := h.phase i
  have a1 : (fl7 R rule i).length ≤ 1 := by unfold fl7; split; exact flawIf_len ..; simp
  have a2 : (fl8 R rule i).length ≤ 1 := by unfold fl8; split; exact flawIf_len ..; simp
  have a3 : (fl10 R rule i).length ≤ 64 := by unfold fl10; split; exact upto_le1 hp.1; simp
  have a4 : (fl11 R rule i).length ≤ 64 := by unfold fl11; split; exact upto_le1 hp.2.1; simp
  unfold phFl
  simp only [List.length_append]
  omega
theorem fl7_item {R : Rc} {n : Nat} : ∀ x ∈ upto n (phFl R 7), x.item < (n : Int) := by
  induction n with
  | zero => intro x hx; simp [upto_zero] at hx
  | succ n ih =>
    intro x hx
    rw [upto_next, List.mem_append] at hx
    rcases hx with hx | hx
    · have := ih x hx; omega
    · unfold phFl fl7 fl8 fl10 fl11 at hx
      rw [if_pos rfl, if_neg (by decide), if_neg (by decide), if_neg (by decide), List.append_nil, List.append_nil, List.append_nil] at hx
      unfold flawIf at hx
      split at hx
      · simp only [List.mem_singleton] at hx
        rw [hx]
        simp only
        omega
      · simp at hx
theorem last_item {acc : List Fl} {i : Int} (h : ∀ x ∈ acc, x.item < i) (h0 : acc.length ≠ 0) : ((acc.getD (acc.length - 1) fl0).item != i) = true := by
  have hm : acc.getD (acc.length - 1) fl0 ∈ acc := by
    rw [List.getD, List.getElem?_eq_getElem (by omega)]
    exact List.getElem_mem _
  have := h _ hm
  simp only [bne_iff_ne, ne_eq]
  omega
theorem last_app {acc : List Fl} {x : Fl} : (acc ++ [x]).getD ((acc ++ [x]).length - 1) fl0 = x := by
  simp [List.getD]
def brokenRG (b : Bool) : List AV → Mem → Option (AV × Mem)
  | [.agg cs, .v (.int .i64 rule)], m =>
    match unRc cs with
    | some R => if R.may = true ∧ R.fit ∧ isRule rule ∧ (b = true ∨ rule ≠ 9) then some (.lst .no 3 (rowsFl (brkL R rule)), m) else none
    | none => none
  | _, _ => none
theorem brokenRG_at {R : Rc} {m : Mem} {b : Bool} {rule : Int} (h : R.may = true) (h1 : R.fit) (h2 : isRule rule) (h3 : b = true ∨ rule ≠ 9) : brokenRG b [.agg R.row, .v (.int .i64 rule)] m = some (.lst .no 3 (rowsFl (brkL R rule)), m) := by
  simp only [brokenRG, unRc_row]
  rw [if_pos ⟨h, h1, h2, h3⟩]
def kpBroken20 : Nat → Option (List Nat) := fun
  | 0 => some [1, 2]
  | 1 => some [1, 2, 5]
  | 2 => some [1, 2, 5, 19]
  | 3 => some [1, 2, 5, 6]
  | 4 => some [1, 2, 5, 6, 23]
  | 5 => some [1, 5, 6]
  | 6 => some [1, 5, 6, 7]
  | 7 => some [1, 5, 6, 7, 29]
  | 8 => some [1, 5, 6, 7]
  | 9 => some [1, 5, 6, 7, 35]
  | 10 => some [1, 5, 6, 7]
  | 11 => some [4]
  | 12 => some [1, 2, 5, 8]
  | 13 => some [1, 2, 5, 8, 47]
  | 14 => some [1, 2, 5, 8]
  | 15 => some [1, 2, 5, 8, 9]
  | 16 => some [1, 2, 5, 8, 9, 56]
  | 17 => some [1, 2, 5, 8, 9, 10]
  | 18 => some [1, 2, 5, 8, 9, 10, 59]
  | 19 => some [1, 2, 5, 8, 9, 10]
  | 20 => some [1, 2, 5, 8, 9, 10, 86]
  | 21 => some [1, 2, 5, 8, 9, 10]
  | 22 => some [1, 2, 5, 8, 9, 100]
  | 23 => some [1, 2, 5, 8, 9]
  | 24 => some [1, 2, 5, 8, 9, 11]
  | 25 => some [1, 2, 5, 8, 9, 11, 115]
  | 26 => some [1, 2, 5, 8, 9, 11]
  | 27 => some [1, 2, 5, 8, 9, 11, 133]
  | 28 => some [1, 2, 5, 8, 9, 11]
  | 29 => some [1, 2, 5, 8, 9, 12]
  | 30 => some [1, 2, 5, 8, 9, 12, 153]
  | 31 => some [1, 2, 5, 8, 9, 12]
  | 32 => some [1, 2, 5, 8, 9, 12, 161]
  | 33 => some [1, 2, 5, 8, 9, 12]
  | 34 => some [1, 5, 172]
  | 35 => some [5]
  | 36 => some [4]
  | _ => none
attribute [go_sem] kpBroken20
def tab_broken20 (b : Bool) : List (FuncId × (List AV → Mem → Option (AV × Mem))) := [(99, firstG), (100, rlastG), (93, placeG), (101, setOkG), (102, wholeRG b)]
theorem broken20_ok (b : Bool) (hW : FunOk Tryz.prog 102 (wholeRG b)) : FunOk Tryz.prog 46 (brokenRG b) := by
  have hC := table_ok (P := Tryz.prog) (l := tab_broken20 b) (table_more first20_ok (table_more rlast_ok (table_more refPlace_ok (table_more set20_ok (table_more hW table_nil)))))
  have t1 := fun args mm => table_at (l := tab_broken20 b) (f := 99) (args := args) (m := mm) rfl
  have t2 := fun args mm => table_at (l := tab_broken20 b) (f := 100) (args := args) (m := mm) rfl
  have t3 := fun args mm => table_at (l := tab_broken20 b) (f := 93) (args := args) (m := mm) rfl
  have t4 := fun args mm => table_at (l := tab_broken20 b) (f := 101) (args := args) (m := mm) rfl
  have t5 := fun args mm => table_at (l := tab_broken20 b) (f := 102) (args := args) (m := mm) rfl
  refine fun_ok mixed hC Tryz.func46 rfl kpBroken20 false rfl fun args m r h => ?_
  unfold brokenRG at h
  split at h
  · rename_i cs rule
    split at h
    · rename_i R hR
      obtain rfl := unRc_some hR
      split at h
      · rename_i hyp
        obtain ⟨hmay, hfit, hrule, hb⟩ := hyp
        simp only [Option.some.injEq] at h
        subst h
        refine ⟨Nat.le_of_ble_eq_true rfl, ?_⟩
        simp only [entry, List.length_cons, List.length_nil, List.range, List.range.loop, List.zip_cons_cons, List.zip_nil_right]
        have hn := Rc.may_num hmay
        have hsm := Rc.may_small hmay
        have hP64 := hsm.2.2.1
        have hG0 : GrowsA m .full (m.push R.row) := growsA_push growsA_full
        have hv : (m.push R.row).var m.vars.length = some R.row := push_var
        have nr := newRc (m := m) (x := R)
        generalize m.push R.row = m1 at hG0 hv nr
        by_cases h45 : rule = 4 ∨ rule = 5
        · rcases h45 with rfl | rfl
          · -- rule 4
            have hbrk : brkL R 4 = twinsL 4 R.metrics := rfl
            have hl64 := hsm.1
            have y1 := lpRcMetrics hv
            have y0 := lpRcMetrics hv
            rw [hbrk]
            refine go1 @nr ?_
            refine runs_cond rfl (fun hc => ?_) (fun hc => by cases hc)
            refine go1 @y1 ?_
            refine runs_cond rfl (fun hc => by cases hc) (fun hc => ?_)
            refine go1 @y1 ?_
            generalize R.metrics = l at hl64
            refine runs_loop (fun k e m' => ∃ (i : Nat) (gr : Grow), i ≤ l.length ∧ GrowsA m gr m' ∧ k = l.length - i ∧
              e = [(1, AV.v (.int .i64 4)), (5, .lst gr 3 (rowsFl (upto i fun i => flawIf (decide (placeOf l (l.getD i ⟨#[]⟩) < (i : Int))) 4 i 0))), (6, .lst .no 1 (rowsS l)), (7, .v (.int .i64 (i : Int)))]) (k := l.length) ⟨0, _, Nat.zero_le _, hG0, rfl, rfl⟩ ?_
            rintro k e m' ⟨i, gr, hi0, hG, rfl, rfl⟩
            refine go0 ?_
            refine runs_cond rfl (fun hc => ?_) (fun hc => ?_)
            · have hi1 : i < l.length := by have := of_decide_eq_true hc; omega
              have c1 := fun mm => firstG_at (m := mm) (g := .no) (l := l) (i := i) (by omega) hi1
              have d1 := place_self hi1
              have hN := @upto_next i (fun i => flawIf (decide (placeOf l (l.getD i ⟨#[]⟩) < (i : Int))) 4 i 0)
              have hB := @upto_len (fun i => flawIf (decide (placeOf l (l.getD i ⟨#[]⟩) < (i : Int))) 4 i 0) 1 i fun k _ => flawIf_len ..
              generalize (upto i fun i => flawIf (decide (placeOf l (l.getD i ⟨#[]⟩) < (i : Int))) 4 i 0) = acc at hG hN hB
              generalize (placeOf l (l.getD i ⟨#[]⟩) == (i : Int)) = qb at c1 d1
              rw [← d1] at hN
              have r6 := next_i64 (i := i) (by omega)
              refine go1 (jn @t1 @c1) ?_
              refine runs_cond rfl (fun hc => ?_) (fun hc => ?_)
              · obtain ⟨g2, m2, a1, hG2, hV2⟩ := app_fl (g2 := .full) hG acc 4 i 0 (by omega)
                rw [show flawIf (!qb) 4 i 0 = [⟨4, i, 0⟩] from if_pos hc] at hN
                refine go1 (jn @a1 @r6) ?_
                exact ⟨l.length - (i + 1), by omega, i + 1, _, hi1, hG2, rfl, by rw [hN]⟩
              · rw [show flawIf (!qb) 4 i 0 = [] from if_neg (by rw [hc]; decide), List.append_nil] at hN
                refine go1 @r6 ?_
                exact ⟨l.length - (i + 1), by omega, i + 1, _, hi1, hG, rfl, by rw [hN]⟩
            · have hi1 : i = l.length := by have := of_decide_eq_false hc; omega
              subst hi1
              refine go0 ?_
              exact leaves_lst rfl rfl (growsA_fin hG)
          · -- rule 5
            have hbrk : brkL R 5 = twinsL 5 R.groups := rfl
            have hl64 := hsm.2.1
            have y1 := lpRcGroups hv
            have y0 := lpRcMetrics hv
            rw [hbrk]
            refine go1 @nr ?_
            refine runs_cond rfl (fun hc => ?_) (fun hc => by cases hc)
            refine go1 @y0 ?_
            refine runs_cond rfl (fun hc => ?_) (fun hc => by cases hc)
            refine go1 @y1 ?_
            generalize R.groups = l at hl64
            refine runs_loop (fun k e m' => ∃ (i : Nat) (gr : Grow), i ≤ l.length ∧ GrowsA m gr m' ∧ k = l.length - i ∧
              e = [(1, AV.v (.int .i64 5)), (5, .lst gr 3 (rowsFl (upto i fun i => flawIf (decide (placeOf l (l.getD i ⟨#[]⟩) < (i : Int))) 5 i 0))), (6, .lst .no 1 (rowsS l)), (7, .v (.int .i64 (i : Int)))]) (k := l.length) ⟨0, _, Nat.zero_le _, hG0, rfl, rfl⟩ ?_
            rintro k e m' ⟨i, gr, hi0, hG, rfl, rfl⟩
            refine go0 ?_
            refine runs_cond rfl (fun hc => ?_) (fun hc => ?_)
            · have hi1 : i < l.length := by have := of_decide_eq_true hc; omega
              have c1 := fun mm => firstG_at (m := mm) (g := .no) (l := l) (i := i) (by omega) hi1
              have d1 := place_self hi1
              have hN := @upto_next i (fun i => flawIf (decide (placeOf l (l.getD i ⟨#[]⟩) < (i : Int))) 5 i 0)
              have hB := @upto_len (fun i => flawIf (decide (placeOf l (l.getD i ⟨#[]⟩) < (i : Int))) 5 i 0) 1 i fun k _ => flawIf_len ..
              generalize (upto i fun i => flawIf (decide (placeOf l (l.getD i ⟨#[]⟩) < (i : Int))) 5 i 0) = acc at hG hN hB
              generalize (placeOf l (l.getD i ⟨#[]⟩) == (i : Int)) = qb at c1 d1
              rw [← d1] at hN
              have r6 := next_i64 (i := i) (by omega)
              refine go1 (jn @t1 @c1) ?_
              refine runs_cond rfl (fun hc => ?_) (fun hc => ?_)
              · obtain ⟨g2, m2, a1, hG2, hV2⟩ := app_fl (g2 := .full) hG acc 5 i 0 (by omega)
                rw [show flawIf (!qb) 5 i 0 = [⟨5, i, 0⟩] from if_pos hc] at hN
                refine go1 (jn @a1 @r6) ?_
                exact ⟨l.length - (i + 1), by omega, i + 1, _, hi1, hG2, rfl, by rw [hN]⟩
              · rw [show flawIf (!qb) 5 i 0 = [] from if_neg (by rw [hc]; decide), List.append_nil] at hN
                refine go1 @r6 ?_
                exact ⟨l.length - (i + 1), by omega, i + 1, _, hi1, hG, rfl, by rw [hN]⟩
            · have hi1 : i = l.length := by have := of_decide_eq_false hc; omega
              subst hi1
              refine go0 ?_
              exact leaves_lst rfl rfl (growsA_fin hG)
        · have hbrk := brk_is hmay hrule (fun h => h45 (.inl h)) (fun h => h45 (.inr h))
          rw [hbrk]
          have q4 : (rule == 4) = false := by simpa using fun h => h45 (.inl h)
          have q5 : (rule == 5) = false := by simpa using fun h => h45 (.inr h)
          refine go1 (jn @nr (jn @q4 @q5)) ?_
          refine runs_cond rfl (fun hc => by cases hc) (fun hc => ?_)
          refine go0 ?_
          refine runs_loop (fun k e m' => ∃ (i : Nat) (gr : Grow), i ≤ R.phases.length ∧ GrowsA m gr m' ∧ m'.var m.vars.length = some R.row ∧ k = R.phases.length - i ∧
            e = [(1, AV.v (.int .i64 rule)), (2, .ptr m.vars.length 0), (5, .lst gr 3 (rowsFl (upto i (phFl R rule)))), (8, .v (.int .i64 (i : Int)))]) (k := R.phases.length) ⟨0, _, Nat.zero_le _, hG0, hv, rfl, rfl⟩ ?_
          rintro k e m' ⟨i, gr, hi0, hG, hw, rfl, rfl⟩
          have l1 := lpRcPhases hw
          refine go1 @l1 ?_
          refine runs_cond rfl (fun hc => ?_) (fun hc => ?_)
          · have hi1 : i < R.phases.length := by have := of_decide_eq_true hc; omega
            have f2 := atPh (g := .no) (kk := .i64) hi1
            have hp := hsm.phase i
            have hlen := phFl_len hsm rule
            have hN := @upto_next i (phFl R rule)
            have hB := @upto_len (phFl R rule) 130 i fun k _ => hlen k
            have hit := @fl7_item R i
            have hdup : (nameDup R i) = ((R.phases.map Ph.name).take i).any fun y => decide (y = (R.phases.getD i ph0).name) := by
              unfold nameDup
              rw [← place_any (by rw [List.length_map]; exact hi1)]
              have : (R.phases.map Ph.name).getD i ⟨#[]⟩ = (R.phases.getD i ph0).name := by simp [List.getD, List.getElem?_eq_getElem hi1]
              rw [this]
            have hmay2 := (may_parts hmay).2.1 _ (phase_mem hi1)
            have e10 : fl10 R rule i = if rule = 10 then upto (R.phases.getD i ph0).frozen.length fun k => flawIf (R.frozenBad (R.phases.getD i ph0) k) 10 i k else [] := rfl
            have e11 : fl11 R rule i = if 11 ≤ rule ∧ rule ≤ 13 then upto (R.phases.getD i ph0).sets.length fun k => flawIf (!R.setOk rule i k) rule i k else [] := rfl
            have hset : ∀ (k : Nat) mm, (rule = 11 ∨ rule = 12 ∨ rule = 13) → k < (R.phases.getD i ph0).sets.length → setOkG [.agg R.row, .v (.int .i64 rule), .v (.int .i64 (i : Int)), .v (.int .i64 (k : Int))] mm = some (.v (.bool (R.setOk rule i k)), mm) := fun k mm h1 h2 => setOkG_at hsm h1 hi1 h2
            have hl8 := fun mm => rlastG_at (R := R) (i := i) (m := mm) hP64 hi1 hmay2.1 hn.steps.1 hn.epoch.1
            generalize R.phases.getD i ph0 = p at f2 hp hdup e10 e11 hset
            have z1 := zsPh (m := m') (x := p)
            have z2 := znPh (m := m')
            have hG1 := growsA_push (cs := p.row) hG
            have hw1 := push_old (cs' := p.row) hw
            have hp1 : (m'.push p.row).var m'.vars.length = some p.row := push_var
            generalize m'.push p.row = m5 at z1 hG1 hw1 hp1
            have hphi : phFl R rule i = fl7 R rule i ++ fl8 R rule i ++ fl10 R rule i ++ fl11 R rule i := rfl
            have hlen7 : (fl7 R rule i).length ≤ 1 := by unfold fl7; split; exact flawIf_len ..; simp
            have hlen8 : (fl8 R rule i).length ≤ 1 := by unfold fl8; split; exact flawIf_len ..; simp
            have hlen10 : (fl10 R rule i).length ≤ 64 := by rw [e10]; split; exact upto_le1 hp.1; simp
            generalize hacc : upto i (phFl R rule) = acc at hG1 hN hB
            refine go1 (jn @l1 (jn @f2 (jn @z2 @z1))) ?_
            generalize m'.vars.length = n5 at hp1 ⊢
            -- the names
            refine runs_icut (fun e2 m2 => ∃ gr2 E, GrowsA m gr2 m2 ∧ m2.var m.vars.length = some R.row ∧ m2.var n5 = some p.row ∧ e2 = (1, AV.v (.int .i64 rule)) :: (2, .ptr m.vars.length 0) :: (5, .lst gr2 3 (rowsFl (acc ++ fl7 R rule i))) :: (8, .v (.int .i64 (i : Int))) :: (9, .ptr n5 0) :: E) ?_ ?_
            · refine runs_cond rfl (fun hc => ?_) (fun hc => ?_)
              · have h7 : rule = 7 := by simpa using hc
                subst h7
                rw [show fl7 R 7 i = flawIf (nameDup R i) 7 i 0 from if_pos rfl, hdup]
                rw [hacc] at hit
                refine go0 ?_
                refine runs_loop (fun k e m' => ∃ (j : Nat) (gr : Grow), j ≤ i ∧ GrowsA m gr m' ∧ m'.var m.vars.length = some R.row ∧ m'.var n5 = some p.row ∧ k = i - j ∧
                  e = [(1, AV.v (.int .i64 7)), (2, .ptr m.vars.length 0), (5, .lst gr 3 (rowsFl (acc ++ flawIf (((R.phases.map Ph.name).take j).any fun y => decide (y = p.name)) 7 i 0))), (8, .v (.int .i64 (i : Int))), (9, .ptr n5 0), (10, .v (.int .i64 (j : Int)))]) (k := i) ⟨0, _, Nat.zero_le _, hG1, hw1, hp1, rfl, by rw [List.take_zero]; show _ = [_, _, (5, AV.lst gr 3 (rowsFl (acc ++ []))), _, _, _]; rw [List.append_nil]; rfl⟩ ?_
                rintro k e m' ⟨j, gr, hj0, hG, hw, hpv, rfl, rfl⟩
                refine go0 ?_
                refine runs_cond rfl (fun hc => ?_) (fun hc => ?_)
                · have hj1 : j < i := by have := of_decide_eq_true hc; omega
                  have hj2 : j < R.phases.length := by omega
                  have f3 := atPh (g := .no) (kk := .i64) hj2
                  have hNx : ((R.phases.map Ph.name).take (j + 1)).any (fun y => decide (y = p.name)) = (((R.phases.map Ph.name).take j).any (fun y => decide (y = p.name)) || decide ((R.phases.getD j ph0).name = p.name)) := by
                    rw [take_next (d := ⟨#[]⟩) (by rw [List.length_map]; exact hj2), List.any_append]
                    have : (R.phases.map Ph.name).getD j ⟨#[]⟩ = (R.phases.getD j ph0).name := by simp [List.getD, List.getElem?_eq_getElem hj2]
                    rw [this]
                    simp
                  have l3 := lpRcPhases hw
                  have l4 := lpPhName hpv
                  have r6 := next_i64 (i := j) (by omega)
                  generalize R.phases.getD j ph0 = x at f3 hNx
                  generalize hbn : ((R.phases.map Ph.name).take (j + 1)).any (fun y => decide (y = p.name)) = bn at hNx
                  generalize ((R.phases.map Ph.name).take j).any (fun y => decide (y = p.name)) = bj at hNx hG
                  rw [← bytes_dec] at hNx
                  refine go0 ?_
                  refine runs_ops_drawn_kept (by kernel_rfl) ?_
                  cases q0 : (x.name == p.name) with
                  | false =>
                    rw [q0, Bool.or_false] at hNx
                    subst hNx
                    refine go1 (jn @l3 (jn @f3 (jn @l4 @q0))) ?_
                    refine runs_cond rfl (fun hc => by cases hc) (fun hc => ?_)
                    refine go1 @r6 ?_
                    exact ⟨i - (j + 1), by omega, j + 1, _, hj1, hG, hw, hpv, rfl, by rw [hbn]⟩
                  | true =>
                    rw [q0, Bool.or_true] at hNx
                    subst hNx
                    cases bj with
                    | true =>
                      rw [show flawIf true 7 i 0 = [⟨7, i, 0⟩] from rfl] at *
                      have hla : ((acc ++ [(⟨7, i, 0⟩ : Fl)]).getD ((acc ++ [(⟨7, i, 0⟩ : Fl)]).length - 1) fl0).item = i := by rw [last_app]
                      have hz : (acc ++ [(⟨7, i, 0⟩ : Fl)]).length = acc.length + 1 := by simp
                      generalize hL : acc ++ [(⟨7, i, 0⟩ : Fl)] = L at hla hz
                      have z0 : (((L.length : Nat) : Int) == 0) = false := by simp only [beq_eq_false_iff_ne]; omega
                      have r1 : IntKind.i64.wrap (((L.length : Nat) : Int) - 1) = ((L.length - 1 : Nat) : Int) := by rw [i64_wrap (by omega) (by omega)]; omega
                      have f4 := atFl (g := gr) (kk := .i64) (l := L) (i := L.length - 1) (by omega)
                      generalize L.getD (L.length - 1) fl0 = y at f4 hla
                      have q9 : (y.item != (i : Int)) = false := by rw [hla]; simp
                      refine go1 (jn @l3 (jn @f3 (jn @l4 (jn @q0 (jn @z0 (jn @r1 (jn @f4 @q9))))))) ?_
                      refine runs_cond rfl (fun hc => by cases hc) (fun hc => ?_)
                      refine go1 @r6 ?_
                      exact ⟨i - (j + 1), by omega, j + 1, _, hj1, hG, hw, hpv, rfl, by rw [hbn, ← hL]; rfl⟩
                    | false =>
                      rw [show flawIf false 7 i 0 = [] from rfl, List.append_nil] at *
                      obtain ⟨g2, m2, a1, hG2, hV2⟩ := app_fl (g2 := .full) hG acc 7 i 0 (by omega)
                      by_cases hz : acc.length = 0
                      · have z0 : (((acc.length : Nat) : Int) == 0) = true := by simp only [beq_iff_eq]; omega
                        refine go1 (jn @l3 (jn @f3 (jn @l4 (jn @q0 @z0)))) ?_
                        refine runs_cond rfl (fun hc => ?_) (fun hc => by cases hc)
                        refine go1 (jn @a1 @r6) ?_
                        exact ⟨i - (j + 1), by omega, j + 1, _, hj1, hG2, by rw [hV2]; exact hw, by rw [hV2]; exact hpv, rfl, by rw [hbn]; rfl⟩
                      · have z0 : (((acc.length : Nat) : Int) == 0) = false := by simp only [beq_eq_false_iff_ne]; omega
                        have r1 : IntKind.i64.wrap (((acc.length : Nat) : Int) - 1) = ((acc.length - 1 : Nat) : Int) := by rw [i64_wrap (by omega) (by omega)]; omega
                        have f4 := atFl (g := gr) (kk := .i64) (l := acc) (i := acc.length - 1) (by omega)
                        have q9 := last_item hit hz
                        generalize acc.getD (acc.length - 1) fl0 = y at f4 q9
                        refine go1 (jn @l3 (jn @f3 (jn @l4 (jn @q0 (jn @z0 (jn @r1 (jn @f4 @q9))))))) ?_
                        refine runs_cond rfl (fun hc => ?_) (fun hc => by cases hc)
                        refine go1 (jn @a1 @r6) ?_
                        exact ⟨i - (j + 1), by omega, j + 1, _, hj1, hG2, by rw [hV2]; exact hw, by rw [hV2]; exact hpv, rfl, by rw [hbn]; rfl⟩
                · have hj1 : j = i := by have := of_decide_eq_false hc; omega
                  subst hj1
                  refine go0 ?_
                  exact ⟨rfl, _, _, hG, hw, hpv, rfl⟩
              · have h7 : rule ≠ 7 := by simpa using hc
                rw [show fl7 R rule i = [] from if_neg h7, List.append_nil]
                refine go0 ?_
                exact ⟨rfl, _, _, hG1, hw1, hp1, rfl⟩
            rintro e2 m2 ⟨gr2, E, hG2, hw2, hp2, rfl⟩
            refine next_normal ?_
            -- the lengths
            have l0 := vrRc hw2
            generalize hacc2 : acc ++ fl7 R rule i = acc2 at hG2
            have hlen2 : acc2.length ≤ acc.length + 1 := by rw [← hacc2, List.length_append]; omega
            have hR22 : ∀ (bb : Bool), bb = ((rule == 8) && R.lastBad i) → fl8 R rule i = if bb then [⟨rule, i, 0⟩] else [] := fun bb h => by
              unfold fl8 flawIf
              rw [h]
              by_cases h8 : rule = 8
              · subst h8; rfl
              · rw [if_neg h8, show (rule == 8) = false by simpa using h8, Bool.false_and]; rfl
            repeat (refine runs_seq ?_)
            refine runs_ops_kept ?_
            refine ops_rcut ((1, AV.v (.int .i64 rule)) :: (2, .ptr m.vars.length 0) :: (5, .lst gr2 3 (rowsFl acc2)) :: (8, .v (.int .i64 (i : Int))) :: (9, .ptr n5 0) :: [(100, .v (.bool ((rule == 8) && R.lastBad i)))]) m2 ?_ ?_
            · cases q8 : (rule == 8) with
              | true =>
                refine go1 (jn @q8 (jn @l0 (jn @t2 @hl8))) ?_
                exact ⟨rfl, rfl⟩
              | false =>
                refine go1 @q8 ?_
                exact ⟨rfl, rfl⟩
            repeat (first | refine next_normal ?_ | refine runs_seq ?_)
            refine runs_icut (fun e2 m2 => ∃ gr2 E, GrowsA m gr2 m2 ∧ m2.var m.vars.length = some R.row ∧ m2.var n5 = some p.row ∧ e2 = (1, AV.v (.int .i64 rule)) :: (2, .ptr m.vars.length 0) :: (5, .lst gr2 3 (rowsFl (acc2 ++ fl8 R rule i))) :: (8, .v (.int .i64 (i : Int))) :: (9, .ptr n5 0) :: E) ?_ ?_
            · refine runs_cond rfl (fun hc => ?_) (fun hc => ?_)
              · rw [hR22 true hc.symm]
                obtain ⟨g3, m3, a1, hG3, hV3⟩ := app_fl (g2 := .full) hG2 acc2 rule i 0 (by omega)
                refine go1 @a1 ?_
                exact ⟨rfl, _, _, hG3, by rw [hV3]; exact hw2, by rw [hV3]; exact hp2, rfl⟩
              · rw [hR22 false hc.symm, if_neg (by decide), List.append_nil]
                refine go0 ?_
                exact ⟨rfl, _, _, hG2, hw2, hp2, rfl⟩
            rintro e3 m3 ⟨gr3, E3, hG3, hw3, hp3, rfl⟩
            refine next_normal ?_
            -- the frozen ones
            generalize hacc3 : acc2 ++ fl8 R rule i = acc3 at hG3
            have hlen3 : acc3.length ≤ acc2.length + 1 := by rw [← hacc3, List.length_append]; omega
            refine go0 ?_
            refine runs_xcut (.exit 6) (fun e2 m2 => ∃ gr2 E, GrowsA m gr2 m2 ∧ m2.var m.vars.length = some R.row ∧ m2.var n5 = some p.row ∧ e2 = (1, AV.v (.int .i64 rule)) :: (2, .ptr m.vars.length 0) :: (5, .lst gr2 3 (rowsFl (acc3 ++ fl10 R rule i))) :: (8, .v (.int .i64 (i : Int))) :: (9, .ptr n5 0) :: E) ?_ ?_
            · by_cases h10 : rule = 10
              · subst h10
                have b10 : ((10 : Int) == 10) = true := rfl
                rw [e10, if_pos rfl]
                refine go0 ?_
                refine runs_loop (fun k e m' => ∃ (j : Nat) (gr : Grow), j ≤ p.frozen.length ∧ GrowsA m gr m' ∧ m'.var m.vars.length = some R.row ∧ m'.var n5 = some p.row ∧ k = p.frozen.length - j ∧
                  e = [(1, AV.v (.int .i64 10)), (2, .ptr m.vars.length 0), (5, .lst gr 3 (rowsFl (acc3 ++ upto j fun k => flawIf (R.frozenBad p k) 10 i k))), (8, .v (.int .i64 (i : Int))), (9, .ptr n5 0), (11, .v (.int .i64 (j : Int)))]) (k := p.frozen.length) ⟨0, _, Nat.zero_le _, hG3, hw3, hp3, rfl, by rw [upto_zero, List.append_nil]; rfl⟩ ?_
                rintro k e m' ⟨j, gr, hj0, hG, hw, hpv, rfl, rfl⟩
                have y1 := lpPhFrozen hpv
                have y2 := lpRcGroups hw
                by_cases hj1 : j < p.frozen.length
                · have bj : decide ((j : Int) < (p.frozen.length : Int)) = true := decide_eq_true (by omega)
                  refine go1 (jn @y1 (jn @bj @b10)) ?_
                  refine runs_cond rfl (fun hc => ?_) (fun hc => by cases hc)
                  have hpf := hp.1
                  have c1 := fun mm => firstG_at (m := mm) (g := .no) (l := p.frozen) (i := j) (by omega) hj1
                  have d1 := place_self hj1
                  have hN5 := @upto_next j (fun k => flawIf (R.frozenBad p k) 10 i k)
                  have hB5 := @upto_len (fun k => flawIf (R.frozenBad p k) 10 i k) 1 j fun k _ => flawIf_len ..
                  have hbad : R.frozenBad p j = (!among R.groups (p.frozen.getD j ⟨#[]⟩) || decide (placeOf p.frozen (p.frozen.getD j ⟨#[]⟩) < (j : Int))) := rfl
                  have f4 := atStrs (g := .no) (kk := .i64) hj1
                  have hg64 := hsm.2.1
                  have c2 := fun mm => placeG_eq (m := mm) (g := .no) (s := p.frozen.getD j ⟨#[]⟩) (show R.groups.length ≤ 9223372036854775807 by omega)
                  have d2 := place_neg R.groups (p.frozen.getD j ⟨#[]⟩)
                  have r6 := next_i64 (i := j) (by omega)
                  generalize (placeOf p.frozen (p.frozen.getD j ⟨#[]⟩) == (j : Int)) = qb at c1 d1
                  generalize decide (placeOf p.frozen (p.frozen.getD j ⟨#[]⟩) < (j : Int)) = qc at d1 hbad
                  generalize p.frozen.getD j ⟨#[]⟩ = s at f4 c2 d2 hbad
                  generalize placeOf R.groups s = q2 at c2 d2
                  generalize (upto j fun k => flawIf (R.frozenBad p k) 10 i k) = fl5 at hG hN5 hB5
                  generalize R.frozenBad p j = bad at hN5 hbad
                  refine go0 ?_
                  refine runs_ops_drawn_kept (by kernel_rfl) ?_
                  refine ops_rcut ((1, AV.v (.int .i64 10)) :: (2, .ptr m.vars.length 0) :: (5, .lst gr 3 (rowsFl (acc3 ++ fl5))) :: (8, .v (.int .i64 (i : Int))) :: (9, .ptr n5 0) :: (11, .v (.int .i64 (j : Int))) :: [(133, .v (.bool bad))]) m' ?_ ?_
                  · subst hbad
                    cases qc with
                    | true =>
                      refine go1 (jn @y1 (jn @t1 (jn @c1 @d1))) ?_
                      exact ⟨by rw [Bool.or_true], rfl⟩
                    | false =>
                      rw [Bool.or_false]
                      refine go1 (jn @y1 (jn @t1 (jn @c1 (jn @d1 (jn @y2 (jn @f4 (jn @t3 (jn @c2 @d2)))))))) ?_
                      exact ⟨rfl, rfl⟩
                  repeat (first | refine next_normal ?_ | refine runs_seq ?_)
                  refine runs_icut (fun e2 m2 => ∃ gr2 E, GrowsA m gr2 m2 ∧ m2.var m.vars.length = some R.row ∧ m2.var n5 = some p.row ∧ e2 = (1, AV.v (.int .i64 10)) :: (2, .ptr m.vars.length 0) :: (5, .lst gr2 3 (rowsFl (acc3 ++ (fl5 ++ flawIf bad 10 i j)))) :: (8, .v (.int .i64 (i : Int))) :: (9, .ptr n5 0) :: (11, .v (.int .i64 (j : Int))) :: E) ?_ ?_
                  · refine runs_cond rfl (fun hc => ?_) (fun hc => ?_)
                    · rw [hc, show flawIf true 10 i j = [⟨10, i, j⟩] from rfl, ← List.append_assoc]
                      obtain ⟨g4, m4, a1, hG4, hV4⟩ := app_fl (g2 := .full) hG (acc3 ++ fl5) 10 i j (by rw [List.length_append]; omega)
                      refine go1 @a1 ?_
                      exact ⟨rfl, _, _, hG4, by rw [hV4]; exact hw, by rw [hV4]; exact hpv, rfl⟩
                    · rw [hc, show flawIf false 10 i j = [] from rfl, List.append_nil]
                      refine go0 ?_
                      exact ⟨rfl, _, _, hG, hw, hpv, rfl⟩
                  rintro e6 m6 ⟨gr6, E6, hG6, hw6, hp6, rfl⟩
                  refine go1 @r6 ?_
                  exact ⟨p.frozen.length - (j + 1), by omega, j + 1, _, hj1, hG6, hw6, hp6, rfl, by rw [hN5]⟩
                · have hj2 : j = p.frozen.length := by omega
                  subst hj2
                  have bj : decide ((p.frozen.length : Int) < (p.frozen.length : Int)) = false := decide_eq_false (by omega)
                  refine go1 (jn @y1 @bj) ?_
                  refine runs_cond rfl (fun hc => by cases hc) (fun hc => ?_)
                  refine go0 ?_
                  exact ⟨rfl, _, _, hG, hw, hpv, rfl⟩
              · have b10 : (rule == 10) = false := by simpa using h10
                rw [e10, if_neg h10, List.append_nil]
                have y1 := lpPhFrozen hp3
                refine go0 ?_
                refine runs_loop (fun k e m' => m3 = m' ∧ k = 0 ∧
                  e = [(1, AV.v (.int .i64 rule)), (2, .ptr m.vars.length 0), (5, .lst gr3 3 (rowsFl acc3)), (8, .v (.int .i64 (i : Int))), (9, .ptr n5 0), (11, .v (.int .i64 0))]) (k := 0) ⟨rfl, rfl, rfl⟩ ?_
                rintro k e m' ⟨rfl, rfl, rfl⟩
                cases bj : decide ((0 : Int) < (p.frozen.length : Int)) with
                | true =>
                  refine go1 (jn @y1 (jn @bj @b10)) ?_
                  refine runs_cond rfl (fun hc => by cases hc) (fun hc => ?_)
                  refine go0 ?_
                  exact ⟨rfl, _, _, hG3, hw3, hp3, rfl⟩
                | false =>
                  refine go1 (jn @y1 @bj) ?_
                  refine runs_cond rfl (fun hc => by cases hc) (fun hc => ?_)
                  refine go0 ?_
                  exact ⟨rfl, _, _, hG3, hw3, hp3, rfl⟩
            rintro e4 m4 ⟨gr4, E4, hG4, hw4, hp4, rfl⟩
            -- the sets
            generalize hacc4 : acc3 ++ fl10 R rule i = acc4 at hG4
            have hlen4 : acc4.length ≤ acc3.length + 64 := by rw [← hacc4, List.length_append]; omega
            have hround : upto (i + 1) (phFl R rule) = acc4 ++ fl11 R rule i := by
              rw [hN, hphi, ← hacc4, ← hacc3, ← hacc2]
              simp only [List.append_assoc]
            have r6 := next_i64 (i := i) (by omega)
            refine go0 ?_
            by_cases h11 : 11 ≤ rule ∧ rule ≤ 13
            · rw [e11, if_pos h11] at hround
              have b11 : decide (rule ≥ 11) = true := decide_eq_true h11.1
              have b13 : decide (rule ≤ 13) = true := decide_eq_true h11.2
              have h123 : rule = 11 ∨ rule = 12 ∨ rule = 13 := by omega
              refine runs_loop (fun k e m' => ∃ (j : Nat) (gr : Grow), j ≤ p.sets.length ∧ GrowsA m gr m' ∧ m'.var m.vars.length = some R.row ∧ m'.var n5 = some p.row ∧ k = p.sets.length - j ∧
                e = [(1, AV.v (.int .i64 rule)), (2, .ptr m.vars.length 0), (5, .lst gr 3 (rowsFl (acc4 ++ upto j fun k => flawIf (!R.setOk rule i k) rule i k))), (8, .v (.int .i64 (i : Int))), (9, .ptr n5 0), (12, .v (.int .i64 (j : Int)))]) (k := p.sets.length) ⟨0, _, Nat.zero_le _, hG4, hw4, hp4, rfl, by rw [upto_zero, List.append_nil]; rfl⟩ ?_
              rintro k e m' ⟨j, gr, hj0, hG, hw, hpv, rfl, rfl⟩
              have y1 := lpPhSets hpv
              have y2 := vrRc hw
              by_cases hj1 : j < p.sets.length
              · have bj : decide ((j : Int) < (p.sets.length : Int)) = true := decide_eq_true (by omega)
                have c1 := fun mm => hset j mm h123 hj1
                have hN5 := @upto_next j (fun k => flawIf (!R.setOk rule i k) rule i k)
                have hB5 := @upto_len (fun k => flawIf (!R.setOk rule i k) rule i k) 1 j fun k _ => flawIf_len ..
                have hps := hp.2.1
                have r7 := next_i64 (i := j) (by omega)
                generalize (upto j fun k => flawIf (!R.setOk rule i k) rule i k) = fl5 at hG hN5 hB5
                generalize R.setOk rule i j = ok at hN5 c1
                refine go1 (jn @y1 (jn @bj (jn @b11 @b13))) ?_
                refine runs_cond rfl (fun hc => ?_) (fun hc => by cases hc)
                refine go1 (jn @y2 (jn @t4 @c1)) ?_
                refine runs_cond rfl (fun hc => ?_) (fun hc => ?_)
                · rw [show flawIf (!ok) rule i j = [⟨rule, i, j⟩] from if_pos hc] at hN5
                  obtain ⟨g4, m4, a1, hG4, hV4⟩ := app_fl (g2 := .full) hG (acc4 ++ fl5) rule i j (by rw [List.length_append]; omega)
                  refine go1 (jn @a1 @r7) ?_
                  exact ⟨p.sets.length - (j + 1), by omega, j + 1, _, hj1, hG4, by rw [hV4]; exact hw, by rw [hV4]; exact hpv, rfl, by rw [hN5, List.append_assoc]⟩
                · rw [show flawIf (!ok) rule i j = [] from if_neg (by rw [hc]; decide), List.append_nil] at hN5
                  refine go1 @r7 ?_
                  exact ⟨p.sets.length - (j + 1), by omega, j + 1, _, hj1, hG, hw, hpv, rfl, by rw [hN5]⟩
              · have hj2 : j = p.sets.length := by omega
                subst hj2
                have bj : decide ((p.sets.length : Int) < (p.sets.length : Int)) = false := decide_eq_false (by omega)
                refine go1 (jn @y1 @bj) ?_
                refine runs_cond rfl (fun hc => by cases hc) (fun hc => ?_)
                refine go1 @r6 ?_
                exact ⟨R.phases.length - (i + 1), by omega, i + 1, _, hi1, hG, hw, rfl, by rw [hround]⟩
            · rw [e11, if_neg h11, List.append_nil] at hround
              have y1 := lpPhSets hp4
              have h13 : ¬ (rule ≥ 11) ∨ ¬ (rule ≤ 13) := by omega
              refine runs_loop (fun k e m' => m4 = m' ∧ k = 0 ∧
                e = [(1, AV.v (.int .i64 rule)), (2, .ptr m.vars.length 0), (5, .lst gr4 3 (rowsFl acc4)), (8, .v (.int .i64 (i : Int))), (9, .ptr n5 0), (12, .v (.int .i64 0))]) (k := 0) ⟨rfl, rfl, rfl⟩ ?_
              rintro k e m' ⟨rfl, rfl, rfl⟩
              cases bj : decide ((0 : Int) < (p.sets.length : Int)) with
              | true =>
                cases b11 : decide (rule ≥ 11) with
                | true =>
                  have b13 : decide (rule ≤ 13) = false := decide_eq_false (by have := of_decide_eq_true b11; omega)
                  refine go1 (jn @y1 (jn @bj (jn @b11 @b13))) ?_
                  refine runs_cond rfl (fun hc => by cases hc) (fun hc => ?_)
                  refine go1 @r6 ?_
                  exact ⟨R.phases.length - (i + 1), by omega, i + 1, _, hi1, hG4, hw4, rfl, by rw [hround]⟩
                | false =>
                  refine go1 (jn @y1 (jn @bj @b11)) ?_
                  refine runs_cond rfl (fun hc => by cases hc) (fun hc => ?_)
                  refine go1 @r6 ?_
                  exact ⟨R.phases.length - (i + 1), by omega, i + 1, _, hi1, hG4, hw4, rfl, by rw [hround]⟩
              | false =>
                refine go1 (jn @y1 @bj) ?_
                refine runs_cond rfl (fun hc => by cases hc) (fun hc => ?_)
                refine go1 @r6 ?_
                exact ⟨R.phases.length - (i + 1), by omega, i + 1, _, hi1, hG4, hw4, rfl, by rw [hround]⟩
          · have hi1 : i = R.phases.length := by have := of_decide_eq_false hc; omega
            subst hi1
            have l0 := vrRc hw
            have c5 := fun mm => wholeRG_at (m := mm) hmay hfit hrule hb
            have hB := @upto_len (phFl R rule) 130 R.phases.length fun k _ => phFl_len hsm rule k
            generalize upto R.phases.length (phFl R rule) = acc at hG hB
            generalize R.wholeBad rule = wb at c5
            refine go1 (jn @l0 (jn @t5 @c5)) ?_
            refine runs_cond rfl (fun hc => ?_) (fun hc => ?_)
            · obtain ⟨g2, m2, a1, hG2, hV2⟩ := app_fl (g2 := .full) hG acc rule 0 0 (by omega)
              rw [show flawIf wb rule 0 0 = [⟨rule, 0, 0⟩] from if_pos hc]
              refine go1 @a1 ?_
              exact leaves_lst rfl rfl (growsA_fin hG2)
            · rw [show flawIf wb rule 0 0 = [] from if_neg (by rw [hc]; decide), List.append_nil]
              refine go0 ?_
              exact leaves_lst rfl rfl (growsA_fin hG)
      · cases h
    · cases h
  · cases h
def keptRG (b : Bool) : List AV → Mem → Option (AV × Mem)
  | [.agg cs, .v (.int .i64 rule)], m =>
    match unRc cs with
    | some R => if R.may = true ∧ R.fit ∧ isRule rule ∧ (b = true ∨ rule ≠ 9) then some (.v (.bool (R.kept rule)), m) else none
    | none => none
  | _, _ => none
theorem keptRG_at {R : Rc} {m : Mem} {b : Bool} {rule : Int} (h : R.may = true) (h1 : R.fit) (h2 : isRule rule) (h3 : b = true ∨ rule ≠ 9) : keptRG b [.agg R.row, .v (.int .i64 rule)] m = some (.v (.bool (R.kept rule)), m) := by
  simp only [keptRG, unRc_row]
  rw [if_pos ⟨h, h1, h2, h3⟩]
def kpKept20 : Nat → Option (List Nat) := fun
  | 0 => some [1, 2]
  | 1 => some [4]
  | _ => none
attribute [go_sem] kpKept20
def tab_kept20 (b : Bool) : List (FuncId × (List AV → Mem → Option (AV × Mem))) := [(46, brokenRG b)]
theorem kept20_ok (b : Bool) (hB : FunOk Tryz.prog 46 (brokenRG b)) : FunOk Tryz.prog 39 (keptRG b) := by
  have hC := table_ok (P := Tryz.prog) (l := tab_kept20 b) (table_more hB table_nil)
  have t1 := fun args mm => table_at (l := tab_kept20 b) (f := 46) (args := args) (m := mm) rfl
  refine fun_ok mixed hC Tryz.func39 rfl kpKept20 false rfl fun args m r h => ?_
  unfold keptRG at h
  split at h
  · rename_i cs rule
    split at h
    · rename_i R hR
      obtain rfl := unRc_some hR
      split at h
      · rename_i hyp
        obtain ⟨hmay, hfit, hrule, hb⟩ := hyp
        simp only [Option.some.injEq] at h
        subst h
        refine ⟨Nat.le_of_ble_eq_true rfl, ?_⟩
        simp only [entry, List.length_cons, List.length_nil, List.range, List.range.loop, List.zip_cons_cons, List.zip_nil_right]
        have hA := above_push (cs := R.row) (above_self m)
        have hv : (m.push R.row).var m.vars.length = some R.row := push_var
        have nr := newRc (m := m) (x := R)
        generalize m.push R.row = m1 at hA hv nr
        have l0 := vrRc hv
        have c1 := fun mm => brokenRG_at (m := mm) hmay hfit hrule hb
        unfold Rc.kept
        refine go1 (jn @nr (jn @l0 (jn @t1 @c1))) ?_
        exact leaves_fin rfl rfl (above_fin hA)
      · cases h
    · cases h
  · cases h
/-- The rules in their order: the ninth asks for three others. -/
theorem noneG_ok {P : Program} {f : FuncId} : FunOk P f fun _ _ => none := fun args m r m' h => by cases h
theorem whole20_0 : FunOk Tryz.prog 102 (wholeRG false) := whole20_ok false _ noneG_ok fun h => by cases h
theorem broken20_0 : FunOk Tryz.prog 46 (brokenRG false) := broken20_ok false whole20_0
theorem kept20_0 : FunOk Tryz.prog 39 (keptRG false) := kept20_ok false broken20_0
theorem whole20_1 : FunOk Tryz.prog 102 (wholeRG true) := whole20_ok true _ kept20_0 fun _ R mm rule h1 h2 h3 => keptRG_at h1 h2 (by unfold isRule; omega) (.inr (by omega))
theorem broken20_1 : FunOk Tryz.prog 46 (brokenRG true) := broken20_ok true whole20_1
theorem kept20_1 : FunOk Tryz.prog 39 (keptRG true) := kept20_ok true broken20_1
end Go.Proofs.YtojaokhkbmiidaaGreat.Ev
