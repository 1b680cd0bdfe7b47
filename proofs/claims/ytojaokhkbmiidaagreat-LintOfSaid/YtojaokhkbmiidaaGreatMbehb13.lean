/- The document's words on recipes: May. -/
import Derived.Test.YtojaokhkbmiidaaGreatMbehb12
import Derived.Test.YtojaokhkbmiidaaGreatMbehb1
import Derived.Test.YtojaokhkbmiidaaGreatMbehb2
import Derived.Test.YtojaokhkbmiidaaGreatMbehb8
import Derived.Test.YtojaokhkbmiidaaGreatMbehb11
namespace Go.Proofs.YtojaokhkbmiidaaGreat.Ev
open Go Go.Proofs
set_option maxRecDepth 10000
set_option maxHeartbeats 8000000
set_option linter.unusedVariables false
set_option linter.unusedSimpArgs false
section
attribute [local irreducible] Next Inside Runs Ops table
attribute [local go_sem] szStr szInt Option.getD_some isNil evStr iv loadStr loadInt rowsS_len rowsGs_len rowsPh_len rowsN_len mapRc mapPh mapGs cellsRc newRc cellsPh cellsGs ldPh ldGs zrPh zoPh znPh zsPh zrGs zoGs znGs zsGs mkInts4 fpRcName fpRcSteps fpRcEpoch fpRcWeights fpRcEval fpRcMetrics fpRcGroups fpRcPhases fpPhName fpPhLen fpPhFrozen fpPhSets fpGsGroup fpGsParam fpGsNodes
def Rc.lite (R : Rc) : Prop := R.fit ∧ R.metrics.length ≤ 1000 ∧ R.groups.length ≤ 1000 ∧ R.phases.length ≤ 1000 ∧ ∀ p ∈ R.phases, p.frozen.length ≤ 1000 ∧ p.sets.length ≤ 1000
instance (R : Rc) : Decidable R.lite := by unfold Rc.lite; exact inferInstance
def mayBG : List AV → Mem → Option (AV × Mem)
 | [.agg cs], m =>
  match unRc cs with
  | some R => if R.lite then some (.v (.bool R.may), m) else none
  | none => none
 | _, _ => none
theorem mayBG_at {R : Rc} {m : Mem} (h : R.lite) : mayBG [.agg R.row] m = some (.v (.bool R.may), m) := by
 simp only [mayBG, unRc_row]
 rw [if_pos h]
def phHead (p : Ph) : Bool := !isName p.name || (!decide (lenMay p.lenU p.lenN) || (!namedB p.frozen 8 || decide ((p.sets.length : Int) > 24)))
theorem phNot_head (p : Ph) : phNot p = (phHead p || p.sets.any setNot) := by
 unfold phNot phMay phHead
 rw [show decide ((p.sets.length : Int) > 24) = !decide ((p.sets.length : Int) ≤ 24) from by rw [Bool.eq_iff_iff]; simp]
 cases isName p.name <;> cases decide (lenMay p.lenU p.lenN) <;> cases namedB p.frozen 8 <;> cases decide ((p.sets.length : Int) ≤ 24) <;> cases p.sets.any setNot <;> rfl
theorem setNot_ops (s : Gs) : setNot s = (!isName s.group || (decide (s.param < 0) || (decide (s.param > 2) || (checkT s.nodes != 0)))) := by
 unfold setNot setMay
 rw [show decide (s.param < 0) = !decide (0 ≤ s.param) from by rw [Bool.eq_iff_iff]; simp]
 rw [show decide (s.param > 2) = !decide (s.param < 3) from by rw [Bool.eq_iff_iff]; simp only [decide_eq_true_eq, Bool.not_eq_true', decide_eq_false_iff_not]; omega]
 rw [show (checkT s.nodes != 0) = !(checkT s.nodes == 0) from rfl]
 cases isName s.group <;> cases decide (0 ≤ s.param) <;> cases decide (s.param < 3) <;> cases (checkT s.nodes == 0) <;> rfl
theorem may_head {R : Rc} : R.may = (!(R.headBad || (R.listBad || decide ((R.phases.length : Int) > 16))) && (!(R.phases.any phNot) && R.endsMay)) := by
 unfold Rc.may Rc.phBad
 cases R.headBad <;> cases R.listBad <;> cases decide ((R.phases.length : Int) > 16) <;> cases R.phases.any phNot <;> cases R.endsMay <;> rfl
def kpMay18 : Nat → Option (List Nat) := fun
 | 0 => some [1]
 | 1 => some [1, 47]
 | 2 => some [2]
 | 3 => some [1, 3]
 | 4 => some [1, 3, 52]
 | 5 => some [1, 3]
 | 6 => some [1, 3, 4]
 | 7 => some [1, 3, 4, 81]
 | 8 => some [2]
 | 9 => some [1, 3, 4, 5]
 | 10 => some [1, 3, 4, 5, 86]
 | 11 => some [1, 3, 4, 5]
 | 12 => some [1, 3, 4, 5, 6]
 | 13 => some [1, 3, 4, 5, 113]
 | 14 => some [2]
 | 15 => some [2]
 | _ => none
attribute [go_sem] kpMay18
def tab_may18_ok : List (FuncId × (List AV → Mem → Option (AV × Mem))) := [(40, rcountsG), (41, rnamedG), (42, isNameG), (43, lenMayG), (44, checkTG), (45, rendsG)]
theorem may18_ok : FunOk Tryz.prog 14 mayBG := by
 have hC := table_ok (P := Tryz.prog) (l := tab_may18_ok) (table_more rcounts_ok (table_more rnamed_ok (table_more refIs_ok (table_more refLenMay_ok (table_more refCheckT_ok (table_more ends18_ok table_nil))))))
 have t1 := fun args mm => table_at (l := tab_may18_ok) (f := 40) (args := args) (m := mm) rfl
 have t2 := fun args mm => table_at (l := tab_may18_ok) (f := 41) (args := args) (m := mm) rfl
 have t3 := fun args mm => table_at (l := tab_may18_ok) (f := 42) (args := args) (m := mm) rfl
 have t4 := fun args mm => table_at (l := tab_may18_ok) (f := 43) (args := args) (m := mm) rfl
 have t5 := fun args mm => table_at (l := tab_may18_ok) (f := 44) (args := args) (m := mm) rfl
 have t6 := fun args mm => table_at (l := tab_may18_ok) (f := 45) (args := args) (m := mm) rfl
 refine fun_ok mixed hC Tryz.func14 rfl kpMay18 false rfl fun args m r h => ?_
 unfold mayBG at h
 split at h
 ·rename_i cs
  split at h
  ·rename_i R hR
   obtain rfl := unRc_some hR
   split at h
   ·rename_i hl
    simp only [Option.some.injEq] at h
    subst h
    refine ⟨Nat.le_of_ble_eq_true rfl, ?_⟩
    refine en ?_
    obtain ⟨hfit, hM, hG, hP, hph⟩ := hl
    have hA := above_push (cs := R.row) (above_self m)
    have hv : (m.push R.row).var m.vars.length = some R.row := push_var
    have nr := newRc (m := m) (x := R)
    generalize m.push R.row = m1 at hA hv nr
    have fin : ∀ (e : Env) (m' : Mem) (b : Bool), Above m m' → Ev.get e 2 = .v (.bool b) → R.may = b → Leaves Tryz.prog false Tryz.f14 m (.v (.bool R.may), m) .ret e m' := fun e m' b hA' h1 h2 => by rw [h2]; exact leaves_fin rfl h1 (above_fin hA')
    have lc : ∀ u n mm, lenMayG [.agg [.v (.int .i64 u), .v (.int .i64 n)]] mm = some (.v (.bool (decide (lenMay u n))), mm) := fun _ _ _ => rfl
    have n1 := fun mm => rnamedG_at (m := mm) (g := .no) (l := R.metrics) (n := 4) ⟨hM, hfit.2.1.2⟩
    have n2 := fun mm => rnamedG_at (m := mm) (g := .no) (l := R.groups) (n := 8) ⟨hG, hfit.2.2.1.2⟩
    have a1 := lpRcName hv
    have a2 := lpRcSteps hv
    have a3 := lpRcEpoch hv
    have a4 := lpRcWeights hv
    have a5 := lpRcEval hv
    have a6 := lpRcMetrics hv
    have a7 := lpRcGroups hv
    have a8 := lpRcPhases hv
    have d0 : decide ((R.groups.length : Int) < 1) = decide (R.groups.length = 0) := by rw [Bool.eq_iff_iff]; simp only [decide_eq_true_eq]; omega
    refine go1 @nr ?_
    refine ops_rcut [(1, .ptr m.vars.length 0), (47, .v (.bool (R.headBad || (R.listBad || decide ((R.phases.length : Int) > 16)))))] m1 ?_ ?_
    ·unfold Rc.headBad Rc.listBad
     generalize namedB R.metrics 4 = q1 at n1
     generalize namedB R.groups 8 = q2 at n2
     have c4 := counts4 R.steps R.epoch R.weights R.eval
     rw [show (!countB R.steps || (!countB R.epoch || (!countB R.weights || !countB R.eval))) = !(countB R.steps && (countB R.epoch && (countB R.weights && countB R.eval))) from by cases countB R.steps <;> cases countB R.epoch <;> cases countB R.weights <;> cases countB R.eval <;> rfl]
     generalize (countB R.steps && (countB R.epoch && (countB R.weights && countB R.eval))) = q3 at c4
     generalize decide (R.groups.length = 0) = q4 at d0
     repeat' (first | refine gos1 (jn @a1 (jn @a2 (jn @a3 (jn @a4 (jn @a5 (jn @a6 (jn @a7 (jn @a8 (jn @t1 (jn @t2 (jn @c4 (jn @n1 (jn @n2 @d0))))))))))))) ?_ | (refine ops_here ?_; (fail_if_success (refine ops_case (B := true) rfl rfl rfl ?_ ?_)); (fail_if_success (refine ops_case (B := false) rfl rfl rfl ?_ ?_)); refine ops_case rfl rfl rfl (fun hB => ?_) (fun hB => ?_) <;> rw [hB]) | (refine runs_here ?_; refine runs_cond rfl (fun hc => ?_) (fun hc => ?_) <;> first | (cases hc; done) | skip))
     all_goals refine ⟨?_, rfl⟩
     all_goals simp_all
    repeat (first | refine next_normal ?_ | refine runs_seq ?_)
    refine runs_cond rfl (fun hc => ?_) (fun hc => ?_)
    ·have e1 : R.may = false := by rw [may_head, hc]; rfl
     refine go0 ?_
     exact fin _ _ _ hA rfl e1
    have z0 := hc
    refine go0 ?_
    refine runs_loop (fun k e m' => ∃ (i : Nat), i ≤ R.phases.length ∧ firstBy phNot (R.phases.drop i) i = firstBy phNot R.phases 0 ∧ Above m m' ∧ m'.var m.vars.length = some R.row ∧ k = R.phases.length - i ∧
     e = [(1, AV.ptr m.vars.length 0), (3, .v (.int .i64 (i : Int)))]) (k := R.phases.length) ⟨0, Nat.zero_le _, rfl, hA, hv, rfl, rfl⟩ ?_
    rintro k e m2 ⟨i, hi0, hf, hA2, hv2, rfl, rfl⟩
    have l1 := lpRcPhases hv2
    refine go1 @l1 ?_
    refine runs_cond rfl (fun hc => ?_) (fun hc => ?_)
    ·have hi1 : i < R.phases.length := by have := of_decide_eq_true hc; omega
     have f1 := atPh (g := .no) (kk := .i64) hi1
     have hp1 := hph _ (phase_mem hi1)
     have hp2 := hfit.2.2.2.1.2 _ (phase_mem hi1)
     have hyes := fun hp => firstBy_yes (d := ph0) (p := phNot) hi1 hp
     have hno := fun hp => by_no (d := ph0) hi1 hp hf
     have r6 := next_i64 (i := i) (by omega)
     generalize R.phases.getD i ph0 = p at f1 hp1 hp2 hyes hno
     have z1 := zsPh (m := m2) (x := p)
     have hA3 := above_push (cs := p.row) hA2
     have hv3 := push_old (cs' := p.row) hv2
     have hp3 : (m2.push p.row).var m2.vars.length = some p.row := push_var
     generalize m2.push p.row = m3 at z1 hA3 hv3 hp3
     have bad : ∀ e m', Above m m' → Ev.get e 2 = .v (.bool false) → phNot p = true → Leaves Tryz.prog false Tryz.f14 m (.v (.bool R.may), m) .ret e m' := fun e m' hA' hg hb => fin e m' false hA' hg (by rw [may_head, hyes hb]; simp)
     refine go1 (jn @l1 (jn @f1 @z1)) ?_
     generalize m2.vars.length = n4 at hp3 ⊢
     have y1 := lpPhName hp3
     have y2 := lpPhLen hp3
     have y3 := lpPhFrozen hp3
     have y4 := lpPhSets hp3
     have j1 := fun mm => isNameG_eq (s := p.name) (m := mm) hp2.1
     have n3 := fun mm => rnamedG_at (m := mm) (g := .no) (l := p.frozen) (n := 8) ⟨hp1.1, hp2.2.2.1⟩
     refine ops_rcut [(1, .ptr m.vars.length 0), (3, .v (.int .i64 (i : Int))), (4, .ptr n4 0), (81, .v (.bool (phHead p)))] m3 ?_ ?_
     ·unfold phHead
      generalize namedB p.frozen 8 = q1 at n3
      generalize isName p.name = q2 at j1
      repeat' (first | refine gos1 (jn @y1 (jn @y2 (jn @y3 (jn @y4 (jn @t2 (jn @t3 (jn @t4 (jn @j1 (jn @n3 @lc))))))))) ?_ | (refine ops_here ?_; (fail_if_success (refine ops_case (B := true) rfl rfl rfl ?_ ?_)); (fail_if_success (refine ops_case (B := false) rfl rfl rfl ?_ ?_)); refine ops_case rfl rfl rfl (fun hB => ?_) (fun hB => ?_) <;> rw [hB]) | (refine runs_here ?_; refine runs_cond rfl (fun hc => ?_) (fun hc => ?_) <;> first | (cases hc; done) | skip))
      all_goals refine ⟨?_, rfl⟩
      all_goals simp_all
     repeat (first | refine next_normal ?_ | refine runs_seq ?_)
     refine runs_cond rfl (fun hc => ?_) (fun hc => ?_)
     ·refine go0 ?_
      exact bad _ _ hA3 rfl (by rw [phNot_head, hc]; rfl)
     have zh := hc
     refine go0 ?_
     refine runs_loop (fun k e m' => ∃ (j : Nat), j ≤ p.sets.length ∧ firstBy setNot (p.sets.drop j) j = firstBy setNot p.sets 0 ∧ Above m m' ∧ m'.var m.vars.length = some R.row ∧ m'.var n4 = some p.row ∧ k = p.sets.length - j ∧
      e = [(1, AV.ptr m.vars.length 0), (3, .v (.int .i64 (i : Int))), (4, .ptr n4 0), (5, .v (.int .i64 (j : Int)))]) (k := p.sets.length) ⟨0, Nat.zero_le _, rfl, hA3, hv3, hp3, rfl, rfl⟩ ?_
     rintro k e m4 ⟨j, hj0, hg, hA4, hv4, hp4, rfl, rfl⟩
     have l2 := lpPhSets hp4
     refine go1 @l2 ?_
     refine runs_cond rfl (fun hc => ?_) (fun hc => ?_)
     ·have hj1 : j < p.sets.length := by have := of_decide_eq_true hc; omega
      have f2 := atGs (g := .no) (kk := .i64) hj1
      have hs2 := hp2.2.2.2.2 _ (set_mem hj1)
      have syes := fun hp => firstBy_yes (d := gs0) (p := setNot) hj1 hp
      have sno := fun hp => by_no (d := gs0) hj1 hp hg
      have r7 := next_i64 (i := j) (by have := hp1.2; omega)
      generalize p.sets.getD j gs0 = s at f2 hs2 syes sno
      have z2 := zsGs (m := m4) (x := s)
      have hA5 := above_push (cs := s.row) hA4
      have hv5 := push_old (cs' := s.row) hv4
      have hp5 := push_old (cs' := s.row) hp4
      have hs5 : (m4.push s.row).var m4.vars.length = some s.row := push_var
      generalize m4.push s.row = m5 at z2 hA5 hv5 hp5 hs5
      refine go1 (jn @l2 (jn @f2 @z2)) ?_
      generalize m4.vars.length = n6 at hs5 ⊢
      have x1 := lpGsGroup hs5
      have x2 := lpGsParam hs5
      have x3 := lpGsNodes hs5
      have j2 := fun mm => isNameG_eq (s := s.group) (m := mm) hs2.1
      have c5 := fun mm => checkTG_eq (m := mm) (g := .no) hs2.2
      have hops := setNot_ops s
      refine ops_rcut [(1, .ptr m.vars.length 0), (3, .v (.int .i64 (i : Int))), (4, .ptr n4 0), (5, .v (.int .i64 (j : Int))), (113, .v (.bool (setNot s)))] m5 ?_ ?_
      ·rw [hops]
       generalize isName s.group = q1 at j2
       generalize checkT s.nodes = q2 at c5
       repeat' (first | refine gos1 (jn @x1 (jn @x2 (jn @x3 (jn @t3 (jn @t5 (jn @j2 @c5)))))) ?_ | (refine ops_here ?_; (fail_if_success (refine ops_case (B := true) rfl rfl rfl ?_ ?_)); (fail_if_success (refine ops_case (B := false) rfl rfl rfl ?_ ?_)); refine ops_case rfl rfl rfl (fun hB => ?_) (fun hB => ?_) <;> rw [hB]) | (refine runs_here ?_; refine runs_cond rfl (fun hc => ?_) (fun hc => ?_) <;> first | (cases hc; done) | skip))
       all_goals refine ⟨?_, rfl⟩
       all_goals simp_all
      repeat (first | refine next_normal ?_ | refine runs_seq ?_)
      refine runs_cond rfl (fun hc => ?_) (fun hc => ?_)
      ·refine go0 ?_
       exact bad _ _ hA5 rfl (by rw [phNot_head, syes hc, Bool.or_true])
      ·refine go1 @r7 ?_
       exact ⟨p.sets.length - (j + 1), by omega, j + 1, hj1, sno hc, hA5, hv5, hp5, rfl, rfl⟩
     ·have hj1 : j = p.sets.length := by have := of_decide_eq_false hc; omega
      subst hj1
      have hn := hno (by rw [phNot_head, zh, firstBy_no hg]; rfl)
      refine go1 @r6 ?_
      exact ⟨R.phases.length - (i + 1), by omega, i + 1, hi1, hn, hA4, hv4, rfl, rfl⟩
    ·have hi1 : i = R.phases.length := by have := of_decide_eq_false hc; omega
     subst hi1
     have e1 : R.may = R.endsMay := by rw [may_head, z0, firstBy_no hf]; rfl
     have l0 := vrRc hv2
     have c6 := fun mm => rendsG_at (m := mm) hfit
     refine go1 (jn @l0 (jn @t6 @c6)) ?_
     exact fin _ _ _ hA2 rfl e1
   ·cases h
  ·cases h
 ·cases h
end
section
attribute [local irreducible] Next Inside Runs Ops table
attribute [local go_sem] szStr szInt Option.getD_some isNil evStr iv mapRc cellsRc newRc rowsFl_len mkFl0
def kpOf21 : Nat → Option (List Nat) := fun
 | 0 => some [1]
 | 1 => some [1, 3]
 | 2 => some [1, 3, 4]
 | 3 => some [1, 3, 4, 7]
 | 4 => some [1, 3, 4]
 | 5 => some [1, 3, 4]
 | 6 => some [2]
 | _ => none
attribute [go_sem] kpOf21
/-! ### Sound -/
def allKept (R : Rc) : Nat → Bool
 | 0 => true
 | n + 1 => R.kept ((n + 1 : Nat) : Int) && allKept R n
theorem allKept_no {R : Rc} {i : Nat} (h0 : 1 ≤ i) (h : R.kept (i : Int) = false) : ∀ {n : Nat}, i ≤ n → allKept R n = false
 | 0, hn => by omega
 | n + 1, hn => by
  by_cases e : i = n + 1
  ·subst e; rw [allKept, h]; rfl
  ·rw [allKept, allKept_no h0 h (by omega), Bool.and_false]
theorem allKept_flaws (R : Rc) : ∀ n : Nat, ((((flawsTo R n).length : Nat) : Int) == 0) = allKept R n
 | 0 => rfl
 | n + 1 => by
  have hN : flawsTo R (n + 1) = flawsTo R n ++ brkL R ((n + 1 : Nat) : Int) := upto_next
  have ih := allKept_flaws R n
  have hk : R.kept ((n + 1 : Nat) : Int) = ((((brkL R ((n + 1 : Nat) : Int)).length : Nat) : Int) == 0) := rfl
  rw [allKept, hk, ← ih, hN, List.length_append, Bool.eq_iff_iff]
  simp only [Bool.and_eq_true, beq_iff_eq]
  omega
theorem sound_kept (R : Rc) : R.sound = (R.may && allKept R 19) := by
 unfold Rc.sound Rc.flaws
 cases R.may with
 | false => rfl
 | true => rw [if_pos rfl, allKept_flaws]
def rsoundG : List AV → Mem → Option (AV × Mem)
 | [.agg cs], m =>
  match unRc cs with
  | some R => if R.lite then some (.v (.bool R.sound), m) else none
  | none => none
 | _, _ => none
theorem rsoundG_at {R : Rc} {m : Mem} (h : R.lite) : rsoundG [.agg R.row] m = some (.v (.bool R.sound), m) := by
 simp only [rsoundG, unRc_row]
 rw [if_pos h]
def kpSound21 : Nat → Option (List Nat) := fun
 | 0 => some [1]
 | 1 => some [1, 6]
 | 2 => some [2]
 | 3 => some [1, 3]
 | 4 => some [1, 3, 8]
 | 5 => some [1, 3]
 | 6 => some [1, 3, 14]
 | 7 => some [2]
 | 8 => some [2]
 | _ => none
attribute [go_sem] kpSound21
def tab_sound21_ok : List (FuncId × (List AV → Mem → Option (AV × Mem))) := [(14, mayBG), (39, (keptRG true))]
theorem sound21_ok : FunOk Tryz.prog 13 rsoundG := by
 have hC := table_ok (P := Tryz.prog) (l := tab_sound21_ok) (table_more may18_ok (table_more kept20_1 table_nil))
 have t1 := fun args mm => table_at (l := tab_sound21_ok) (f := 14) (args := args) (m := mm) rfl
 have t2 := fun args mm => table_at (l := tab_sound21_ok) (f := 39) (args := args) (m := mm) rfl
 refine fun_ok mixed hC Tryz.func13 rfl kpSound21 false rfl fun args m r h => ?_
 unfold rsoundG at h
 split at h
 ·rename_i cs
  split at h
  ·rename_i R hR
   obtain rfl := unRc_some hR
   split at h
   ·rename_i hlite
    simp only [Option.some.injEq] at h
    subst h
    refine ⟨Nat.le_of_ble_eq_true rfl, ?_⟩
    refine en ?_
    have hA := above_push (cs := R.row) (above_self m)
    have hv : (m.push R.row).var m.vars.length = some R.row := push_var
    have nr := newRc (m := m) (x := R)
    generalize m.push R.row = m1 at hA hv nr
    have l0 := vrRc hv
    have c1 := fun mm => mayBG_at (m := mm) hlite
    rw [sound_kept]
    cases hmay : R.may with
    | false =>
     rw [hmay] at c1
     refine go1 (jn @nr (jn @l0 (jn @t1 @c1))) ?_
     refine runs_cond rfl (fun hc => ?_) (fun hc => by cases hc)
     refine go0 ?_
     exact leaves_fin rfl rfl (above_fin hA)
    | true =>
     rw [hmay] at c1
     rw [Bool.true_and]
     refine go1 (jn @nr (jn @l0 (jn @t1 @c1))) ?_
     refine runs_cond rfl (fun hc => by cases hc) (fun hc => ?_)
     refine go0 ?_
     refine runs_loop (fun k e m' => ∃ (i : Nat), i ≤ 19 ∧ allKept R i = allKept R 19 ∧ m1 = m' ∧ k = 0 + i ∧
      e = [(1, AV.ptr m.vars.length 0), (3, .v (.int .i64 (i : Int)))]) (k := 19) ⟨19, Nat.le_refl _, rfl, rfl, rfl, rfl⟩ ?_
     rintro k e m' ⟨i, hi0, hf, rfl, rfl, rfl⟩
     refine go0 ?_
     refine runs_cond rfl (fun hc => ?_) (fun hc => ?_)
     ·have hi1 : 1 ≤ i := by have := of_decide_eq_true hc; omega
      obtain ⟨j, rfl⟩ : ∃ j, i = j + 1 := ⟨i - 1, by omega⟩
      have c2 := fun mm => keptRG_at (m := mm) (R := R) (b := true) (rule := ((j + 1 : Nat) : Int)) hmay hlite.1 (by unfold isRule; omega) (.inl rfl)
      have r6 : IntKind.i64.wrap (((j + 1 : Nat) : Int) - 1) = (j : Int) := by rw [i64_wrap (by omega) (by omega)]; omega
      have hk : allKept R (j + 1) = (R.kept ((j + 1 : Nat) : Int) && allKept R j) := rfl
      cases hq : R.kept ((j + 1 : Nat) : Int) with
      | false =>
       rw [hq] at c2
       rw [allKept_no hi1 hq hi0]
       refine go1 (jn @l0 (jn @t2 @c2)) ?_
       refine runs_cond rfl (fun hc => ?_) (fun hc => by cases hc)
       refine go0 ?_
       exact leaves_fin rfl rfl (above_fin hA)
      | true =>
       rw [hq] at c2 hk
       rw [Bool.true_and] at hk
       refine go1 (jn @l0 (jn @t2 @c2)) ?_
       refine runs_cond rfl (fun hc => by cases hc) (fun hc => ?_)
       refine go1 @r6 ?_
       exact ⟨0 + j, by omega, j, by omega, by rw [← hk, hf], rfl, rfl, rfl⟩
     ·have hi1 : i = 0 := by have := of_decide_eq_false hc; omega
      subst hi1
      rw [← hf]
      refine go0 ?_
      exact leaves_fin rfl rfl (above_fin hA)
   ·cases h
  ·cases h
 ·cases h
end
section
attribute [local irreducible] Next Inside Runs Ops table
attribute [local go_sem] szStr szInt Option.getD_some isNil evStr iv loadInt rowsSp_len fpSpFrom_ fpSpTo_ feSpFrom_ feSpTo_ leSpFrom_ leSpTo_ ldSp newSp cellsSp mapSp List.cons_append
def kpSpanHas : Nat → Option (List Nat) := fun
 | 0 => some [1, 2]
 | 1 => some [3]
 | _ => none
attribute [go_sem] kpSpanHas
def kpSpanFind : Nat → Option (List Nat) := fun
 | 0 => some [0, 1]
 | 1 => some [0, 1, 7, 8]
 | 2 => some [0, 1, 7, 8, 9]
 | 3 => some [0, 1, 5, 7, 8]
 | 4 => some [0, 1, 5, 7, 8, 16]
 | 5 => some [4]
 | 6 => some [0, 1, 7, 8]
 | 7 => some [4]
 | _ => none
attribute [go_sem] kpSpanFind
def kpSpanAt : Nat → Option (List Nat) := fun
 | 0 => some [0, 3]
 | 1 => some [4]
 | _ => none
attribute [go_sem] kpSpanAt
theorem newInt1 {m : Mem} {n : Int} : newVar m m.vars.length [.v (.int .i64 n)] = some (m.push [.v (.int .i64 n)]) := newVar_push rfl
theorem cellsInt1 {n : Int} : cellsOf (.v (.int .i64 n)) = some [.v (.int .i64 n)] := rfl
attribute [local go_sem] newInt1 cellsInt1
end
section
attribute [local irreducible] Next Inside Runs Ops table
attribute [local go_sem] szStr szInt Option.getD_some isNil evStr iv loadStr loadInt mapRc cellsRc newRc rowsPh_len rowsSp_len fpRcSteps fpRcEpoch fpRcPhases fpPhLen fpPhLenU zrPh zoPh ldPh cellsPh mapPh fePhLen lePhLen feLenU leLenU
theorem mkSp {a b : Int} : evBuild Tryz.prog 51 [(0, .v (.int .i64 a)), (1, .v (.int .i64 b))] = some (.agg [.v (.int .i64 a), .v (.int .i64 b)]) := by kernel_rfl
attribute [local go_sem] mkSp
theorem mkSps1 {a b : Int} : evBuildSlice Tryz.prog 46 1 [(0, .agg [.v (.int .i64 a), .v (.int .i64 b)])] = some (.lst .full 2 [[.v (.int .i64 a), .v (.int .i64 b)]]) := build_rows appSp rfl rfl (by decide)
attribute [local go_sem] mkSps1
theorem mkSp0 : evBuildSlice Tryz.prog 46 0 [] = some (.lst .full 2 []) := build_nil appSp
attribute [local go_sem] mkSp0
theorem app_sp {m m' : Mem} {g g2 : Grow} (hG : GrowsA m g m') (xs : List Sp) (a b : Int) (hl : xs.length ≤ 1000000) :
  ∃ g' m'', evAppend Tryz.prog 46 46 m' (.lst g 2 (rowsSp xs)) (.lst g2 2 [[.v (.int .i64 a), .v (.int .i64 b)]]) = some (.lst g' 2 (rowsSp (xs ++ [⟨a, b⟩])), m'') ∧ GrowsA m g' m'' ∧ ∀ q, m''.var q = m'.var q := by
 have := app_growsV appSp hG (y := .lst g2 2 [[.v (.int .i64 a), .v (.int .i64 b)]]) asList_lst (xs := rowsSp xs) (by rw [rowsSp_len]; unfold lim; simp; omega)
 rwa [show ([[.v (.int .i64 a), .v (.int .i64 b)]] : List (List AV)) = rowsSp [⟨a, b⟩] from rfl, rowsSp_app] at this
/-- Where a phase begins. -/
def Rc.at_ (R : Rc) : Nat → Int
 | 0 => 0
 | i + 1 => if (R.phases.getD i ph0).lenU = 3 then R.steps else R.at_ i + (R.stepsOf (R.phases.getD i ph0)).1
def Rc.spansTo (R : Rc) (n : Nat) : List Sp := (List.range n).map fun i => ⟨R.at_ i, R.at_ (i + 1)⟩
def Rc.spans (R : Rc) : List Sp := R.spansTo R.phases.length
theorem spansTo_next {R : Rc} {n : Nat} : R.spansTo (n + 1) = R.spansTo n ++ [⟨R.at_ n, R.at_ (n + 1)⟩] := by
 unfold Rc.spansTo
 rw [List.range_succ, List.map_append]
 rfl
theorem spansTo_len {R : Rc} {n : Nat} : (R.spansTo n).length = n := by simp [Rc.spansTo]
theorem spansTo_get {R : Rc} {n i : Nat} (h : i < n) : (R.spansTo n).getD i sp0 = ⟨R.at_ i, R.at_ (i + 1)⟩ := by
 simp [Rc.spansTo, List.getD, h]
theorem at_in {R : Rc} (h : 0 ≤ R.steps ∧ R.steps ≤ 1099511627776) : ∀ i : Nat, 0 ≤ R.at_ i ∧ R.at_ i ≤ ((i + 1 : Nat) : Int) * 1099511627776
 | 0 => by simp [Rc.at_]
 | i + 1 => by
  have ih := at_in h i
  have h2 := stepsP_in (u := (R.phases.getD i ph0).lenU) (n := (R.phases.getD i ph0).lenN) (of := R.steps) (ep := R.epoch)
  rw [show stepsP (R.phases.getD i ph0).lenU (R.phases.getD i ph0).lenN R.steps R.epoch = R.stepsOf (R.phases.getD i ph0) from rfl] at h2
  unfold Rc.at_
  split <;> omega
def rspansG : List AV → Mem → Option (AV × Mem)
 | [.agg cs], m =>
  match unRc cs with
  | some R => if R.may = true ∧ R.fit then some (.lst .no 2 (rowsSp R.spans), m) else none
  | none => none
 | _, _ => none
theorem rspansG_at {R : Rc} {m : Mem} (h : R.may = true) (h1 : R.fit) : rspansG [.agg R.row] m = some (.lst .no 2 (rowsSp R.spans), m) := by
 simp only [rspansG, unRc_row]
 rw [if_pos ⟨h, h1⟩]
def kpSpans22 : Nat → Option (List Nat) := fun
 | 0 => some [1]
 | 1 => some [1, 3]
 | 2 => some [1, 3, 4]
 | 3 => some [1, 3, 4, 5]
 | 4 => some [1, 3, 4, 5, 12]
 | 5 => some [1, 3, 4, 5]
 | 6 => some [1, 3, 4, 5, 6]
 | 7 => some [1, 3, 4, 5, 6, 26]
 | 8 => some [1, 3, 4, 5, 6]
 | 9 => some [1, 3, 4, 5, 6]
 | 10 => some [1, 3, 4, 5]
 | 11 => some [2]
 | _ => none
attribute [go_sem] kpSpans22
def tab_spans22_ok : List (FuncId × (List AV → Mem → Option (AV × Mem))) := [(49, rstepsG)]
theorem spans22_ok : FunOk Tryz.prog 19 rspansG := by
 have hC := table_ok (P := Tryz.prog) (l := tab_spans22_ok) (table_more rsteps_ok table_nil)
 have t1 := fun args mm => table_at (l := tab_spans22_ok) (f := 49) (args := args) (m := mm) rfl
 refine fun_ok mixed hC Tryz.func19 rfl kpSpans22 false rfl fun args m r h => ?_
 unfold rspansG at h
 split at h
 ·rename_i cs
  split at h
  ·rename_i R hR
   obtain rfl := unRc_some hR
   split at h
   ·rename_i hyp
    obtain ⟨hmay, hfit⟩ := hyp
    simp only [Option.some.injEq] at h
    subst h
    refine ⟨Nat.le_of_ble_eq_true rfl, ?_⟩
    refine en ?_
    have hsm := Rc.may_small hmay
    have hP64 := hsm.2.2.1
    have hnum := Rc.may_num hmay
    have hlens := Rc.may_lens hmay
    have hG0 : GrowsA m .full (m.push R.row) := growsA_push growsA_full
    have hv : (m.push R.row).var m.vars.length = some R.row := push_var
    have nr := newRc (m := m) (x := R)
    generalize m.push R.row = m1 at hG0 hv nr
    refine go1 @nr ?_
    refine runs_loop (fun k e m' => ∃ (i : Nat) (gr : Grow), i ≤ R.phases.length ∧ GrowsA m gr m' ∧ m'.var m.vars.length = some R.row ∧ k = R.phases.length - i ∧
     e = [(1, AV.ptr m.vars.length 0), (3, .lst gr 2 (rowsSp (R.spansTo i))), (4, .v (.int .i64 (R.at_ i))), (5, .v (.int .i64 (i : Int)))]) (k := R.phases.length) ⟨0, _, Nat.zero_le _, hG0, hv, rfl, rfl⟩ ?_
    rintro k e m' ⟨i, gr, hi0, hG, hw, rfl, rfl⟩
    have l1 := lpRcPhases hw
    refine go1 @l1 ?_
    refine runs_cond rfl (fun hc => ?_) (fun hc => ?_)
    ·have hi1 : i < R.phases.length := by have := of_decide_eq_true hc; omega
     have l0 := vrRc hw
     have l2 := lpRcSteps hw
     have f2 := atPh (g := .no) (kk := .i64) hi1
     have hin := at_in hnum.steps i
     have hin2 := at_in hnum.steps (i + 1)
     have hA : R.at_ (i + 1) = if (R.phases.getD i ph0).lenU = 3 then R.steps else R.at_ i + (R.stepsOf (R.phases.getD i ph0)).1 := rfl
     have hl := hlens.2.1 _ (phase_mem hi1)
     have hN := @spansTo_next R i
     have hlen := @spansTo_len R i
     have hst := hnum.steps
     have r1 : IntKind.i64.wrap (R.steps - R.at_ i) = R.steps - R.at_ i := i64_wrap (by omega) (by omega)
     have r6 := next_i64 (i := i) (by omega)
     generalize R.phases.getD i ph0 = p at f2 hA hl
     generalize R.spansTo i = acc at hG hN hlen
     obtain ⟨g2, m2, a1, hG2, hV2⟩ := app_sp (g2 := .full) hG acc (R.at_ i) (R.at_ (i + 1)) (by omega)
     rw [← hN] at a1
     cases h3 : (p.lenU == 3) with
     | true =>
      have h3' : p.lenU = 3 := by simpa using h3
      have h4 : (p.lenU != 3) = false := by simpa using h3
      rw [if_pos h3'] at hA
      have e1 : R.at_ i + (R.steps - R.at_ i) = R.at_ (i + 1) := by omega
      have r2 : IntKind.i64.wrap (R.at_ i + (R.steps - R.at_ i)) = R.at_ (i + 1) := by rw [e1]; exact i64_wrap (by omega) (by omega)
      refine go1 (jn @l2 (jn @r1 (jn @l1 (jn @f2 @h4)))) ?_
      refine runs_cond rfl (fun hc => by cases hc) (fun hc => ?_)
      refine go1 (jn @r2 (jn @a1 @r6)) ?_
      exact ⟨R.phases.length - (i + 1), by omega, i + 1, _, hi1, hG2, by rw [hV2]; exact hw, rfl, rfl⟩
     | false =>
      have h3' : ¬ p.lenU = 3 := by simpa using h3
      have h4 : (p.lenU != 3) = true := by simpa using h3
      rw [if_neg h3'] at hA
      have c1 := fun mm => rstepsG_at (R := R) (m := mm) hl hnum.steps.1 hnum.epoch.1
      rw [show stepsP p.lenU p.lenN R.steps R.epoch = R.stepsOf p from rfl] at c1
      have r2 : IntKind.i64.wrap (R.at_ i + (R.stepsOf p).1) = R.at_ (i + 1) := by rw [← hA]; exact i64_wrap (by omega) (by omega)
      generalize (R.stepsOf p).1 = s1 at c1 r2
      generalize (R.stepsOf p).2 = s2 at c1
      refine go1 (jn @l2 (jn @r1 (jn @l1 (jn @f2 @h4)))) ?_
      refine runs_cond rfl (fun hc => ?_) (fun hc => by cases hc)
      refine go0 ?_
      refine runs_ops_drawn_kept (by kernel_rfl) ?_
      refine go1 (jn @l0 (jn @l1 (jn @f2 (jn @t1 (jn @c1 (jn @r2 (jn @a1 @r6))))))) ?_
      exact ⟨R.phases.length - (i + 1), by omega, i + 1, _, hi1, hG2, by rw [hV2]; exact hw, rfl, rfl⟩
    ·have hi1 : i = R.phases.length := by have := of_decide_eq_false hc; omega
     subst hi1
     refine go0 ?_
     exact leaves_lst rfl rfl (growsA_fin hG)
   ·cases h
  ·cases h
 ·cases h
def spansG : List AV → Mem → Option (AV × Mem)
 | [.agg cs], m =>
  match unRc cs with
  | some R => if R.fit then some (.tup [.lst .no 2 (rowsSp (if R.sound = true then R.spans else [])), .v (.int .i64 (if R.sound then 0 else 1))], m) else none
  | none => none
 | _, _ => none
theorem spansG_at {R : Rc} {m : Mem} (h1 : R.fit) : spansG [.agg R.row] m = some (.tup [.lst .no 2 (rowsSp (if R.sound = true then R.spans else [])), .v (.int .i64 (if R.sound then 0 else 1))], m) := by
 simp only [spansG, unRc_row]
 rw [if_pos h1]
theorem sound_may {R : Rc} (h : R.sound = true) : R.may = true := by
 unfold Rc.sound at h
 exact (Bool.and_eq_true_iff.1 h).1
def kpSpansP : Nat → Option (List Nat) := fun
 | 0 => some [1]
 | 1 => some [1, 13]
 | 2 => some [2, 3]
 | 3 => some [1, 4]
 | 4 => some [1, 4, 5]
 | 5 => some [1, 4, 5, 15, 16, 17]
 | 6 => some [1, 4, 5, 15, 16, 17, 18]
 | 7 => some [1, 4, 5, 7, 15, 16, 17]
 | 8 => some [1, 4, 5, 7, 8, 15, 16, 17]
 | 9 => some [1, 4, 5, 7, 8, 15, 16, 17, 26]
 | 10 => some [1, 4, 5, 9, 15, 16, 17]
 | 11 => some [1, 4, 5, 8, 15, 16, 17]
 | 12 => some [1, 4, 8, 15, 16, 17]
 | 13 => some [1, 4, 5, 15, 16, 17]
 | 14 => some [1, 4, 5, 15, 16, 17]
 | 15 => some [2, 3]
 | _ => none
attribute [go_sem] kpSpansP
def tab_spansP_ok : List (FuncId × (List AV → Mem → Option (AV × Mem))) := [(12, soundG), (48, stepsLG)]
theorem spansP_ok : FunOk Tryz.prog 18 spansG := by
 have hC := table_ok (P := Tryz.prog) (l := tab_spansP_ok) (table_more sound_ok (table_more stepsL_ok table_nil))
 have t1 := fun args mm => table_at (l := tab_spansP_ok) (f := 12) (args := args) (m := mm) rfl
 have t2 := fun args mm => table_at (l := tab_spansP_ok) (f := 48) (args := args) (m := mm) rfl
 refine fun_ok mixed hC Tryz.func18 rfl kpSpansP false rfl fun args m r h => ?_
 unfold spansG at h
 split at h
 ·rename_i cs
  split at h
  ·rename_i R hR
   obtain rfl := unRc_some hR
   split at h
   ·rename_i hfit
    simp only [Option.some.injEq] at h
    subst h
    refine ⟨Nat.le_of_ble_eq_true rfl, ?_⟩
    refine en ?_
    have hG0 : GrowsA m .full (m.push R.row) := growsA_push growsA_full
    have hv : (m.push R.row).var m.vars.length = some R.row := push_var
    have nr := newRc (m := m) (x := R)
    generalize m.push R.row = m1 at hG0 hv nr
    have l0 := vrRc hv
    have c1 := fun mm => soundG_at R mm hfit
    cases hs : R.sound with
    | false =>
     rw [hs] at c1
     refine go1 (jn @nr (jn @l0 (jn @t1 @c1))) ?_
     refine runs_cond rfl (fun hc => ?_) (fun hc => by cases hc)
     refine go0 ?_
     exact leaves_two rfl rfl rfl (growsA_fin hG0)
    | true =>
     rw [hs] at c1
     rw [if_pos rfl, if_pos rfl]
     have hmay := sound_may hs
     have hsm := Rc.may_small hmay
     have hP64 := hsm.2.2.1
     have hnum := Rc.may_num hmay
     have k0 := lpRcPhases hv
     refine go1 (jn @nr (jn @l0 (jn @t1 (jn @c1 @k0)))) ?_
     refine runs_cond rfl (fun hc => by cases hc) (fun hc => ?_)
     refine go1 @k0 ?_
     refine runs_loop (fun k e m' => ∃ (i : Nat) (gr : Grow), i ≤ R.phases.length ∧ GrowsA m gr m' ∧ m'.var m.vars.length = some R.row ∧ k = R.phases.length - i ∧
      e = [(1, AV.ptr m.vars.length 0), (4, .lst gr 2 (rowsSp (R.spansTo i))), (5, .v (.int .i64 (R.at_ i))), (15, .lst .no 5 (rowsPh R.phases)), (16, .v (.int .i64 (R.phases.length : Int))), (17, .v (.int .i64 (i : Int)))]) (k := R.phases.length) ⟨0, _, Nat.zero_le _, hG0, hv, rfl, rfl⟩ ?_
     rintro k e m' ⟨i, gr, hi0, hG, hw, rfl, rfl⟩
     refine go0 ?_
     refine runs_cond rfl (fun hc => ?_) (fun hc => ?_)
     ·have hi1 : i < R.phases.length := by have := of_decide_eq_true hc; omega
      have f2 := atPh (g := .no) (kk := .i64) hi1
      have hin := at_in hnum.steps i
      have hin2 := at_in hnum.steps (i + 1)
      have hA : R.at_ (i + 1) = if (R.phases.getD i ph0).lenU = 3 then R.steps else R.at_ i + (R.stepsOf (R.phases.getD i ph0)).1 := rfl
      have hN := @spansTo_next R i
      have hlen := @spansTo_len R i
      have r6 := next_i64 (i := i) (by omega)
      generalize R.phases.getD i ph0 = p at f2 hA
      have z1 := zsPh (m := m') (x := p)
      have hG1 := growsA_push (cs := p.row) hG
      have hw1 := push_old (cs' := p.row) hw
      have hp1 : (m'.push p.row).var m'.vars.length = some p.row := push_var
      generalize m'.push p.row = m5 at z1 hG1 hw1 hp1
      generalize R.spansTo i = acc at hG1 hN hlen
      obtain ⟨g2, m2, a1, hG2, hV2⟩ := app_sp (g2 := .full) hG1 acc (R.at_ i) (R.at_ (i + 1)) (by omega)
      rw [← hN] at a1
      have l2 := lpRcSteps hw1
      have l3 := lpRcEpoch hw1
      have y1 := lpPhLenU hp1
      have y2 := lpPhLen hp1
      cases h3 : (p.lenU == 3) with
      | true =>
       have h3' : p.lenU = 3 := by simpa using h3
       have h4 : (p.lenU != 3) = false := by simpa using h3
       rw [if_pos h3'] at hA
       rw [hA] at a1
       refine go1 (jn @f2 (jn @znPh (jn @z1 (jn @l2 (jn @y1 @h4))))) ?_
       refine runs_cond rfl (fun hc => by cases hc) (fun hc => ?_)
       refine go1 (jn @a1 @r6) ?_
       exact ⟨R.phases.length - (i + 1), by omega, i + 1, _, hi1, hG2, by rw [hV2]; exact hw1, rfl, by rw [hA]⟩
      | false =>
       have h3' : ¬ p.lenU = 3 := by simpa using h3
       have h4 : (p.lenU != 3) = true := by simpa using h3
       rw [if_neg h3'] at hA
       have c2 := fun mm => stepsLG_eq (u := p.lenU) (n := p.lenN) (of := R.steps) (ep := R.epoch) (m := mm)
       rw [show stepsP p.lenU p.lenN R.steps R.epoch = R.stepsOf p from rfl] at c2
       have r2 : IntKind.i64.wrap (R.at_ i + (R.stepsOf p).1) = R.at_ (i + 1) := by rw [← hA]; exact i64_wrap (by omega) (by omega)
       generalize (R.stepsOf p).1 = s1 at c2 r2
       generalize (R.stepsOf p).2 = s2 at c2
       refine go1 (jn @f2 (jn @znPh (jn @z1 (jn @l2 (jn @y1 @h4))))) ?_
       refine runs_cond rfl (fun hc => ?_) (fun hc => by cases hc)
       refine go1 (jn @y2 (jn @l2 (jn @l3 (jn @t2 (jn @c2 (jn @r2 (jn @a1 @r6))))))) ?_
       exact ⟨R.phases.length - (i + 1), by omega, i + 1, _, hi1, hG2, by rw [hV2]; exact hw1, rfl, rfl⟩
     ·have hi1 : i = R.phases.length := by have := of_decide_eq_false hc; omega
      subst hi1
      refine go0 ?_
      exact leaves_two rfl rfl rfl (growsA_fin hG)
   ·cases h
  ·cases h
 ·cases h
def kpAt22 : Nat → Option (List Nat) := fun
 | 0 => some [1, 2]
 | 1 => some [1, 5]
 | 2 => some [1, 5, 6]
 | 3 => some [1, 5, 6, 12]
 | 4 => some [1, 5, 6]
 | 5 => some [1, 5, 6, 30]
 | 6 => some [4]
 | 7 => some [4]
 | _ => none
attribute [go_sem] kpAt22
attribute [local go_sem] feSpFrom_ feSpTo_ leSpFrom_ leSpTo_
end
section
attribute [local irreducible] Next Inside Runs Ops table
theorem allKept_yes {R : Rc} : ∀ {n : Nat}, allKept R n = true → ∀ i : Nat, 1 ≤ i → i ≤ n → R.kept (i : Int) = true
 | 0, _, i, h1, h2 => by omega
 | n + 1, h, i, h1, h2 => by
  rw [allKept, Bool.and_eq_true] at h
  by_cases e : i = n + 1
  ·subst e; exact h.1
  ·exact allKept_yes h.2 i h1 (by omega)
theorem sound_brk {R : Rc} (h : R.sound = true) (i : Nat) (h1 : 1 ≤ i) (h2 : i ≤ 19) : brkL R (i : Int) = [] := by
 rw [sound_kept, Bool.and_eq_true] at h
 have := allKept_yes h.2 i h1 h2
 unfold Rc.kept at this
 simp only [beq_iff_eq] at this
 exact List.length_eq_zero_iff.1 (by omega)
theorem flawIf_nil {b : Bool} {r i k : Int} (h : flawIf b r i k = []) : b = false := by
 cases b with
 | false => rfl
 | true => cases h
theorem upto_all {f : Nat → List Fl} : ∀ {n : Nat}, upto n f = [] → ∀ i, i < n → f i = []
 | 0, _, i, hi => by omega
 | n + 1, h, i, hi => by
  rw [upto_next, List.append_eq_nil_iff] at h
  by_cases e : i = n
  ·subst e; exact h.2
  ·exact upto_all h.1 i (by omega)
theorem firstBy_skip {α : Type} {d : α} {p : α → Bool} {l : List α} : ∀ (i : Nat), i ≤ l.length → (∀ j, j < i → p (l.getD j d) = false) → firstBy p (l.drop i) i = firstBy p l 0
 | 0, _, _ => rfl
 | i + 1, hi, h => by_no (d := d) (by omega) (h i (by omega)) (firstBy_skip i (by omega) fun j hj => h j (by omega))
theorem firstBy_is {α : Type} {d : α} {p : α → Bool} {l : List α} {i : Nat} (hi : i < l.length) (hp : p (l.getD i d) = true) (h : ∀ j, j < i → p (l.getD j d) = false) : firstBy p l 0 = (i : Int) :=
 by_yes (d := d) hi hp (firstBy_skip i (by omega) h)
theorem firstBy_none {α : Type} {d : α} {p : α → Bool} {l : List α} (h : ∀ j, j < l.length → p (l.getD j d) = false) : firstBy p l 0 = -1 :=
 by_end (firstBy_skip (d := d) l.length (Nat.le_refl _) h)
structure Rc.Ok (R : Rc) : Prop where
 may : R.may = true
 steps : 1 ≤ R.steps ∧ R.steps ≤ 1000000
 some_ : 0 < R.phases.length
 grow : ∀ i, i < R.phases.length → R.at_ i < R.at_ (i + 1)
 last : R.at_ R.phases.length = R.steps
theorem sound_ok' {R : Rc} (h : R.sound = true) : R.Ok := by
 have hm := sound_may h
 have b1 : flawIf (!decide (1 ≤ R.steps ∧ R.steps ≤ 1000000)) 1 0 0 = [] := sound_brk h 1 (by decide) (by decide)
 have b6 : flawIf (((R.phases.length : Int) == 0)) 6 0 0 = [] := sound_brk h 6 (by decide) (by decide)
 have b8 : lastsL 8 R = [] := sound_brk h 8 (by decide) (by decide)
 have k1 : R.kept 1 = true := by unfold Rc.kept; rw [show brkL R 1 = [] from sound_brk h 1 (by decide) (by decide)]; rfl
 have k2 : R.kept 2 = true := by unfold Rc.kept; rw [show brkL R 2 = [] from sound_brk h 2 (by decide) (by decide)]; rfl
 have k8 : R.kept 8 = true := by unfold Rc.kept; rw [show brkL R 8 = [] from sound_brk h 8 (by decide) (by decide)]; rfl
 have b9 : sumL 9 R = [] := sound_brk h 9 (by decide) (by decide)
 rw [sum_flaw, k1, k2, k8] at b9
 have hs := flawIf_nil b9
 rw [Bool.and_self, Bool.and_self, Bool.true_and] at hs
 have h1 := flawIf_nil b1
 simp only [Bool.not_eq_false', decide_eq_true_eq] at h1
 have h6 := flawIf_nil b6
 simp only [beq_eq_false_iff_ne, ne_eq] at h6
 have hpos : 0 < R.phases.length := by omega
 have h8 : ∀ i, i < R.phases.length → R.lastBad i = false := fun i hi => flawIf_nil (upto_all b8 i hi)
 have rest : ∀ i, i + 1 < R.phases.length → ¬ (R.phases.getD i ph0).lenU = 3 := fun i hi h3 => by
  have := h8 i (by omega)
  unfold Rc.lastBad at this
  rw [if_pos h3, decide_eq_false_iff_not] at this
  omega
 have len : ∀ i, i < R.phases.length → ¬ (R.phases.getD i ph0).lenU = 3 → 0 < (R.stepsOf (R.phases.getD i ph0)).1 := fun i hi h3 => by
  have := h8 i hi
  unfold Rc.lastBad at this
  rw [if_neg h3, Bool.or_eq_false_iff] at this
  have h0 := this.2
  simp only [beq_eq_false_iff_ne, ne_eq] at h0
  have := stepsP_in (u := (R.phases.getD i ph0).lenU) (n := (R.phases.getD i ph0).lenN) (of := R.steps) (ep := R.epoch)
  rw [show stepsP (R.phases.getD i ph0).lenU (R.phases.getD i ph0).lenN R.steps R.epoch = R.stepsOf (R.phases.getD i ph0) from rfl] at this
  omega
 have acc : ∀ i, i + 1 ≤ R.phases.length → R.at_ i = accS R i := by
  intro i
  induction i with
  | zero => intro _; rfl
  | succ i ih =>
   intro hi
   show (if (R.phases.getD i ph0).lenU = 3 then R.steps else R.at_ i + (R.stepsOf (R.phases.getD i ph0)).1) = accS R i + (R.stepsOf (R.phases.getD i ph0)).1
   rw [if_neg (rest i (by omega)), ih (by omega)]
 obtain ⟨n, hn⟩ : ∃ n, R.phases.length = n + 1 := ⟨R.phases.length - 1, by omega⟩
 have hlast : R.at_ n < R.at_ (n + 1) ∧ R.at_ (n + 1) = R.steps := by
  have e : R.at_ (n + 1) = if (R.phases.getD n ph0).lenU = 3 then R.steps else R.at_ n + (R.stepsOf (R.phases.getD n ph0)).1 := rfl
  have ea := acc n (by omega)
  by_cases h3 : (R.phases.getD n ph0).lenU = 3
  ·rw [if_pos h3] at e
   have hf : firstBy restP R.phases 0 = (n : Int) := firstBy_is (d := ph0) (by omega) (by unfold restP; simpa using h3) fun j hj => by have := rest j (by omega); unfold restP; simpa using this
   unfold Rc.sumBad at hs
   rw [hf, if_neg (by omega), Int.toNat_natCast, decide_eq_false_iff_not] at hs
   exact ⟨by rw [e, ea]; omega, e⟩
  ·rw [if_neg h3] at e
   have hl := len n (by omega) h3
   have hf : firstBy restP R.phases 0 = -1 := firstBy_none (d := ph0) fun j hj => by
    unfold restP
    by_cases hj' : j = n
    ·subst hj'; simpa using h3
    ·have := rest j (by omega); simpa using this
   unfold Rc.sumBad at hs
   rw [hf, if_pos (by decide), bne_eq_false_iff_eq, hn] at hs
   have ea2 : accS R (n + 1) = accS R n + (R.stepsOf (R.phases.getD n ph0)).1 := rfl
   exact ⟨by omega, by omega⟩
 refine ⟨hm, h1, hpos, fun i hi => ?_, by rw [hn]; exact hlast.2⟩
 by_cases hi' : i = n
 ·subst hi'; exact hlast.1
 ·have e : R.at_ (i + 1) = if (R.phases.getD i ph0).lenU = 3 then R.steps else R.at_ i + (R.stepsOf (R.phases.getD i ph0)).1 := rfl
  have hr := rest i (by omega)
  rw [if_neg hr] at e
  have := len i hi hr
  omega
theorem at_mono {R : Rc} {n : Nat} (h : ∀ i, i < n → R.at_ i < R.at_ (i + 1)) : ∀ i, i ≤ n → 0 ≤ R.at_ i
 | 0, _ => Int.le_refl 0
 | i + 1, hi => by have := at_mono h i (by omega); have := h i (by omega); omega
theorem at_le {R : Rc} {n : Nat} (h : ∀ i, i < n → R.at_ i < R.at_ (i + 1)) : ∀ {j : Nat}, j ≤ n → ∀ i, i ≤ j → R.at_ i ≤ R.at_ j
 | 0, hj, i, hi => by rw [show i = 0 by omega]; exact Int.le_refl _
 | j + 1, hj, i, hi => by
  by_cases e : i = j + 1
  ·rw [e]; exact Int.le_refl _
  ·have := at_le h (j := j) (by omega) i (by omega); have := h j (by omega); omega
end
noncomputable section
attribute [local irreducible] Next Inside Runs Ops table
attribute [local go_sem] szStr szInt Option.getD_some isNil evStr iv loadStr loadInt mapRc mapSp cellsRc cellsSp newRc newSp ldSp ldPh ldGs cellsPh cellsGs zrPh zoPh znPh zsPh zrGs zoGs znGs zsGs fpRcPhases fpRcEpoch fpPhSets fpGsNodes rowsPh_len rowsGs_len rowsSp_len
theorem getD_in {α : Type} {d : α} {l : List α} {i : Nat} (h : i < l.length) : l.getD i d ∈ l := by
 rw [List.getD, List.getElem?_eq_getElem h]
 exact List.getElem_mem _
theorem runs_ops_drawn_tight {P : Program} {call : CallF} {nt : Nat} {kp : Nat → Option (List Nat)} {e : Env} {m : Mem} {Q : Ex → Env → Mem → Prop} {id : Nat} {l : List Oper} (hok : drawnOk P l = true) (hl : anyLoose P l = false) (h : Ops P call nt l.toArray false l e m fun e' m' => ∀ e2, restr (kp id) e' = e2 → Q .normal e2 m') : Runs P call nt kp (.region id l.toArray true) e m Q :=
 runs_ops_drawn_kept hok (by rw [hl]; exact h)
def lost2G : List AV → Mem → Option (AV × Mem)
 | [.lst _ 7 rows, .agg cs, .ptr q 0], m =>
  match unN rows, unSp cs, (m.var q).bind unRc with
  | some l, some s, some R => open Classical in if l.length ≤ 1000000 ∧ checkT l = 0 ∧ inW (s.to_ - s.from_) ∧ inW R.epoch then some (.v (.bool (lostB l (s.to_ - s.from_) R.epoch)), m) else none
  | _, _, _ => none
 | _, _ => none
theorem lost2G_at {m : Mem} {g : Grow} {l : List Nd} {s : Sp} {q : Nat} {R : Rc} (hv : m.var q = some R.row) (h : l.length ≤ 1000000) (h1 : checkT l = 0) (h2 : inW (s.to_ - s.from_)) (h3 : inW R.epoch) : lost2G [.lst g 7 (rowsN l), .agg s.row, .ptr q 0] m = some (.v (.bool (lostB l (s.to_ - s.from_) R.epoch)), m) := by
 simp only [lost2G, unN_rowsN, unSp_row, hv, Option.bind_some, unRc_row]
 rw [if_pos ⟨h, h1, h2, h3⟩]
def kpLost2 : Nat → Option (List Nat) := fun
 | 0 => some [0, 2, 4]
 | 1 => some [5]
 | _ => none
attribute [go_sem] kpLost2
def tab_lost2_ok : List (FuncId × (List AV → Mem → Option (AV × Mem))) := [(66, lostG)]
theorem lost2_ok : FunOk Tryz.prog 65 lost2G := by
 have hC := table_ok (P := Tryz.prog) (l := tab_lost2_ok) (table_more lost_ok table_nil)
 have t1 := fun args mm => table_at (l := tab_lost2_ok) (f := 66) (args := args) (m := mm) rfl
 refine fun_ok mixed hC Tryz.func65 rfl kpLost2 false rfl fun args m r h => ?_
 unfold lost2G at h
 split at h
 ·rename_i g rows cs q
  split at h
  ·rename_i l s R hl0 hs hR
   obtain rfl := unN_some hl0
   obtain rfl := unSp_some hs
   obtain ⟨cr, hv, hcr⟩ := Option.bind_eq_some_iff.1 hR
   obtain rfl := unRc_some hcr
   split at h
   ·rename_i hyp
    obtain ⟨hlen, hck, hw1, hw2⟩ := hyp
    simp only [Option.some.injEq] at h
    subst h
    refine ⟨Nat.le_of_ble_eq_true rfl, ?_⟩
    refine en ?_
    have l1 := lpRcEpoch (push_old (cs' := s.row) hv)
    have hs2 : (m.push s.row).var m.vars.length = some s.row := push_var
    have l2 := vrSp hs2
    have f1 := fun mm => lostG_at (m := mm) (g := .no) hlen hck hw1 hw2
    refine go1 (jn @l1 (jn @l2 (jn @t1 @f1))) ?_
    exact leaves_fin rfl rfl fin_push
   ·cases h
  ·cases h
 ·cases h
/-- What is told of a set: by the function that is handed over. -/
def setP (k0 : Nat) (R : Rc) (l : List Nd) (s : Sp) : Bool := if k0 = 63 then zeroB l else lostB l (s.to_ - s.from_) R.epoch
def spanOf (R : Rc) (i : Nat) : Sp := ⟨R.at_ i, R.at_ (i + 1)⟩
def innerTo (R : Rc) (k0 : Nat) (rule : Int) (i : Nat) : Nat → List Fl
 | 0 => []
 | k + 1 => innerTo R k0 rule i k ++ (if setP k0 R ((R.phases.getD i ph0).sets.getD k gs0).nodes (spanOf R i) = true then [⟨rule, (i : Int), (k : Int)⟩] else [])
def outerTo (R : Rc) (k0 : Nat) (rule : Int) : Nat → List Fl
 | 0 => []
 | i + 1 => outerTo R k0 rule i ++ innerTo R k0 rule i (R.phases.getD i ph0).sets.length
theorem innerTo_len (R : Rc) (k0 : Nat) (rule : Int) (i : Nat) : ∀ k, (innerTo R k0 rule i k).length ≤ k
 | 0 => Nat.le_refl _
 | k + 1 => by
  have := innerTo_len R k0 rule i k
  rw [innerTo, List.length_append]
  split
  ·simp only [List.length_cons, List.length_nil]; omega
  ·simp only [List.length_nil]; omega
theorem outerTo_len {R : Rc} (h : R.small) (k0 : Nat) (rule : Int) : ∀ i, (outerTo R k0 rule i).length ≤ i * 64
 | 0 => by simp [outerTo]
 | i + 1 => by
  have h1 := outerTo_len h k0 rule i
  have h2 := innerTo_len R k0 rule i (R.phases.getD i ph0).sets.length
  have h3 := (h.phase i).2.1
  rw [outerTo, List.length_append]
  omega
theorem sound_epoch {R : Rc} (h : R.sound = true) : inW R.epoch := by
 have hn := (Rc.may_num (sound_may h)).epoch
 have b2 : flawIf (decide (R.epoch > 1000000) || ((R.epoch == 0) && R.epochs)) 2 0 0 = [] := sound_brk h 2 (by decide) (by decide)
 unfold inW
 refine ⟨hn.1, ?_⟩
 by_cases hgt : R.epoch > 1000000
 ·rw [decide_eq_true hgt, Bool.true_or] at b2
  cases b2
 ·omega
theorem sound_span {R : Rc} (h : R.sound = true) {i : Nat} (hi : i < R.phases.length) : inW ((spanOf R i).to_ - (spanOf R i).from_) := by
 have ok := sound_ok' h
 have h0 := at_mono ok.grow i (by omega)
 have hg := ok.grow i hi
 have hl := at_le ok.grow (j := R.phases.length) (Nat.le_refl _) (i + 1) (by omega)
 rw [ok.last] at hl
 have hst := ok.steps
 unfold inW spanOf
 show 0 ≤ R.at_ (i + 1) - R.at_ i ∧ R.at_ (i + 1) - R.at_ i ≤ 1000000
 omega
def pickF (m : Mem) (R : Rc) (k0 : Nat) (caps : List AV) : Prop := (k0 = 63 ∧ caps = []) ∨ (k0 = 65 ∧ ∃ q, caps = [.ptr q 0] ∧ m.var q = some R.row)
def lsetsG : List AV → Mem → Option (AV × Mem)
 | [.ptr r 0, .agg cs, .v (.int .i64 rule), .fn (.func k0) [] caps], m =>
  match unRc cs with
  | some R => open Classical in if R.sound = true ∧ R.fit ∧ lstOk m r 10000 ∧ pickF m R k0 caps then some (.tup [], addL m r (outerTo R k0 rule R.phases.length)) else none
  | none => none
 | _, _ => none
theorem lsetsG_at {m : Mem} {r : Nat} {R : Rc} {rule : Int} {k0 : Nat} {caps : List AV} (h : R.sound = true) (hf : R.fit) (hr : lstOk m r 10000) (hp : pickF m R k0 caps) : lsetsG [.ptr r 0, .agg R.row, .v (.int .i64 rule), .fn (.func k0) [] caps] m = some (.tup [], addL m r (outerTo R k0 rule R.phases.length)) := by
 simp only [lsetsG, unRc_row]
 rw [if_pos ⟨h, hf, hr, hp⟩]
def kpLSets : Nat → Option (List Nat) := fun
 | 0 => some [0, 2, 3, 5]
 | 1 => some [0, 2, 3, 5, 8]
 | 2 => some [0, 2, 3, 8, 20, 21, 22]
 | 3 => some [0, 2, 3, 8, 20, 21, 22, 23]
 | 4 => some [0, 2, 3, 8, 10, 11, 20, 21, 22]
 | 5 => some [0, 2, 3, 8, 10, 20, 21, 22, 28, 29, 30]
 | 6 => some [0, 2, 3, 8, 10, 20, 21, 22, 28, 29, 30, 31]
 | 7 => some [0, 2, 3, 8, 10, 12, 13, 20, 21, 22, 28, 29, 30]
 | 8 => some [0, 2, 3, 8, 10, 20, 21, 22, 28, 29, 30]
 | 9 => some [0, 2, 3, 8, 10, 20, 21, 22, 28, 29, 30]
 | 10 => some [0, 2, 3, 8, 20, 21, 22]
 | _ => none
attribute [go_sem] kpLSets
def tab_lsets_ok : List (FuncId × (List AV → Mem → Option (AV × Mem))) := [(18, spansG), (63, zero1G), (65, lost2G), (67, lnoteG)]
theorem lsets_ok : FunOk Tryz.prog 62 lsetsG := by
 have hC := table_ok (P := Tryz.prog) (l := tab_lsets_ok) (table_more spansP_ok (table_more zero1_ok (table_more lost2_ok (table_more lnote_ok table_nil))))
 have t1 := fun args mm => table_at (l := tab_lsets_ok) (f := 18) (args := args) (m := mm) rfl
 have t2 := fun args mm => table_at (l := tab_lsets_ok) (f := 63) (args := args) (m := mm) rfl
 have t3 := fun args mm => table_at (l := tab_lsets_ok) (f := 65) (args := args) (m := mm) rfl
 have t4 := fun args mm => table_at (l := tab_lsets_ok) (f := 67) (args := args) (m := mm) rfl
 refine fun_ok mixed hC Tryz.func62 rfl kpLSets false rfl fun args m r h => ?_
 unfold lsetsG at h
 split at h
 ·rename_i r cs rule k0 caps
  split at h
  ·rename_i R hR
   obtain rfl := unRc_some hR
   split at h
   ·rename_i hyp
    obtain ⟨hs, hfit, hok, hpk⟩ := hyp
    simp only [Option.some.injEq] at h
    subst h
    refine ⟨Nat.le_of_ble_eq_true rfl, ?_⟩
    refine en ?_
    have hr := lstOk_lt hok
    have hsm := Rc.may_small (sound_may hs)
    have hP64 := hsm.2.2.1
    have hck := (may_parts (sound_may hs)).2.1
    have hep := sound_epoch hs
    -- the function, wherever it is called
    have hT : ∀ (mm : Mem) (i k : Nat), i < R.phases.length → k < (R.phases.getD i ph0).sets.length → (∀ q cs, q ≠ r → m.var q = some cs → mm.var q = some cs) → table tab_lsets_ok k0 (.lst .no 7 (rowsN ((R.phases.getD i ph0).sets.getD k gs0).nodes) :: .agg (spanOf R i).row :: caps) mm = some (.v (.bool (setP k0 R ((R.phases.getD i ph0).sets.getD k gs0).nodes (spanOf R i))), mm) := fun mm i k hi hk hold => by
     have hmem1 : R.phases.getD i ph0 ∈ R.phases := getD_in hi
     have hmem2 : (R.phases.getD i ph0).sets.getD k gs0 ∈ (R.phases.getD i ph0).sets := getD_in hk
     have hc := (hck _ hmem1).2 _ hmem2
     have hl := (hsm.phase i).2.2 _ hmem2
     have hw := sound_span hs hi
     rcases hpk with ⟨rfl, rfl⟩ | ⟨rfl, q, rfl, hq⟩
     ·rw [t2]
      exact zero1G_at (g := .no) (by unfold big40; omega)
     ·rw [t3]
      have hq2 : mm.var q = some R.row := by
       refine hold q _ (fun h => ?_) hq
       subst h
       rcases lstOk_cases hok with ⟨_, hv, _⟩ | ⟨_, _, _, hv, _⟩ <;> (rw [hq] at hv; cases hv)
      exact lost2G_at (g := .no) hq2 (by omega) hc hw hep
    have hcaps : caps.map argAV = caps := by rcases hpk with ⟨_, rfl⟩ | ⟨_, q, rfl, _⟩ <;> rfl
    have hA := above_push (cs := R.row) (above_self m)
    have hv : (m.push R.row).var m.vars.length = some R.row := push_var
    have nr := newRc (m := m) (x := R)
    generalize m.push R.row = m1 at hA hv nr
    have l0 := vrRc hv
    have l1 := lpRcPhases hv
    have c1 : ∀ mm, spansG [.agg R.row] mm = some (.tup [.lst .no 2 (rowsSp R.spans), .v (.int .i64 0)], mm) := fun mm => by rw [spansG_at hfit, hs]; rfl
    refine go1 (jn @nr (jn @l0 (jn @t1 (jn @c1 @l1)))) ?_
    refine runs_loop (fun k e m' => ∃ (i : Nat), i ≤ R.phases.length ∧ Above (addL m r (outerTo R k0 rule i)) m' ∧ k = R.phases.length - i ∧
     e = [(0, AV.ptr r 0), (2, .v (.int .i64 rule)), (3, .fn (.func k0) [] caps), (8, .lst .no 2 (rowsSp R.spans)), (20, .lst .no 5 (rowsPh R.phases)), (21, .v (.int .i64 (R.phases.length : Int))), (22, .v (.int .i64 (i : Int)))]) (k := R.phases.length) ⟨0, Nat.zero_le _, hA, rfl, rfl⟩ ?_
    rintro k e m' ⟨i, hi0, hA1, rfl, rfl⟩
    refine go0 ?_
    refine runs_cond rfl (fun hc => ?_) (fun hc => ?_)
    ·have hi1 : i < R.phases.length := by have := of_decide_eq_true hc; omega
     have f1 := atPh (g := .no) (kk := .i64) hi1
     have f5 := atSp (g := .no) (kk := .i64) (l := R.spans) (i := i) (by rw [show R.spans.length = R.phases.length from spansTo_len]; exact hi1)
     rw [show R.spans.getD i sp0 = spanOf R i from spansTo_get hi1] at f5
     have hT1 := fun mm k hk => hT mm i k hi1 hk
     have hsl := (hsm.phase i).2.1
     have hN : outerTo R k0 rule (i + 1) = outerTo R k0 rule i ++ innerTo R k0 rule i (R.phases.getD i ph0).sets.length := rfl
     have hI : ∀ k, innerTo R k0 rule i (k + 1) = innerTo R k0 rule i k ++ (if setP k0 R ((R.phases.getD i ph0).sets.getD k gs0).nodes (spanOf R i) = true then [⟨rule, (i : Int), (k : Int)⟩] else []) := fun k => rfl
     have hol := outerTo_len hsm k0 rule i
     have hil := innerTo_len R k0 rule i
     have r6 := next_i64 (i := i) (by omega)
     generalize R.phases.getD i ph0 = P at f1 hT1 hsl hN hI
     have zs := zsPh (m := m') (x := P)
     have hA2 := above_push (cs := P.row) hA1
     have hv2 : (m'.push P.row).var m'.vars.length = some P.row := push_var
     generalize m'.push P.row = m2 at zs hA2 hv2
     have l3 := lpPhSets hv2
     refine go1 (jn @f1 (jn @zs @l3)) ?_
     refine runs_loop (fun k e m'' => ∃ (j : Nat), j ≤ P.sets.length ∧ Above (addL m r (outerTo R k0 rule i ++ innerTo R k0 rule i j)) m'' ∧ k = P.sets.length - j ∧
      e = [(0, AV.ptr r 0), (2, .v (.int .i64 rule)), (3, .fn (.func k0) [] caps), (8, .lst .no 2 (rowsSp R.spans)), (10, .v (.int .i64 (i : Int))), (20, .lst .no 5 (rowsPh R.phases)), (21, .v (.int .i64 (R.phases.length : Int))), (22, .v (.int .i64 (i : Int))), (28, .lst .no 3 (rowsGs P.sets)), (29, .v (.int .i64 (P.sets.length : Int))), (30, .v (.int .i64 (j : Int)))]) (k := P.sets.length)
      ⟨0, Nat.zero_le _, by rw [show innerTo R k0 rule i 0 = [] from rfl, List.append_nil]; exact hA2, rfl, rfl⟩ ?_
     rintro k e m'' ⟨j, hj0, hA3, rfl, rfl⟩
     refine go0 ?_
     refine runs_cond rfl (fun hc => ?_) (fun hc => ?_)
     ·have hj1 : j < P.sets.length := by have := of_decide_eq_true hc; omega
      have f2 := atGs (g := .no) (kk := .i64) hj1
      have hT2 := fun mm => hT1 mm j hj1
      have hIj := hI j
      have hjl := hil j
      have r7 := next_i64 (i := j) (by omega)
      generalize P.sets.getD j gs0 = x at f2 hT2 hIj
      have zs2 := zsGs (m := m'') (x := x)
      have hA4 := above_push (cs := x.row) hA3
      have hv4 : (m''.push x.row).var m''.vars.length = some x.row := push_var
      generalize m''.push x.row = m4 at zs2 hA4 hv4
      have l4 := lpGsNodes hv4
      have f3 := hT2 m4 fun q cs hq hc => above_var hA4 (addL_ne hq hc)
      obtain ⟨c4, hA5⟩ := lnote_round (n := 10000) hok (by rw [List.length_append]; omega) hA4 (setP k0 R x.nodes (spanOf R i)) rule (i : Int) (j : Int)
      rw [List.append_assoc, ← hIj] at hA5
      generalize (if setP k0 R x.nodes (spanOf R i) = true then [(⟨rule, (i : Int), (j : Int)⟩ : Fl)] else []) = add at c4 hA5
      generalize setP k0 R x.nodes (spanOf R i) = b at f3 c4
      replace f3 : table tab_lsets_ok k0 (List.map argAV ([.lst .no 7 (rowsN x.nodes), .agg (spanOf R i).row] ++ caps)) m4 = some (.v (.bool b), m4) := by rw [List.map_append, hcaps]; exact f3
      refine go1 (jn @f2 @zs2) ?_
      refine runs_ops_drawn_tight (by kernel_rfl) (by kernel_rfl) ?_
      refine go1 (jn @l4 (jn @f5 (jn @f3 (jn @t4 (jn @c4 @r7))))) ?_
      exact ⟨P.sets.length - (j + 1), by omega, j + 1, hj1, hA5, rfl, rfl⟩
     ·have hj1 : j = P.sets.length := by have := of_decide_eq_false hc; omega
      subst hj1
      rw [← hN] at hA3
      refine go1 @r6 ?_
      exact ⟨R.phases.length - (i + 1), by omega, i + 1, hi1, hA3, rfl, rfl⟩
    ·have hi1 : i = R.phases.length := by have := of_decide_eq_false hc; omega
     subst hi1
     refine go0 ?_
     exact leaves_none rfl (fin_addL hok hA1)
   ·cases h
  ·cases h
 ·cases h
end
end Go.Proofs.YtojaokhkbmiidaaGreat.Ev
