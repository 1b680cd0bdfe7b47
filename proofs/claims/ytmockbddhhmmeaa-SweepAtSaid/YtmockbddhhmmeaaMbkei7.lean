/- The document's words on recipes: Light. -/
import Derived.Test.YtmockbddhhmmeaaMbkei2
import Derived.Test.YtmockbddhhmmeaaMbkei6
import Derived.Test.YtmockbddhhmmeaaMbkei1
namespace Go.Proofs.Ytmockbddhhmmeaa.Ev
open Go Go.Proofs
set_option maxRecDepth 10000
set_option maxHeartbeats 8000000
set_option linter.unusedVariables false
set_option linter.unusedSimpArgs false
section
attribute [local irreducible] Next Inside Runs Ops table
attribute [local go_sem] szStr szInt Option.getD_some isNil evStr iv loadStr loadInt rowsS_len rowsGs_len rowsPh_len rowsN_len mapRc mapPh mapGs cellsRc newRc cellsPh cellsGs ldPh ldGs zrPh zoPh znPh zsPh fpRcName fpRcMetrics fpRcGroups fpRcPhases fpRcStop fpRcStopMetric fpRcPlateau fpRcPlateauMetric fpRcKeep fpRcKeepMetric fpPhName fpPhFrozen fpPhSets feGsGroup leGsGroup feGsNodes leGsNodes
def bigS (n : Int) (s : ByteArray) : Bool := decide ((s.size : Int) > n)
def lightSets (n : Int) : List Gs → Option Int
 | [] => some n
 | s :: r => if n ≤ 60 then (if bigS 40 s.group || decide ((s.nodes.length : Int) > 60) then none else lightSets (n + (s.nodes.length : Int)) r) else some n
def lightHead (p : Ph) (n : Int) : Bool := bigS 40 p.name || (decide ((p.frozen.length : Int) > 12) || (decide ((p.sets.length : Int) > 30) || decide (n > 60)))
def lightPhases (n : Int) : List Ph → Option Int
 | [] => some n
 | p :: r => if lightHead p n then none else
  match lightSets n p.sets with
  | none => none
  | some n' => if p.frozen.any (bigS 40) then none else lightPhases n' r
def Rc.lightTop (R : Rc) : Bool := bigS 100 R.name || (decide ((R.metrics.length : Int) > 12) || (decide ((R.groups.length : Int) > 12) || (decide ((R.phases.length : Int) > 20) || decide (IntKind.i64.wrap (IntKind.i64.wrap ((R.stopMetric.size : Int) + (R.plateauMetric.size : Int)) + (R.keepMetric.size : Int)) > 100))))
def Rc.light (R : Rc) : Bool := !R.lightTop && (match lightPhases 0 R.phases with
 | none => false
 | some n => !((R.metrics ++ R.groups).any (bigS 40)) && decide (n ≤ 60))
theorem lightSets_mono : ∀ {l : List Gs} {n n' : Int}, lightSets n l = some n' → n ≤ n'
 | [], n, n', h => by simp only [lightSets, Option.some.injEq] at h; omega
 | s :: r, n, n', h => by
  unfold lightSets at h
  split at h
  ·split at h
   ·cases h
   ·have := lightSets_mono h; omega
  ·simp only [Option.some.injEq] at h; omega
theorem lightSets_all : ∀ {l : List Gs} {n n' : Int}, lightSets n l = some n' → n' ≤ 60 → ∀ s ∈ l, s.nodes.length ≤ 60
 | [], n, n', h, hn => fun s hs => by simp at hs
 | x :: r, n, n', h, hn => fun s hs => by
  unfold lightSets at h
  split at h
  ·split at h
   ·cases h
   ·rename_i hb
    simp only [Bool.or_eq_true, decide_eq_true_eq, not_or] at hb
    rcases List.mem_cons.1 hs with rfl | hs
    ·omega
    ·exact lightSets_all h hn s hs
  ·simp only [Option.some.injEq] at h; omega
theorem lightPhases_mono : ∀ {l : List Ph} {n n' : Int}, lightPhases n l = some n' → n ≤ n'
 | [], n, n', h => by simp only [lightPhases, Option.some.injEq] at h; omega
 | p :: r, n, n', h => by
  unfold lightPhases at h
  split at h
  ·cases h
  ·split at h
   ·cases h
   ·rename_i n1 h1
    split at h
    ·cases h
    ·have := lightSets_mono h1; have := lightPhases_mono h; omega
theorem lightPhases_all : ∀ {l : List Ph} {n n' : Int}, lightPhases n l = some n' → n' ≤ 60 → ∀ p ∈ l, p.frozen.length ≤ 12 ∧ p.sets.length ≤ 30 ∧ ∀ s ∈ p.sets, s.nodes.length ≤ 60
 | [], n, n', h, hn => fun s hs => by simp at hs
 | x :: r, n, n', h, hn => fun p hp => by
  unfold lightPhases at h
  split at h
  ·cases h
  ·rename_i hb
   split at h
   ·cases h
   ·rename_i n1 h1
    split at h
    ·cases h
    ·rcases List.mem_cons.1 hp with rfl | hp
     ·have := lightPhases_mono h
      simp only [lightHead, Bool.or_eq_true, decide_eq_true_eq, not_or] at hb
      exact ⟨by omega, by omega, lightSets_all h1 (by omega)⟩
     ·exact lightPhases_all h hn p hp
def Rc.wide (R : Rc) : Prop := okStr R.name ∧ (∀ s ∈ R.metrics, okStr s) ∧ (∀ s ∈ R.groups, okStr s) ∧ (∀ p ∈ R.phases, okStr p.name ∧ (∀ s ∈ p.frozen, okStr s) ∧ ∀ s ∈ p.sets, okStr s.group) ∧ okStr R.stopMetric ∧ okStr R.plateauMetric ∧ okStr R.keepMetric
instance (R : Rc) : Decidable R.wide := by unfold Rc.wide; exact inferInstance
structure Rc.Lit (R : Rc) : Prop where
 metrics : R.metrics.length ≤ 12
 groups : R.groups.length ≤ 12
 phases : R.phases.length ≤ 20
 each : ∀ p ∈ R.phases, p.frozen.length ≤ 12 ∧ p.sets.length ≤ 30 ∧ ∀ s ∈ p.sets, s.nodes.length ≤ 60
theorem light_lit {R : Rc} (h : R.light = true) : R.Lit := by
 unfold Rc.light Rc.lightTop at h
 simp only [Bool.and_eq_true, Bool.not_eq_true', Bool.or_eq_false_iff, decide_eq_false_iff_not] at h
 obtain ⟨⟨_, h1, h2, h3, _⟩, h4⟩ := h
 split at h4
 ·cases h4
 ·rename_i n hn
  simp only [Bool.and_eq_true, decide_eq_true_eq] at h4
  exact ⟨by omega, by omega, by omega, lightPhases_all hn h4.2⟩
def lightG : List AV → Mem → Option (AV × Mem)
 | [.agg cs], m =>
  match unRc cs with
  | some R => some (.v (.bool R.light), m)
  | none => none
 | _, _ => none
theorem lightG_at {R : Rc} {m : Mem} : lightG [.agg R.row] m = some (.v (.bool R.light), m) := by
 simp only [lightG, unRc_row]
def kpLight : Nat → Option (List Nat) := fun
 | 0 => some [1]
 | 1 => some [1, 47]
 | 2 => some [2]
 | 3 => some [1, 3]
 | 4 => some [1, 3, 4]
 | 5 => some [1, 3, 4, 52]
 | 6 => some [1, 3, 4]
 | 7 => some [1, 3, 4, 5]
 | 8 => some [1, 3, 4, 5, 79]
 | 9 => some [2]
 | 10 => some [1, 3, 4, 5, 6]
 | 11 => some [1, 3, 4, 5, 6, 88]
 | 12 => some [1, 3, 4, 5, 6]
 | 13 => some [1, 3, 4, 5, 6, 108]
 | 14 => some [2]
 | 15 => some [1, 3, 4, 5, 6]
 | 16 => some [1, 3, 4, 5, 7]
 | 17 => some [1, 3, 4, 5, 7, 122]
 | 18 => some [1, 3, 4, 5, 7]
 | 19 => some [1, 3, 4, 5, 7, 131]
 | 20 => some [2]
 | 21 => some [1, 3, 8]
 | 22 => some [1, 3, 8, 140]
 | 23 => some [1, 3, 8]
 | 24 => some [1, 3, 8, 176]
 | 25 => some [2]
 | 26 => some [2]
 | _ => none
attribute [go_sem] kpLight
theorem light_ok : FunOk Try.prog 5 lightG := by
 have hC := table_ok (P := Try.prog) (l := []) table_nil
 refine fun_ok mixed hC Try.func5 rfl kpLight false rfl fun args m r h => ?_
 unfold lightG at h
 split at h
 ·rename_i cs
  split at h
  ·rename_i R hR
   obtain rfl := unRc_some hR
   simp only [Option.some.injEq] at h
   subst h
   refine ⟨Nat.le_of_ble_eq_true rfl, ?_⟩
   refine en ?_
   have hA := above_push (cs := R.row) (above_self m)
   have hv : (m.push R.row).var m.vars.length = some R.row := push_var
   have nr := newRc (m := m) (x := R)
   generalize m.push R.row = m1 at hA hv nr
   have fin : ∀ (e : Env) (m' : Mem) (b : Bool), Above m m' → Ev.get e 2 = .v (.bool b) → R.light = b → Leaves Try.prog false Try.f5 m (.v (.bool R.light), m) .ret e m' := fun e m' b hA' h1 h2 => by rw [h2]; exact leaves_fin rfl h1 (above_fin hA')
   have a1 := lpRcName hv
   have a2 := lpRcMetrics hv
   have a3 := lpRcGroups hv
   have a4 := lpRcPhases hv
   have a5 := lpRcStopMetric hv
   have a6 := lpRcPlateauMetric hv
   have a7 := lpRcKeepMetric hv
   refine go1 @nr ?_
   refine ops_rcut [(1, .ptr m.vars.length 0), (47, .v (.bool R.lightTop))] m1 ?_ ?_
   ·unfold Rc.lightTop bigS
    repeat' (first | refine gos1 (jn @a1 (jn @a2 (jn @a3 (jn @a4 (jn @a5 (jn @a6 @a7)))))) ?_ | (refine ops_here ?_; (fail_if_success (refine ops_case (B := true) rfl rfl rfl ?_ ?_)); (fail_if_success (refine ops_case (B := false) rfl rfl rfl ?_ ?_)); refine ops_case rfl rfl rfl (fun hB => ?_) (fun hB => ?_) <;> rw [hB]) | (refine runs_here ?_; refine runs_cond rfl (fun hc => ?_) (fun hc => ?_) <;> first | (cases hc; done) | skip))
    all_goals refine ⟨?_, rfl⟩
    all_goals first | rfl | (simp_all; done)
   repeat (first | refine next_normal ?_ | refine runs_seq ?_)
   refine runs_cond rfl (fun hc => ?_) (fun hc => ?_)
   ·have e1 : R.light = false := by unfold Rc.light; rw [hc]; rfl
    refine go0 ?_
    exact fin _ _ _ hA rfl e1
   have hlt : R.metrics.length ≤ 12 ∧ R.groups.length ≤ 12 ∧ R.phases.length ≤ 20 := by
    unfold Rc.lightTop at hc
    simp only [Bool.or_eq_false_iff, decide_eq_false_iff_not] at hc
    omega
   have eL : R.light = (match lightPhases 0 R.phases with
    | none => false
    | some n => !((R.metrics ++ R.groups).any (bigS 40)) && decide (n ≤ 60)) := by unfold Rc.light; rw [hc]; rfl
   refine go0 ?_
   refine runs_loop (fun k e m' => ∃ (i : Nat) (n : Int), i ≤ R.phases.length ∧ 0 ≤ n ∧ n ≤ 120 ∧ lightPhases n (R.phases.drop i) = lightPhases 0 R.phases ∧ Above m m' ∧ m'.var m.vars.length = some R.row ∧ k = R.phases.length - i ∧
    e = [(1, AV.ptr m.vars.length 0), (3, .v (.int .i64 n)), (4, .v (.int .i64 (i : Int)))]) (k := R.phases.length) ⟨0, 0, Nat.zero_le _, by omega, by omega, rfl, hA, hv, rfl, rfl⟩ ?_
   rintro k e m2 ⟨i, n, hi0, hn0, hn1, hf, hA2, hv2, rfl, rfl⟩
   have l1 := lpRcPhases hv2
   refine go1 @l1 ?_
   refine runs_cond rfl (fun hc => ?_) (fun hc => ?_)
   ·have hi1 : i < R.phases.length := by have := of_decide_eq_true hc; omega
    have f1 := atPh (g := .no) (kk := .i64) hi1
    rw [drop_next (d := ph0) hi1] at hf
    have r6 := next_i64 (i := i) (by omega)
    generalize R.phases.getD i ph0 = p at f1 hf
    have z1 := zsPh (m := m2) (x := p)
    have hA3 := above_push (cs := p.row) hA2
    have hv3 := push_old (cs' := p.row) hv2
    have hp3 : (m2.push p.row).var m2.vars.length = some p.row := push_var
    generalize m2.push p.row = m3 at z1 hA3 hv3 hp3
    have bad : ∀ e m', Above m m' → Ev.get e 2 = .v (.bool false) → lightPhases n (p :: R.phases.drop (i + 1)) = none → Leaves Try.prog false Try.f5 m (.v (.bool R.light), m) .ret e m' := fun e m' hA' hg hb => fin e m' false hA' hg (by rw [eL, ← hf, hb])
    refine go1 (jn @l1 (jn @f1 @z1)) ?_
    generalize m2.vars.length = n4 at hp3 ⊢
    have y1 := lpPhName hp3
    have y3 := lpPhFrozen hp3
    have y4 := lpPhSets hp3
    refine ops_rcut [(1, .ptr m.vars.length 0), (3, .v (.int .i64 n)), (4, .v (.int .i64 (i : Int))), (5, .ptr n4 0), (79, .v (.bool (lightHead p n)))] m3 ?_ ?_
    ·unfold lightHead bigS
     repeat' (first | refine gos1 (jn @y1 (jn @y3 @y4)) ?_ | (refine ops_here ?_; (fail_if_success (refine ops_case (B := true) rfl rfl rfl ?_ ?_)); (fail_if_success (refine ops_case (B := false) rfl rfl rfl ?_ ?_)); refine ops_case rfl rfl rfl (fun hB => ?_) (fun hB => ?_) <;> rw [hB]) | (refine runs_here ?_; refine runs_cond rfl (fun hc => ?_) (fun hc => ?_) <;> first | (cases hc; done) | skip))
     all_goals refine ⟨?_, rfl⟩
     all_goals first | rfl | (simp_all; done)
    repeat (first | refine next_normal ?_ | refine runs_seq ?_)
    refine runs_cond rfl (fun hc => ?_) (fun hc => ?_)
    ·refine go0 ?_
     exact bad _ _ hA3 rfl (by unfold lightPhases; rw [hc]; rfl)
    have zh := hc
    have hP : lightPhases n (p :: R.phases.drop (i + 1)) = match lightSets n p.sets with
     | none => none
     | some n' => if p.frozen.any (bigS 40) then none else lightPhases n' (R.phases.drop (i + 1)) := by
      conv => lhs; unfold lightPhases
      rw [zh]; rfl
    have hlen : p.frozen.length ≤ 12 ∧ p.sets.length ≤ 30 ∧ n ≤ 60 := by
     unfold lightHead at zh
     simp only [Bool.or_eq_false_iff, decide_eq_false_iff_not] at zh
     omega
    refine go0 ?_
    refine runs_loop (fun k e m' => ∃ (j : Nat) (n' : Int), j ≤ p.sets.length ∧ 0 ≤ n' ∧ n' ≤ 120 ∧ lightSets n' (p.sets.drop j) = lightSets n p.sets ∧ m3 = m' ∧ k = p.sets.length - j ∧
     e = [(1, AV.ptr m.vars.length 0), (3, .v (.int .i64 n')), (4, .v (.int .i64 (i : Int))), (5, .ptr n4 0), (6, .v (.int .i64 (j : Int)))]) (k := p.sets.length) ⟨0, n, Nat.zero_le _, hn0, hn1, rfl, rfl, rfl, rfl⟩ ?_
    rintro k e m5 ⟨j, n', hj0, hn3, hn4, hS, rfl, rfl, rfl⟩
    refine go0 ?_
    refine ops_rcut [(1, .ptr m.vars.length 0), (3, .v (.int .i64 n')), (4, .v (.int .i64 (i : Int))), (5, .ptr n4 0), (6, .v (.int .i64 (j : Int))), (88, .v (.bool (decide ((j : Int) < (p.sets.length : Int)) && decide (n' ≤ 60))))] m3 ?_ ?_
    ·cases q1 : decide ((j : Int) < (p.sets.length : Int)) with
     | true =>
      refine go1 (jn @y4 @q1) ?_
      exact ⟨by rw [Bool.true_and], rfl⟩
     | false =>
      refine go1 (jn @y4 @q1) ?_
      exact ⟨rfl, rfl⟩
    repeat (first | refine next_normal ?_ | refine runs_seq ?_)
    refine runs_cond rfl (fun hc => ?_) (fun hc => ?_)
    ·simp only [Bool.and_eq_true, decide_eq_true_eq] at hc
     have hj1 : j < p.sets.length := by omega
     have f2 := atGs (g := .no) (kk := .i64) hj1
     rw [drop_next (d := gs0) hj1] at hS
     generalize p.sets.getD j gs0 = s at f2 hS
     have r7 := next_i64 (i := j) (by omega)
     have hS2 : lightSets n' (s :: p.sets.drop (j + 1)) = if bigS 40 s.group || decide ((s.nodes.length : Int) > 60) then none else lightSets (n' + (s.nodes.length : Int)) (p.sets.drop (j + 1)) := by
      conv => lhs; unfold lightSets
      rw [if_pos hc.2]
     rw [hS2] at hS
     refine go1 (jn @y4 @f2) ?_
     refine ops_rcut [(1, .ptr m.vars.length 0), (3, .v (.int .i64 n')), (4, .v (.int .i64 (i : Int))), (5, .ptr n4 0), (6, .v (.int .i64 (j : Int))), (108, .v (.bool (bigS 40 s.group || decide ((s.nodes.length : Int) > 60))))] m3 ?_ ?_
     ·unfold bigS
      cases q1 : decide ((s.group.size : Int) > 40) with
      | true =>
       refine go1 @q1 ?_
       exact ⟨rfl, rfl⟩
      | false =>
       refine go1 (jn @q1 (jn @y4 @f2)) ?_
       exact ⟨by rw [Bool.false_or], rfl⟩
     repeat (first | refine next_normal ?_ | refine runs_seq ?_)
     refine runs_cond rfl (fun hb => ?_) (fun hb => ?_)
     ·refine go0 ?_
      rw [hb, if_pos rfl] at hS
      exact bad _ _ hA3 rfl (by rw [hP, ← hS])
     ·rw [hb, if_neg (by decide)] at hS
      simp only [Bool.or_eq_false_iff, decide_eq_false_iff_not] at hb
      have r8 : IntKind.i64.wrap (n' + (s.nodes.length : Int)) = n' + (s.nodes.length : Int) := i64_wrap (by omega) (by omega)
      refine go1 (jn @y4 (jn @f2 (jn @r8 @r7))) ?_
      exact ⟨p.sets.length - (j + 1), by omega, j + 1, n' + (s.nodes.length : Int), hj1, by omega, by omega, hS, rfl, rfl, rfl⟩
    have hS3 : lightSets n p.sets = some n' := by
     rw [← hS]
     by_cases hj1 : j < p.sets.length
     ·rw [drop_next (d := gs0) hj1]
      unfold lightSets
      rw [if_neg]
      intro h60
      rw [decide_eq_true (show (j : Int) < (p.sets.length : Int) by omega), decide_eq_true h60] at hc
      cases hc
     ·rw [List.drop_eq_nil_of_le (by omega)]
      rfl
    rw [hS3] at hP
    simp only at hP
    refine go0 ?_
    refine runs_loop (fun k e m' => ∃ (j : Nat), j ≤ p.frozen.length ∧ firstBy (bigS 40) (p.frozen.drop j) j = firstBy (bigS 40) p.frozen 0 ∧ m3 = m' ∧ k = p.frozen.length - j ∧
     e = [(1, AV.ptr m.vars.length 0), (3, .v (.int .i64 n')), (4, .v (.int .i64 (i : Int))), (5, .ptr n4 0), (7, .v (.int .i64 (j : Int)))]) (k := p.frozen.length) ⟨0, Nat.zero_le _, rfl, rfl, rfl, rfl⟩ ?_
    rintro k e m6 ⟨j, hj0, hg, rfl, rfl, rfl⟩
    refine go1 @y3 ?_
    refine runs_cond rfl (fun hc => ?_) (fun hc => ?_)
    ·have hj1 : j < p.frozen.length := by have := of_decide_eq_true hc; omega
     have f2 := atStrs (g := .no) (kk := .i64) hj1
     have syes := fun hp => firstBy_yes (d := (⟨#[]⟩ : ByteArray)) (p := bigS 40) hj1 hp
     have sno := fun hp => by_no (d := (⟨#[]⟩ : ByteArray)) hj1 hp hg
     have r7 := next_i64 (i := j) (by omega)
     generalize p.frozen.getD j ⟨#[]⟩ = s at f2 syes sno
     refine go1 (jn @y3 @f2) ?_
     refine runs_cond rfl (fun hc => ?_) (fun hc => ?_)
     ·refine go0 ?_
      exact bad _ _ hA3 rfl (by rw [hP, syes hc]; rfl)
     ·refine go1 @r7 ?_
      exact ⟨p.frozen.length - (j + 1), by omega, j + 1, hj1, sno hc, rfl, rfl, rfl⟩
    ·have hj1 : j = p.frozen.length := by have := of_decide_eq_false hc; omega
     subst hj1
     rw [firstBy_no hg, if_neg (by decide)] at hP
     refine go1 @r6 ?_
     exact ⟨R.phases.length - (i + 1), by omega, i + 1, n', hi1, hn3, hn4, by rw [← hP, hf], hA3, hv3, rfl, rfl⟩
   ·have hi1 : i = R.phases.length := by have := of_decide_eq_false hc; omega
    subst hi1
    rw [List.drop_length] at hf
    rw [← hf] at eL
    have eL' : R.light = (!((R.metrics ++ R.groups).any (bigS 40)) && decide (n ≤ 60)) := eL
    generalize hL : R.metrics ++ R.groups = L at eL'
    have hLl : L.length = R.metrics.length + R.groups.length := by rw [← hL, List.length_append]
    have w0 : IntKind.i64.wrap ((R.metrics.length : Int) + (R.groups.length : Int)) = (L.length : Int) := by rw [i64_wrap (by omega) (by omega)]; omega
    refine go0 ?_
    refine runs_loop (fun k e m' => ∃ (i : Nat), i ≤ L.length ∧ firstBy (bigS 40) (L.drop i) i = firstBy (bigS 40) L 0 ∧ m2 = m' ∧ k = L.length - i ∧
     e = [(1, AV.ptr m.vars.length 0), (3, .v (.int .i64 n)), (8, .v (.int .i64 (i : Int)))]) (k := L.length) ⟨0, Nat.zero_le _, rfl, rfl, rfl, rfl⟩ ?_
    rintro k e m7 ⟨i, hi0, hg, rfl, rfl, rfl⟩
    have y1 := lpRcMetrics hv2
    have y2 := lpRcGroups hv2
    refine go1 (jn @y1 (jn @y2 @w0)) ?_
    refine runs_cond rfl (fun hc => ?_) (fun hc => ?_)
    ·have hi1 : i < L.length := by have := of_decide_eq_true hc; omega
     have syes := fun hp => firstBy_yes (d := (⟨#[]⟩ : ByteArray)) (p := bigS 40) hi1 hp
     have sno := fun hp => by_no (d := (⟨#[]⟩ : ByteArray)) hi1 hp hg
     have r7 := next_i64 (i := i) (by omega)
     refine go0 ?_
     refine ops_rcut [(1, .ptr m.vars.length 0), (3, .v (.int .i64 n)), (8, .v (.int .i64 (i : Int))), (176, .v (.bool (bigS 40 (L.getD i ⟨#[]⟩))))] m2 ?_ ?_
     ·by_cases hm : i < R.metrics.length
      ·have b0 : decide ((i : Int) < (R.metrics.length : Int)) = true := decide_eq_true (by omega)
       have b1 : decide ((i : Int) ≥ (R.metrics.length : Int)) = false := decide_eq_false (by omega)
       have f2 := atStrs (g := .no) (kk := .i64) hm
       have e0 : L.getD i ⟨#[]⟩ = R.metrics.getD i ⟨#[]⟩ := by rw [← hL]; simp [List.getD, List.getElem?_append_left hm]
       rw [e0]
       generalize R.metrics.getD i ⟨#[]⟩ = s at f2
       unfold bigS
       cases q1 : decide ((s.size : Int) > 40) with
       | true =>
        refine go1 (jn @y1 (jn @b0 (jn @f2 @q1))) ?_
        exact ⟨rfl, rfl⟩
       | false =>
        refine go1 (jn @y1 (jn @b0 (jn @f2 (jn @q1 @b1)))) ?_
        exact ⟨rfl, rfl⟩
      ·have b0 : decide ((i : Int) < (R.metrics.length : Int)) = false := decide_eq_false (by omega)
       have b1 : decide ((i : Int) ≥ (R.metrics.length : Int)) = true := decide_eq_true (by omega)
       have hm2 : i - R.metrics.length < R.groups.length := by omega
       have f2 := atStrs (g := .no) (kk := .i64) hm2
       have r8 : IntKind.i64.wrap ((i : Int) - (R.metrics.length : Int)) = ((i - R.metrics.length : Nat) : Int) := by rw [i64_wrap (by omega) (by omega)]; omega
       have e0 : L.getD i ⟨#[]⟩ = R.groups.getD (i - R.metrics.length) ⟨#[]⟩ := by rw [← hL]; simp [List.getD, List.getElem?_append_right (Nat.le_of_not_lt hm)]
       rw [e0]
       generalize R.groups.getD (i - R.metrics.length) ⟨#[]⟩ = s at f2
       unfold bigS
       refine go1 (jn @y1 (jn @b0 (jn @b1 (jn @y2 (jn @r8 @f2))))) ?_
       exact ⟨rfl, rfl⟩
     repeat (first | refine next_normal ?_ | refine runs_seq ?_)
     refine runs_cond rfl (fun hb => ?_) (fun hb => ?_)
     ·refine go0 ?_
      exact fin _ _ _ hA2 rfl (by rw [eL', syes hb]; rfl)
     ·refine go1 @r7 ?_
      exact ⟨L.length - (i + 1), by omega, i + 1, hi1, sno hb, rfl, rfl, rfl⟩
    ·have hi1 : i = L.length := by have := of_decide_eq_false hc; omega
     subst hi1
     rw [firstBy_no hg] at eL'
     refine go0 ?_
     exact fin _ _ _ hA2 rfl (eL'.trans (by rw [Bool.not_false, Bool.true_and]))
  ·cases h
 ·cases h
end
noncomputable section
attribute [local irreducible] Next Inside Runs Ops table
def withS (R : Rc) (σ : Pl → Option Int) : Rc := { R with phases := docS σ R.phases }
theorem withS_sets (R : Rc) (σ : Pl → Option Int) (p : Pl) : (setsAt (withS R σ) p).length = (setsAt R p).length := by
 show (setsOf (docS σ R.phases) p.phase.toNat).length = (setsOf R.phases p.phase.toNat).length
 rw [setsOf_docS, List.length_mapIdx]
theorem withS_nodes (R : Rc) (σ : Pl → Option Int) (p : Pl) : nodesAt (withS R σ) p = nodesS σ p.phase.toNat p.set.toNat (nodesAt R p) :=
 nodesOf_docS σ R.phases p.phase.toNat p.set.toNat
theorem withS_there (R : Rc) (σ : Pl → Option Int) (p : Pl) : thereB (withS R σ) p = thereB R p := by
 unfold thereB here1 here2
 rw [withS_sets, withS_nodes, nodesS_len, show (withS R σ).phases.length = R.phases.length from docS_len σ R.phases]
theorem withS_val {R : Rc} {σ : Pl → Option Int} {p : Pl} {v : Int} (h : thereB R p = true) (hv : σ p = some v) : fldN (nodeV (withS R σ) p) p.field = v := by
 obtain ⟨h1, h2, h3, h4, h5, h6, h7, h8⟩ := there_iff.1 h
 have hk : p.node.toNat < (nodesAt R p).length := by omega
 have hn : nodeV (withS R σ) p = setS σ p.phase.toNat p.set.toNat p.node.toNat ((nodesAt R p).getD p.node.toNat nd0) := by
  unfold nodeV
  rw [withS_nodes]
  simp only [nodesS, List.getD, List.getElem?_mapIdx, List.getElem?_eq_getElem hk, Option.map_some, Option.getD_some]
 rw [hn]
 have hp : ∀ f : Int, p.field = f → (⟨((p.phase.toNat : Nat) : Int), ((p.set.toNat : Nat) : Int), ((p.node.toNat : Nat) : Int), f⟩ : Pl) = p := fun f e => by
  obtain ⟨a, b, c, d⟩ := p
  simp only at *
  subst e
  congr 1 <;> omega
 have hf : p.field = 0 ∨ p.field = 1 ∨ p.field = 2 := by omega
 rcases hf with e | e | e
 ·show fldN _ _ = v
  rw [e]
  show (σ _).getD _ = v
  rw [hp 0 e, hv]
  rfl
 ·rw [e]
  show (σ _).getD _ = v
  rw [hp 1 e, hv]
  rfl
 ·rw [e]
  show (σ _).getD _ = v
  rw [hp 2 e, hv]
  rfl
theorem withS_small {R : Rc} {σ : Pl → Option Int} (h : ∀ p ∈ R.phases, p.frozen.length ≤ 12 ∧ p.sets.length ≤ 30 ∧ ∀ s ∈ p.sets, s.nodes.length ≤ 60) : ∀ p ∈ (withS R σ).phases, p.frozen.length ≤ 12 ∧ p.sets.length ≤ 30 ∧ ∀ s ∈ p.sets, s.nodes.length ≤ 60 := by
 intro p hp
 obtain ⟨i, hi, rfl⟩ := List.mem_mapIdx.1 hp
 obtain ⟨a, b, c⟩ := h _ (List.getElem_mem hi)
 refine ⟨a, by show (List.mapIdx _ _).length ≤ 30; rw [List.length_mapIdx]; exact b, fun s hs => ?_⟩
 obtain ⟨j, hj, rfl⟩ := List.mem_mapIdx.1 hs
 show (nodesS _ _ _ _).length ≤ 60
 rw [nodesS_len]
 exact c _ (List.getElem_mem hj)
theorem lit_comp {R : Rc} (h : R.Lit) (σ : Pl → Option Int) : (withS R σ).comp := by
 refine ⟨Nat.le_trans h.metrics (by decide), Nat.le_trans h.groups (by decide), by show (docS σ R.phases).length ≤ _; rw [docS_len]; exact Nat.le_trans h.phases (by decide), fun p hp => ?_⟩
 obtain ⟨a, b, c⟩ := withS_small (σ := σ) h.each p hp
 exact ⟨by omega, by omega, fun s hs => by have := c s hs; omega⟩
theorem lit_lens {R : Rc} (h : R.Lit) (σ : Pl → Option Int) : (withS R σ).lens := by
 obtain ⟨_, _, c, d⟩ := lit_comp h σ
 have b : 1000000 ≤ big40 := by decide
 refine ⟨by omega, fun p hp => ?_⟩
 obtain ⟨_, d2, d3⟩ := d p hp
 exact ⟨by omega, fun s hs => by have := d3 s hs; omega⟩
theorem withS_none (R : Rc) : withS R (fun _ => none) = R := by unfold withS; rw [docS_none]
theorem lit_small {R : Rc} (h : R.Lit) : R.small := by
 have := lit_comp h (fun _ => none)
 rw [withS_none] at this
 obtain ⟨_, _, c, d⟩ := this
 exact ⟨c, fun p hp => ⟨(d p hp).2.1, (d p hp).2.2⟩⟩
theorem lastV_at {l : List Ax} {c : List Int} {i : Nat} (hu : ∀ a b, b < a → a < l.length → (l.getD b ax0).pl ≠ (l.getD a ax0).pl) (hi : i < l.length) : ∀ n, i < n → n ≤ l.length → lastV l c n (l.getD i ax0).pl = some (valC l c i)
 | 0, h, _ => by omega
 | n + 1, h, hn => by
  show updS (lastV l c n) (l.getD n ax0).pl (valC l c n) _ = _
  unfold updS
  by_cases e : i = n
  ·subst e
   rw [if_pos rfl]
  ·rw [if_neg (hu n i (by omega) (by omega))]
   exact lastV_at hu hi n (by omega) (by omega)
theorem choice_chosen {l : List Ax} {n : Nat} (hb : badL l = false) (hl : l.length ≤ 100) : chosen l (choiceL l n) := by
 refine ⟨hl, choiceL_len l n, fun i hi => ?_⟩
 rw [choiceL_get hi]
 have hpos := ((good_lens hb).2 ((lensA l).getD i 0) (by rw [List.getD_eq_getElem?_getD, List.getElem?_eq_getElem (by rw [lensA_len]; exact hi)]; exact List.getElem_mem ..)).1
 rw [lensA_get hi] at hpos
 have := Nat.mod_lt (n / prodL ((lensA l).drop (i + 1))) hpos
 omega
end
section
attribute [local irreducible] Next Inside Runs Ops table
theorem ty_int {d : Nat} {p : List AV} (h : Typed Try.prog (d + 1) 3 p) : ∃ n, inI n ∧ p = [iv n] := by
 unfold Typed at h
 rw [Try.underlying3] at h
 obtain ⟨n, rfl, n0, n1⟩ := h
 simp [IntKind.min, IntKind.max, IntKind.signed, IntKind.bits] at n0 n1
 exact ⟨n, ⟨n0, n1⟩, rfl⟩
theorem ty_bool {d : Nat} {p : List AV} (h : Typed Try.prog (d + 1) 4 p) : ∃ b, p = [.v (.bool b)] := by
 unfold Typed at h
 rw [Try.underlying4] at h
 exact h
theorem ty_str {d : Nat} {p : List AV} (h : Typed Try.prog (d + 1) 9 p) : ∃ s, okStr s ∧ p = [.v (.string s)] := by
 unfold Typed at h
 rw [Try.underlying9] at h
 obtain ⟨s, rfl, h1⟩ := h
 exact ⟨s, h1, rfl⟩
theorem ty_strs {d : Nat} : ∀ {rows : List (List AV)}, (∀ row ∈ rows, Typed Try.prog (d + 1) 9 row) → ∃ l, (∀ s ∈ l, okStr s) ∧ rows = rowsS l
 | [], _ => ⟨[], (fun s hs => by simp at hs), rfl⟩
 | row :: rows, h => by
  obtain ⟨l, h1, rfl⟩ := ty_strs fun r hr => h r (List.mem_cons_of_mem _ hr)
  obtain ⟨s, h2, rfl⟩ := ty_str (h row (List.mem_cons_self ..))
  refine ⟨s :: l, fun x hx => ?_, rfl⟩
  rcases List.mem_cons.1 hx with rfl | hx
  ·exact h2
  ·exact h1 x hx
theorem ty_strsP {d : Nat} {p : List AV} (h : Typed Try.prog (d + 2) 22 p) : ∃ l, (∀ s ∈ l, okStr s) ∧ p = [.lst .no 1 (rowsS l)] := by
 unfold Typed at h
 rw [Try.underlying22] at h
 obtain ⟨rows, rfl, _, h2⟩ := h
 obtain ⟨l, h3, rfl⟩ := ty_strs h2
 exact ⟨l, h3, by rw [size_cells szStr]⟩
theorem ty_nodesP {d : Nat} {p : List AV} (h : Typed Try.prog (d + 4) 67 p) : ∃ l, OkN l ∧ p = [.lst .no 7 (rowsN l)] := by
 unfold Typed at h
 rw [Try.underlying67] at h
 obtain ⟨rows, rfl, _, h2⟩ := h
 obtain ⟨l, h3, rfl⟩ := rows_nodes h2
 exact ⟨l, h3, by rw [size_cells szNode]⟩
theorem ty_len {d : Nat} {p : List AV} (h : Typed Try.prog (d + 2) 33 p) : ∃ u n, p = [iv u, iv n] := by
 unfold Typed at h
 rw [Try.underlying33] at h
 obtain ⟨parts, rfl, hl, h⟩ := h
 match parts, hl with
 | [p0, p1], _ =>
  obtain ⟨a, a0, rfl⟩ := ty_int (h 0 _ p0 rfl rfl)
  obtain ⟨b, b0, rfl⟩ := ty_int (h 1 _ p1 rfl rfl)
  exact ⟨a, b, rfl⟩
theorem ty_gs {d : Nat} {p : List AV} (h : Typed Try.prog (d + 5) 69 p) : ∃ x : Gs, okStr x.group ∧ p = x.row := by
 unfold Typed at h
 rw [Try.underlying69] at h
 obtain ⟨parts, rfl, hl, h⟩ := h
 match parts, hl with
 | [p0, p1, p2], _ =>
  obtain ⟨a, a0, rfl⟩ := ty_str (h 0 _ p0 rfl rfl)
  obtain ⟨b, b0, rfl⟩ := ty_int (h 1 _ p1 rfl rfl)
  obtain ⟨c, c0, rfl⟩ := ty_nodesP (h 2 _ p2 rfl rfl)
  exact ⟨⟨a, b, c⟩, a0, rfl⟩
theorem ty_gss {d : Nat} : ∀ {rows : List (List AV)}, (∀ row ∈ rows, Typed Try.prog (d + 5) 69 row) → ∃ l : List Gs, (∀ s ∈ l, okStr s.group) ∧ rows = rowsGs l
 | [], _ => ⟨[], (fun s hs => by simp at hs), rfl⟩
 | row :: rows, h => by
  obtain ⟨l, h1, rfl⟩ := ty_gss fun r hr => h r (List.mem_cons_of_mem _ hr)
  obtain ⟨s, h2, rfl⟩ := ty_gs (h row (List.mem_cons_self ..))
  refine ⟨s :: l, fun x hx => ?_, rfl⟩
  rcases List.mem_cons.1 hx with rfl | hx
  ·exact h2
  ·exact h1 x hx
theorem ty_gssP {d : Nat} {p : List AV} (h : Typed Try.prog (d + 6) 64 p) : ∃ l : List Gs, (∀ s ∈ l, okStr s.group) ∧ p = [.lst .no 3 (rowsGs l)] := by
 unfold Typed at h
 rw [Try.underlying64] at h
 obtain ⟨rows, rfl, _, h2⟩ := h
 obtain ⟨l, h3, rfl⟩ := ty_gss h2
 exact ⟨l, h3, by rw [size_cells szGs]⟩
def Ph.wide (p : Ph) : Prop := okStr p.name ∧ (∀ s ∈ p.frozen, okStr s) ∧ ∀ s ∈ p.sets, okStr s.group
theorem ty_ph {d : Nat} {p : List AV} (h : Typed Try.prog (d + 7) 66 p) : ∃ x : Ph, x.wide ∧ p = x.row := by
 unfold Typed at h
 rw [Try.underlying66] at h
 obtain ⟨parts, rfl, hl, h⟩ := h
 match parts, hl with
 | [p0, p1, p2, p3], _ =>
  obtain ⟨a, a0, rfl⟩ := ty_str (h 0 _ p0 rfl rfl)
  obtain ⟨u, n, rfl⟩ := ty_len (h 1 _ p1 rfl rfl)
  obtain ⟨b, b0, rfl⟩ := ty_strsP (h 2 _ p2 rfl rfl)
  obtain ⟨c, c0, rfl⟩ := ty_gssP (h 3 _ p3 rfl rfl)
  exact ⟨⟨a, u, n, b, c⟩, ⟨a0, b0, c0⟩, rfl⟩
theorem ty_phs {d : Nat} : ∀ {rows : List (List AV)}, (∀ row ∈ rows, Typed Try.prog (d + 7) 66 row) → ∃ l : List Ph, (∀ s ∈ l, s.wide) ∧ rows = rowsPh l
 | [], _ => ⟨[], (fun s hs => by simp at hs), rfl⟩
 | row :: rows, h => by
  obtain ⟨l, h1, rfl⟩ := ty_phs fun r hr => h r (List.mem_cons_of_mem _ hr)
  obtain ⟨s, h2, rfl⟩ := ty_ph (h row (List.mem_cons_self ..))
  refine ⟨s :: l, fun x hx => ?_, rfl⟩
  rcases List.mem_cons.1 hx with rfl | hx
  ·exact h2
  ·exact h1 x hx
theorem ty_phsP {d : Nat} {p : List AV} (h : Typed Try.prog (d + 8) 23 p) : ∃ l : List Ph, (∀ s ∈ l, s.wide) ∧ p = [.lst .no 5 (rowsPh l)] := by
 unfold Typed at h
 rw [Try.underlying23] at h
 obtain ⟨rows, rfl, _, h2⟩ := h
 obtain ⟨l, h3, rfl⟩ := ty_phs h2
 exact ⟨l, h3, by rw [size_cells szPh]⟩
theorem ty_tp {d : Nat} {p : List AV} (h : Typed Try.prog (d + 2) 25 p) : ∃ x : Tp, okStr x.Metric ∧ p = x.row := by
 unfold Typed at h
 rw [Try.underlying25] at h
 obtain ⟨parts, rfl, hl, h⟩ := h
 match parts, hl with
 | [p0, p1, p2, p3, p4, p5], _ =>
  obtain ⟨a, rfl⟩ := ty_bool (h 0 _ p0 rfl rfl)
  obtain ⟨b, b0, rfl⟩ := ty_str (h 1 _ p1 rfl rfl)
  obtain ⟨c, rfl⟩ := ty_bool (h 2 _ p2 rfl rfl)
  obtain ⟨e, e0, rfl⟩ := ty_int (h 3 _ p3 rfl rfl)
  obtain ⟨f, f0, rfl⟩ := ty_int (h 4 _ p4 rfl rfl)
  obtain ⟨g, rfl⟩ := ty_bool (h 5 _ p5 rfl rfl)
  exact ⟨⟨a, b, c, e, f, g⟩, b0, rfl⟩
theorem ty_pt {d : Nat} {p : List AV} (h : Typed Try.prog (d + 2) 27 p) : ∃ x : Pt, okStr x.Metric ∧ p = x.row := by
 unfold Typed at h
 rw [Try.underlying27] at h
 obtain ⟨parts, rfl, hl, h⟩ := h
 match parts, hl with
 | [p0, p1, p2, p3, p4, p5, p6, p7], _ =>
  obtain ⟨a, rfl⟩ := ty_bool (h 0 _ p0 rfl rfl)
  obtain ⟨b, b0, rfl⟩ := ty_str (h 1 _ p1 rfl rfl)
  obtain ⟨c, rfl⟩ := ty_bool (h 2 _ p2 rfl rfl)
  obtain ⟨e, e0, rfl⟩ := ty_int (h 3 _ p3 rfl rfl)
  obtain ⟨f, f0, rfl⟩ := ty_int (h 4 _ p4 rfl rfl)
  obtain ⟨g, g0, rfl⟩ := ty_int (h 5 _ p5 rfl rfl)
  obtain ⟨i, i0, rfl⟩ := ty_int (h 6 _ p6 rfl rfl)
  obtain ⟨j, j0, rfl⟩ := ty_int (h 7 _ p7 rfl rfl)
  exact ⟨⟨a, b, c, e, f, g, i, j⟩, b0, rfl⟩
theorem ty_kp {d : Nat} {p : List AV} (h : Typed Try.prog (d + 2) 29 p) : ∃ x : Kp, okStr x.Metric ∧ p = x.row := by
 unfold Typed at h
 rw [Try.underlying29] at h
 obtain ⟨parts, rfl, hl, h⟩ := h
 match parts, hl with
 | [p0, p1, p2, p3], _ =>
  obtain ⟨a, rfl⟩ := ty_bool (h 0 _ p0 rfl rfl)
  obtain ⟨b, b0, rfl⟩ := ty_str (h 1 _ p1 rfl rfl)
  obtain ⟨c, rfl⟩ := ty_bool (h 2 _ p2 rfl rfl)
  obtain ⟨e, e0, rfl⟩ := ty_int (h 3 _ p3 rfl rfl)
  exact ⟨⟨a, b, c, e⟩, b0, rfl⟩
theorem ty_em {d : Nat} {p : List AV} (h : Typed Try.prog (d + 2) 31 p) : ∃ x : Em, p = x.row := by
 unfold Typed at h
 rw [Try.underlying31] at h
 obtain ⟨parts, rfl, hl, h⟩ := h
 match parts, hl with
 | [p0, p1], _ =>
  obtain ⟨a, rfl⟩ := ty_bool (h 0 _ p0 rfl rfl)
  obtain ⟨b, b0, rfl⟩ := ty_int (h 1 _ p1 rfl rfl)
  exact ⟨⟨a, b⟩, rfl⟩
theorem ty_sw {d : Nat} {p : List AV} (h : Typed Try.prog (d + 3) 35 p) : ∃ x : Sw, p = x.row := by
 unfold Typed at h
 rw [Try.underlying35] at h
 obtain ⟨parts, rfl, hl, h⟩ := h
 match parts, hl with
 | [p0, p1, p2], _ =>
  obtain ⟨a, rfl⟩ := ty_bool (h 0 _ p0 rfl rfl)
  obtain ⟨u, n, rfl⟩ := ty_len (h 1 _ p1 rfl rfl)
  obtain ⟨b, b0, rfl⟩ := ty_int (h 2 _ p2 rfl rfl)
  exact ⟨⟨a, u, n, b⟩, rfl⟩
theorem ty_rc {d : Nat} {p : List AV} (h : Typed Try.prog (d + 9) 37 p) : ∃ R : Rc, R.wide ∧ (inI R.steps ∧ inI R.epoch ∧ inI R.eval) ∧ p = R.row := by
 unfold Typed at h
 rw [Try.underlying37] at h
 obtain ⟨parts, rfl, hl, h⟩ := h
 match parts, hl with
 | [p0, p1, p2, p3, p4, p5, p6, p7, p8, p9, p10, p11, p12], _ =>
  obtain ⟨c0, a0, rfl⟩ := ty_str (h 0 _ p0 rfl rfl)
  obtain ⟨c1, a1, rfl⟩ := ty_int (h 1 _ p1 rfl rfl)
  obtain ⟨c2, a2, rfl⟩ := ty_int (h 2 _ p2 rfl rfl)
  obtain ⟨c3, a3, rfl⟩ := ty_int (h 3 _ p3 rfl rfl)
  obtain ⟨c4, a4, rfl⟩ := ty_strsP (h 4 _ p4 rfl rfl)
  obtain ⟨c5, a5, rfl⟩ := ty_strsP (h 5 _ p5 rfl rfl)
  obtain ⟨c6, a6, rfl⟩ := ty_int (h 6 _ p6 rfl rfl)
  obtain ⟨c7, a7, rfl⟩ := ty_phsP (h 7 _ p7 rfl rfl)
  obtain ⟨s, s0, rfl⟩ := ty_tp (h 8 _ p8 rfl rfl)
  obtain ⟨t, t0, rfl⟩ := ty_pt (h 9 _ p9 rfl rfl)
  obtain ⟨k, k0, rfl⟩ := ty_kp (h 10 _ p10 rfl rfl)
  obtain ⟨e, rfl⟩ := ty_em (h 11 _ p11 rfl rfl)
  obtain ⟨w, rfl⟩ := ty_sw (h 12 _ p12 rfl rfl)
  exact ⟨⟨c0, c1, c2, c3, c4, c5, c6, c7, s.On, s.Metric, s.Max, s.Patience, s.Delta, s.Rel, t.On, t.Metric, t.Max, t.Factor, t.Patience, t.Cooldown, t.Floor, t.Delta, k.On, k.Metric, k.Max, k.Count, e.On, e.Decay, w.On, w.FromU, w.FromN, w.Every⟩, ⟨a0, a4, a5, a7, s0, t0, k0⟩, ⟨a1, a2, a6⟩, rfl⟩
theorem arg_rc {d : Nat} {a : AV} (h : TypedArg Try.prog (d + 9) 37 a) : ∃ R : Rc, R.wide ∧ (inI R.steps ∧ inI R.epoch ∧ inI R.eval) ∧ a = .agg R.row := by
 unfold TypedArg at h
 rw [Try.underlying37] at h
 obtain ⟨cs, rfl, h⟩ := h
 obtain ⟨R, h1, h2, rfl⟩ := ty_rc h
 exact ⟨R, h1, h2, rfl⟩
end
section
attribute [local irreducible] Next Inside Runs Ops table
theorem ty_place {d : Nat} {p : List AV} (h : Typed Try.prog (d + 2) 50 p) : ∃ a b c e, p = [iv a, iv b, iv c, iv e] := by
 unfold Typed at h
 rw [Try.underlying50] at h
 obtain ⟨parts, rfl, hl, h⟩ := h
 match parts, hl with
 | [p0, p1, p2, p3], _ =>
  obtain ⟨a, a0, rfl⟩ := ty_int (h 0 _ p0 rfl rfl)
  obtain ⟨b, b0, rfl⟩ := ty_int (h 1 _ p1 rfl rfl)
  obtain ⟨c, c0, rfl⟩ := ty_int (h 2 _ p2 rfl rfl)
  obtain ⟨e, e0, rfl⟩ := ty_int (h 3 _ p3 rfl rfl)
  exact ⟨a, b, c, e, rfl⟩
theorem ty_ints {d : Nat} : ∀ {rows : List (List AV)}, (∀ row ∈ rows, Typed Try.prog (d + 1) 3 row) → ∃ l, rows = rowsI l
 | [], _ => ⟨[], rfl⟩
 | row :: rows, h => by
  obtain ⟨l, rfl⟩ := ty_ints fun r hr => h r (List.mem_cons_of_mem _ hr)
  obtain ⟨s, h2, rfl⟩ := ty_int (h row (List.mem_cons_self ..))
  exact ⟨s :: l, rfl⟩
theorem ty_intsP {d : Nat} {p : List AV} (h : Typed Try.prog (d + 2) 51 p) : ∃ l, p = [.lst .no 1 (rowsI l)] := by
 unfold Typed at h
 rw [Try.underlying51] at h
 obtain ⟨rows, rfl, _, h2⟩ := h
 obtain ⟨l, rfl⟩ := ty_ints h2
 exact ⟨l, by rw [size_cells szInt]⟩
theorem ty_ax {d : Nat} {p : List AV} (h : Typed Try.prog (d + 3) 53 p) : ∃ x : Ax, p = x.row := by
 unfold Typed at h
 rw [Try.underlying53] at h
 obtain ⟨parts, rfl, hl, h⟩ := h
 match parts, hl with
 | [p0, p1], _ =>
  obtain ⟨a, b, c, e, rfl⟩ := ty_place (h 0 _ p0 rfl rfl)
  obtain ⟨l, rfl⟩ := ty_intsP (h 1 _ p1 rfl rfl)
  exact ⟨⟨a, b, c, e, l⟩, rfl⟩
theorem ty_axs {d : Nat} : ∀ {rows : List (List AV)}, (∀ row ∈ rows, Typed Try.prog (d + 3) 53 row) → ∃ l, rows = rowsAx l
 | [], _ => ⟨[], rfl⟩
 | row :: rows, h => by
  obtain ⟨l, rfl⟩ := ty_axs fun r hr => h r (List.mem_cons_of_mem _ hr)
  obtain ⟨s, rfl⟩ := ty_ax (h row (List.mem_cons_self ..))
  exact ⟨s :: l, rfl⟩
theorem arg_axs {d : Nat} {a : AV} (h : TypedArg Try.prog (d + 4) 38 a) : ∃ l, a = .lst .no 5 (rowsAx l) := by
 obtain ⟨rows, rfl, _, h2⟩ := arg_slice Try.underlying38 h
 obtain ⟨l, rfl⟩ := ty_axs h2
 exact ⟨l, by rw [size_cells szAx]⟩
end
end Go.Proofs.Ytmockbddhhmmeaa.Ev
