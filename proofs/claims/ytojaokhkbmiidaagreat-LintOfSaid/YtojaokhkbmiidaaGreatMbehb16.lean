/- The lint and the document's say the same of the run's end: late, slow. -/
import Derived.Test.YtojaokhkbmiidaaGreatMbehb14
import Derived.Test.YtojaokhkbmiidaaGreatMbehb15
import Derived.Test.YtojaokhkbmiidaaGreatMbehb3
import Derived.Test.YtojaokhkbmiidaaGreatMa6
import Derived.Test.YtojaokhkbmiidaaGreatMbehb12
import Derived.Test.YtojaokhkbmiidaaGreatMbehb1
import Derived.Test.YtojaokhkbmiidaaGreatMbehb2
namespace Go.Proofs.YtojaokhkbmiidaaGreat.Ev
open Go Go.Proofs
set_option maxRecDepth 10000
set_option maxHeartbeats 8000000
set_option linter.unusedVariables false
set_option linter.unusedSimpArgs false
section
attribute [local irreducible] Next Inside Runs Ops table
/-- How many steps before `n` look. -/
def cntLook (R : Rc) : Nat → Nat
 | 0 => 0
 | n + 1 => cntLook R n + (if rlookB R (n : Int) = true then 1 else 0)
theorem cntLook_le (R : Rc) : ∀ n, cntLook R n ≤ n
 | 0 => Nat.le_refl _
 | n + 1 => by
  have := cntLook_le R n
  rw [cntLook]
  split <;> omega
theorem cntLook_is {R : Rc} {e : Nat} (he : R.eval = (e : Int)) (h0 : 0 < e) : ∀ n, cntLook R n = n / e
 | 0 => (Nat.zero_div _).symm
 | n + 1 => by
  have hs : rlookB R (n : Int) = decide ((n + 1) % e = 0) := by
   rw [← look_same (by omega)]
   unfold lookB
   rw [he, decide_eq_true (by omega), Bool.true_and, Int.tmod_eq_emod_of_nonneg (by omega)]
   rw [Bool.eq_iff_iff]
   simp only [beq_iff_eq, decide_eq_true_eq]
   rw [show ((n : Int) + 1) = ((n + 1 : Nat) : Int) by omega]
   constructor
   ·intro h; exact_mod_cast h
   ·intro h; exact_mod_cast h
  rw [cntLook, cntLook_is he h0 n, hs, Nat.succ_div]
  by_cases h : (n + 1) % e = 0
  ·rw [if_pos (decide_eq_true h), if_pos (Nat.dvd_of_mod_eq_zero h)]
  ·rw [if_neg (by simpa using h), if_neg (fun hd => h (Nat.mod_eq_zero_of_dvd hd))]
theorem slow_same {R : Rc} {n : Nat} (hn : R.steps = (n : Int)) (hon : R.stopOn = true → 0 < R.eval) : slowB R = (R.stopOn && decide (R.stopPatience ≥ ((cntLook R n : Nat) : Int))) := by
 unfold slowB
 cases ho : R.stopOn with
 | false => rfl
 | true =>
  have hpos := hon ho
  obtain ⟨e, he⟩ := Int.eq_ofNat_of_zero_le (show 0 ≤ R.eval by omega)
  rw [cntLook_is he (by omega), hn, he]
  have hm : mx (e : Int) 1 = (e : Int) := by unfold mx; rw [if_neg (by omega)]
  rw [hm, Int.tdiv_eq_ediv_of_nonneg (by omega)]
  rfl
/-- No step before `n` is an average's. -/
def noSwa (R : Rc) : Nat → Bool
 | 0 => R.swaOn
 | n + 1 => noSwa R n && !swaIs R R.swaSteps.1 (n : Int)
theorem noSwa_off {R : Rc} (h : R.swaOn = false) : ∀ n, noSwa R n = false
 | 0 => h
 | n + 1 => by rw [noSwa, noSwa_off h n, Bool.false_and]
theorem noSwa_is {R : Rc} {f : Nat} (ho : R.swaOn = true) (hf : R.swaSteps.1 = (f : Int)) : ∀ n, noSwa R n = decide (n ≤ f)
 | 0 => by rw [decide_eq_true (Nat.zero_le _)]; exact ho
 | n + 1 => by
  rw [noSwa, noSwa_is ho hf n, hf]
  by_cases h : n < f
  ·rw [decide_eq_true (show n ≤ f by omega), decide_eq_true (show n + 1 ≤ f by omega)]
   unfold swaIs
   rw [decide_eq_false (show ¬ (n : Int) ≥ (f : Int) by omega), Bool.false_and, Bool.and_false]
   rfl
  ·rw [decide_eq_false (show ¬ n + 1 ≤ f by omega)]
   by_cases h2 : n = f
   ·subst h2
    unfold swaIs
    rw [ho, decide_eq_true (show (n : Int) ≥ (n : Int) by omega), show ((n : Int) - (n : Int)) = 0 by omega, Int.zero_tmod]
    simp
   ·rw [decide_eq_false (show ¬ n ≤ f by omega), Bool.false_and]
theorem late_same {R : Rc} {n : Nat} (hn : R.steps = (n : Int)) : lateB R = noSwa R n := by
 unfold lateB
 cases ho : R.swaOn with
 | false => rw [noSwa_off ho]; rfl
 | true =>
  obtain ⟨f, hf⟩ := Int.eq_ofNat_of_zero_le (@sound_from R).1
  rw [noSwa_is ho hf, hf, hn, Bool.true_and, Bool.eq_iff_iff]
  simp only [decide_eq_true_eq]
  omega
theorem sound_eval {R : Rc} (h : R.sound = true) : R.stopOn = true → 0 < R.eval := fun ho => by
 have hn := (Rc.may_num (sound_may h)).eval
 have b : flawIf (R.endBad 14) 14 0 0 = [] := sound_brk h 14 (by decide) (by decide)
 have e : R.endBad 14 = (R.stopOn && (R.blind R.stopMetric || (R.stopPatience == 0))) := rfl
 by_cases h0 : R.eval = 0
 ·have hb : R.blind R.stopMetric = true := by
   unfold Rc.blind
   rw [h0]
   simp
  rw [e, ho, hb] at b
  cases b
 ·omega
/-- All groups are frozen in the phase: not one of them is not. -/
theorem still_all {R : Rc} {p : Int} : (!stillB R p) = (frozenAt R p).all id := by
 unfold stillB
 generalize frozenAt R p = l
 induction l with
 | nil => rfl
 | cons a l ih => cases a <;> simp_all
end
noncomputable section
attribute [local irreducible] Next Inside Runs Ops table
attribute [local go_sem] szStr szInt Option.getD_some isNil evStr iv loadStr loadInt mapRc cellsRc newRc fpRcGroups fpRcPhases fpRcMetrics fpRcStop fpRcStopOn fpRcStopMetric fpRcPlateau fpRcPlateauOn fpRcPlateauMetric fpRcKeep fpRcKeepOn fpRcKeepMetric rowsS_len rowsPh_len rowsFl_len mkFl mkFl2 mkFl1 mkFls1 mkFl0 fePhSets lePhSets feGsNodes leGsNodes feSpFrom_ leSpFrom_ feSpTo_ leSpTo_ rowsGs_len rowsN_len rowsSp_len fpRcSteps fpRcEpoch fpRcSwa fpRcSwaOn fpRcStopPatience
theorem all_take_next {l : List Bool} {i : Nat} (hi : i < l.length) : (l.take (i + 1)).all id = ((l.take i).all id && l.getD i false) := by
 rw [take_next (d := false) hi, List.all_append]
 simp
def kOf (q : Nat) : Nat := if q = 0 then 63 else 65
theorem kOf_cases (q : Nat) (h : q < 2) : (q = 0 ∧ kOf q = 63) ∨ (q = 1 ∧ kOf q = 65) := by
 rcases (show q = 0 ∨ q = 1 by omega) with rfl | rfl
 ·exact .inl ⟨rfl, rfl⟩
 ·exact .inr ⟨rfl, rfl⟩
/-- What is told of the sets by the rules before `4 + q`. -/
def ruleTo (R : Rc) (A : List Fl) : Nat → List Fl
 | 0 => A
 | q + 1 => ruleTo R A q ++ outerTo R (kOf q) (4 + (q : Int)) R.phases.length
theorem ruleTo_next (R : Rc) (A : List Fl) {q : Nat} (h : q < 2) : ruleTo R A (q + 1) = ruleTo R A q ++ outerTo R (kOf q) (4 + (q : Int)) R.phases.length := rfl
theorem ruleTo_len {R : Rc} (h : R.small) (A : List Fl) : ∀ {q : Nat}, q ≤ 2 → (ruleTo R A q).length ≤ A.length + q * (R.phases.length * 64)
 | 0, _ => by simp [ruleTo]
 | q + 1, hq => by
  have h1 := ruleTo_len h A (q := q) (by omega)
  have h2 := outerTo_len h (kOf q) (4 + (q : Int)) R.phases.length
  rw [ruleTo, List.length_append, Nat.add_mul]
  omega
theorem lint_parts {R : Rc} (hs : R.sound = true) (A1 A2 A3 : List Fl) (h1 : A1 = lidleTo R R.groups.length) (h2 : A2 = A1 ++ lstillTo R R.phases.length) (h3 : A3 = A2 ++ lblindTo R R.metrics.length) :
  lintL R = (ruleTo R A3 2 ++ (if lateB R = true then [⟨6, 0, 0⟩] else [])) ++ (if slowB R = true then [⟨7, 0, 0⟩] else []) := by
 unfold lintL
 rw [if_pos hs, h3, h2, h1]
 rfl
def ref55G : List AV → Mem → Option (AV × Mem)
 | [.agg cs], m =>
  match unRc cs with
  | some R => if R.fit ∧ R.sound = true then some (.lst .no 3 (rowsFl (lintL R)), m) else none
  | none => none
 | _, _ => none
theorem ref55G_at {m : Mem} {R : Rc} (h : R.fit) (h1 : R.sound = true) : ref55G [.agg R.row] m = some (.lst .no 3 (rowsFl (lintL R)), m) := by
 simp only [ref55G, unRc_row]
 rw [if_pos ⟨h, h1⟩]
def kpRef55 : Nat → Option (List Nat) := fun
 | 0 => some [1]
 | 1 => some [1, 3]
 | 2 => some [1, 3, 4]
 | 3 => some [1, 3, 4, 23]
 | 4 => some [1, 3, 4]
 | 5 => some [1, 3, 4, 32]
 | 6 => some [1, 3, 4]
 | 7 => some [1, 3, 5]
 | 8 => some [1, 3, 5, 42]
 | 9 => some [1, 3, 5]
 | 10 => some [1, 3, 5, 6]
 | 11 => some [1, 3, 5, 6, 7]
 | 12 => some [1, 3, 5, 6, 7, 49]
 | 13 => some [1, 3, 5, 6, 7]
 | 14 => some [1, 3, 5, 6, 7]
 | 15 => some [1, 3, 5, 59]
 | 16 => some [1, 3, 5]
 | 17 => some [1, 3, 8]
 | 18 => some [1, 3, 8, 69]
 | 19 => some [1, 3, 8]
 | 20 => some [1, 3, 8, 9]
 | 21 => some [1, 3, 8, 113]
 | 22 => some [1, 3, 8]
 | 23 => some [1, 3, 10]
 | 24 => some [1, 3, 10, 11]
 | 25 => some [1, 3, 10, 11, 122]
 | 26 => some [1, 3, 10, 11]
 | 27 => some [1, 3, 10, 11, 12]
 | 28 => some [1, 3, 10, 11, 12, 129]
 | 29 => some [1, 3, 10, 11, 12]
 | 30 => some [1, 3, 10, 11, 12, 13]
 | 31 => some [1, 3, 10, 11, 12, 13, 140]
 | 32 => some [1, 3, 10, 11, 12, 13]
 | 33 => some [1, 3, 10, 11, 12, 13, 14]
 | 34 => some [1, 3, 10, 11, 12, 13, 179]
 | 35 => some [1, 3, 10, 11, 12, 13]
 | 36 => some [1, 3, 15]
 | 37 => some [1, 3, 15, 16]
 | 38 => some [1, 3, 15, 16, 17]
 | 39 => some [1, 3, 15, 16, 17, 193]
 | 40 => some [1, 3, 15, 16, 17]
 | 41 => some [1, 3, 15, 16, 17]
 | 42 => some [1, 3, 15, 16, 17, 205]
 | 43 => some [1, 3, 15, 16, 17]
 | 44 => some [1, 3, 16, 208]
 | 45 => some [1, 3, 16]
 | 46 => some [3, 222]
 | 47 => some [3]
 | 48 => some [2]
 | _ => none
attribute [go_sem] kpRef55
def tab_ref55_ok : List (FuncId × (List AV → Mem → Option (AV × Mem))) := [(68, ridleG), (55, frozenRG), (19, rspansG), (69, rzeroG), (70, rlostG), (29, rswaG), (28, rlookG)]
theorem ref55_ok : FunOk Tryz.prog 35 ref55G := by
 have hC := table_ok (P := Tryz.prog) (l := tab_ref55_ok) (table_more ridle_ok (table_more frozenR_ok (table_more spans22_ok (table_more rzero_ok (table_more rlost_ok (table_more rswa_ok (table_more rlook_ok table_nil)))))))
 have t1 := fun args mm => table_at (l := tab_ref55_ok) (f := 68) (args := args) (m := mm) rfl
 have t2 := fun args mm => table_at (l := tab_ref55_ok) (f := 55) (args := args) (m := mm) rfl
 have t3 := fun args mm => table_at (l := tab_ref55_ok) (f := 19) (args := args) (m := mm) rfl
 have t4 := fun args mm => table_at (l := tab_ref55_ok) (f := 69) (args := args) (m := mm) rfl
 have t5 := fun args mm => table_at (l := tab_ref55_ok) (f := 70) (args := args) (m := mm) rfl
 have t6 := fun args mm => table_at (l := tab_ref55_ok) (f := 29) (args := args) (m := mm) rfl
 have t7 := fun args mm => table_at (l := tab_ref55_ok) (f := 28) (args := args) (m := mm) rfl
 refine fun_ok mixed hC Tryz.func35 rfl kpRef55 false rfl fun args m r h => ?_
 unfold ref55G at h
 split at h
 ·rename_i cs
  split at h
  ·rename_i R hR
   obtain rfl := unRc_some hR
   split at h
   ·rename_i hyp
    obtain ⟨hfit, hs⟩ := hyp
    simp only [Option.some.injEq] at h
    subst h
    refine ⟨Nat.le_of_ble_eq_true rfl, ?_⟩
    refine en ?_
    have hsm := Rc.may_small (sound_may hs)
    have hG64 := hsm.2.1
    have hG0 : GrowsA m .full (m.push R.row) := growsA_push growsA_full
    have hv : (m.push R.row).var m.vars.length = some R.row := push_var
    have nr := newRc (m := m) (x := R)
    generalize m.push R.row = m1 at hG0 hv nr
    refine go1 @nr ?_
    generalize m.vars.length = n1 at hv ⊢
    refine runs_loop (fun k e m' => ∃ (i : Nat) (gr : Grow), i ≤ R.groups.length ∧ GrowsA m gr m' ∧ m'.var n1 = some R.row ∧ k = R.groups.length - i ∧
     e = [(1, AV.ptr n1 0), (3, .lst gr 3 (rowsFl (lidleTo R i))), (4, .v (.int .i64 (i : Int)))]) (k := R.groups.length) ⟨0, _, Nat.zero_le _, hG0, hv, rfl, rfl⟩ ?_
    rintro k e m' ⟨i, gr, hi0, hG, hv1, rfl, rfl⟩
    have l1 := lpRcGroups hv1
    have l0 := vrRc hv1
    refine go1 @l1 ?_
    refine runs_cond rfl (fun hc => ?_) (fun hc => ?_)
    ·have hi1 : i < R.groups.length := by have := of_decide_eq_true hc; omega
     have f1 := atStrs (g := .no) (kk := .i64) hi1
     have hN : lidleTo R (i + 1) = lidleTo R i ++ (if (!idleB R (R.groups.getD i ⟨#[]⟩)) = true then [⟨1, (i : Int), 0⟩] else []) := rfl
     have hll := lidleTo_len R i
     have r6 := next_i64 (i := i) (by omega)
     have c1 := fun s mm => ridleG_at (R := R) (s := s) (m := mm) hsm
     generalize R.groups.getD i ⟨#[]⟩ = s at f1 hN
     refine go0 ?_
     refine runs_ops_drawn_tight (by kernel_rfl) (by kernel_rfl) ?_
     refine go1 (jn @l0 (jn @l1 (jn @f1 (jn @t1 @c1)))) ?_
     refine runs_cond rfl (fun hc => ?_) (fun hc => ?_)
     ·rw [if_pos hc] at hN
      obtain ⟨g3, m3, a1, hG3, hV3⟩ := app_fl (g2 := .full) hG (lidleTo R i) 1 (i : Int) 0 (by omega)
      rw [← hN] at a1
      refine go1 (jn @a1 @r6) ?_
      exact ⟨R.groups.length - (i + 1), by omega, i + 1, _, hi1, hG3, by rw [hV3]; exact hv1, rfl, rfl⟩
     ·rw [if_neg (by rw [hc]; decide), List.append_nil] at hN
      refine go1 @r6 ?_
      exact ⟨R.groups.length - (i + 1), by omega, i + 1, gr, hi1, hG, hv1, rfl, by rw [hN]⟩
    ·have hi1 : i = R.groups.length := by have := of_decide_eq_false hc; omega
     subst hi1
     have hl1 := lidleTo_len R R.groups.length
     have hP64 := hsm.2.2.1
     have eL : ∃ A1, A1 = lidleTo R R.groups.length := ⟨_, rfl⟩
     obtain ⟨A1, hA1⟩ := eL
     rw [← hA1] at hl1
     rw [← hA1]
     refine go0 ?_
     refine runs_loop (fun k e m' => ∃ (i : Nat) (gr : Grow), i ≤ R.phases.length ∧ GrowsA m gr m' ∧ m'.var n1 = some R.row ∧ k = R.phases.length - i ∧
      e = [(1, AV.ptr n1 0), (3, .lst gr 3 (rowsFl (A1 ++ lstillTo R i))), (5, .v (.int .i64 (i : Int)))]) (k := R.phases.length) ⟨0, gr, Nat.zero_le _, hG, hv1, rfl, by rw [show lstillTo R 0 = [] from rfl, List.append_nil]; rfl⟩ ?_
     rintro k e m2 ⟨i, gr2, hi0, hG2, hv2, rfl, rfl⟩
     have l2 := lpRcPhases hv2
     refine go1 @l2 ?_
     refine runs_cond rfl (fun hc => ?_) (fun hc => ?_)
     ·have hi1 : i < R.phases.length := by have := of_decide_eq_true hc; omega
      have hfl : (frozenAt R (i : Int)).length = R.groups.length := by unfold frozenAt; rw [if_pos ⟨by omega, by omega⟩, List.length_map]
      have hN : lstillTo R (i + 1) = lstillTo R i ++ (if (!stillB R (i : Int)) = true then [⟨2, (i : Int), 0⟩] else []) := rfl
      rw [still_all] at hN
      have hll := lstillTo_len R i
      have r6 := next_i64 (i := i) (by omega)
      have c2 := fun (j : Nat) (hj : j < R.groups.length) mm => frozenRG_at (R := R) (p := (i : Int)) (g := j) (m := mm) hsm hj
      generalize frozenAt R (i : Int) = F at hfl hN c2
      refine go0 ?_
      refine runs_loop (fun k e m' => ∃ (j : Nat), j ≤ R.groups.length ∧ m' = m2 ∧ k = R.groups.length - j ∧
       e = [(1, AV.ptr n1 0), (3, .lst gr2 3 (rowsFl (A1 ++ lstillTo R i))), (5, .v (.int .i64 (i : Int))), (6, .v (.bool ((F.take j).all id))), (7, .v (.int .i64 (j : Int)))]) (k := R.groups.length) ⟨0, Nat.zero_le _, rfl, rfl, rfl⟩ ?_
      rintro k e m' ⟨j, hj0, rfl, rfl, rfl⟩
      have l3 := lpRcGroups hv2
      have l4 := vrRc hv2
      refine go1 @l3 ?_
      refine runs_cond rfl (fun hc => ?_) (fun hc => ?_)
      ·have hj1 : j < R.groups.length := by have := of_decide_eq_true hc; omega
       have hN2 := all_take_next (l := F) (i := j) (by omega)
       have c3 := c2 j hj1
       have r7 := next_i64 (i := j) (by omega)
       cases hb : (F.take j).all id with
       | false =>
        rw [hb, Bool.false_and] at hN2
        refine go1 @r7 ?_
        exact ⟨R.groups.length - (j + 1), by omega, j + 1, hj1, rfl, rfl, by rw [hN2]⟩
       | true =>
        rw [hb, Bool.true_and] at hN2
        refine go1 (jn @l4 (jn @t2 (jn @c3 @r7))) ?_
        exact ⟨R.groups.length - (j + 1), by omega, j + 1, hj1, rfl, rfl, by rw [hN2]⟩
      ·have hj1 : j = F.length := by have := of_decide_eq_false hc; omega
       subst hj1
       rw [List.take_length]
       refine go0 ?_
       refine runs_cond rfl (fun hc => ?_) (fun hc => ?_)
       ·rw [if_pos hc] at hN
        obtain ⟨g3, m3, a1, hG3, hV3⟩ := app_fl (g2 := .full) hG2 (A1 ++ lstillTo R i) 2 (i : Int) 0 (by rw [List.length_append]; omega)
        rw [List.append_assoc, ← hN] at a1
        refine go1 (jn @a1 @r6) ?_
        exact ⟨R.phases.length - (i + 1), by omega, i + 1, _, hi1, hG3, by rw [hV3]; exact hv2, rfl, rfl⟩
       ·rw [if_neg (by rw [hc]; decide), List.append_nil] at hN
        refine go1 @r6 ?_
        exact ⟨R.phases.length - (i + 1), by omega, i + 1, gr2, hi1, hG2, hv2, rfl, by rw [hN]⟩
     ·have hi1 : i = R.phases.length := by have := of_decide_eq_false hc; omega
      subst hi1
      have hl2 := lstillTo_len R R.phases.length
      obtain ⟨A2, hA2⟩ : ∃ A2, A2 = A1 ++ lstillTo R R.phases.length := ⟨_, rfl⟩
      have hl3 : A2.length ≤ 128 := by rw [hA2, List.length_append]; omega
      rw [← hA2]
      have hM64 := hsm.1
      refine go0 ?_
      refine runs_loop (fun k e m' => ∃ (i : Nat) (gr : Grow), i ≤ R.metrics.length ∧ GrowsA m gr m' ∧ m'.var n1 = some R.row ∧ k = R.metrics.length - i ∧
       e = [(1, AV.ptr n1 0), (3, .lst gr 3 (rowsFl (A2 ++ lblindTo R i))), (8, .v (.int .i64 (i : Int)))]) (k := R.metrics.length) ⟨0, gr2, Nat.zero_le _, hG2, hv2, rfl, by rw [show lblindTo R 0 = [] from rfl, List.append_nil]; rfl⟩ ?_
      rintro k e m3 ⟨i, gr3, hi0, hG3, hv3, rfl, rfl⟩
      have l3 := lpRcMetrics hv3
      refine go1 @l3 ?_
      refine runs_cond rfl (fun hc => ?_) (fun hc => ?_)
      ·have hi1 : i < R.metrics.length := by have := of_decide_eq_true hc; omega
       have f1 := atStrs (g := .no) (kk := .i64) hi1
       have hN : lblindTo R (i + 1) = lblindTo R i ++ (if (!readsB R (R.metrics.getD i ⟨#[]⟩)) = true then [⟨3, (i : Int), 0⟩] else []) := rfl
       have hll := lblindTo_len R i
       have r6 := next_i64 (i := i) (by omega)
       generalize R.metrics.getD i ⟨#[]⟩ = s at f1 hN
       have a1' := lpRcStopOn hv3
       have a2 := lpRcStopMetric hv3
       have b1 := lpRcPlateauOn hv3
       have b2 := lpRcPlateauMetric hv3
       have d1 := lpRcKeepOn hv3
       have d2 := lpRcKeepMetric hv3
       have hB : readsB R s = ((R.stopOn && (R.stopMetric == s)) || ((R.plateauOn && (R.plateauMetric == s)) || (R.keepOn && (R.keepMetric == s)))) := rfl
       have w1 : (!true) = false := rfl
       have w2 : (!false) = true := rfl
       obtain ⟨g4, m4, a1, hG4, hV4⟩ := app_fl (g2 := .full) hG3 (A2 ++ lblindTo R i) 3 (i : Int) 0 (by rw [List.length_append]; omega)
       rw [List.append_assoc] at a1
       cases p0 : R.stopOn with
       | false =>
        cases p1 : R.plateauOn with
        | false =>
         cases p2 : R.keepOn with
         | false =>
          have hb : readsB R s = false := by rw [hB, p0, p1, p2]; rfl
          rw [hb, if_pos (by rfl)] at hN
          rw [← hN] at a1
          refine go1 (jn @l3 (jn @f1 (jn @a1' (jn @p0 (jn @b1 (jn @p1 (jn @d1 (jn @p2 (jn @w1 @w2))))))))) ?_
          refine runs_cond rfl (fun hc => ?_) (fun hc => by cases hc)
          refine go1 (jn @a1 @r6) ?_
          exact ⟨R.metrics.length - (i + 1), by omega, i + 1, _, hi1, hG4, by rw [hV4]; exact hv3, rfl, rfl⟩
         | true =>
          cases q2 : (R.keepMetric == s) with
          | false =>
           have hb : readsB R s = false := by rw [hB, p0, p1, p2, q2]; rfl
           rw [hb, if_pos (by rfl)] at hN
           rw [← hN] at a1
           refine go1 (jn @l3 (jn @f1 (jn @a1' (jn @p0 (jn @b1 (jn @p1 (jn @d1 (jn @p2 (jn @d2 (jn @q2 (jn @w1 @w2))))))))))) ?_
           refine runs_cond rfl (fun hc => ?_) (fun hc => by cases hc)
           refine go1 (jn @a1 @r6) ?_
           exact ⟨R.metrics.length - (i + 1), by omega, i + 1, _, hi1, hG4, by rw [hV4]; exact hv3, rfl, rfl⟩
          | true =>
           have hb : readsB R s = true := by rw [hB, p0, p1, p2, q2]; rfl
           rw [hb, if_neg (by decide), List.append_nil] at hN
           refine go1 (jn @l3 (jn @f1 (jn @a1' (jn @p0 (jn @b1 (jn @p1 (jn @d1 (jn @p2 (jn @d2 (jn @q2 (jn @w1 @w2))))))))))) ?_
           refine runs_cond rfl (fun hc => by cases hc) (fun hc => ?_)
           refine go1 @r6 ?_
           exact ⟨R.metrics.length - (i + 1), by omega, i + 1, gr3, hi1, hG3, hv3, rfl, by rw [hN]⟩
        | true =>
         cases q1 : (R.plateauMetric == s) with
         | false =>
          cases p2 : R.keepOn with
          | false =>
           have hb : readsB R s = false := by rw [hB, p0, p1, q1, p2]; rfl
           rw [hb, if_pos (by rfl)] at hN
           rw [← hN] at a1
           refine go1 (jn @l3 (jn @f1 (jn @a1' (jn @p0 (jn @b1 (jn @p1 (jn @b2 (jn @q1 (jn @d1 (jn @p2 (jn @w1 @w2))))))))))) ?_
           refine runs_cond rfl (fun hc => ?_) (fun hc => by cases hc)
           refine go1 (jn @a1 @r6) ?_
           exact ⟨R.metrics.length - (i + 1), by omega, i + 1, _, hi1, hG4, by rw [hV4]; exact hv3, rfl, rfl⟩
          | true =>
           cases q2 : (R.keepMetric == s) with
           | false =>
            have hb : readsB R s = false := by rw [hB, p0, p1, q1, p2, q2]; rfl
            rw [hb, if_pos (by rfl)] at hN
            rw [← hN] at a1
            refine go1 (jn @l3 (jn @f1 (jn @a1' (jn @p0 (jn @b1 (jn @p1 (jn @b2 (jn @q1 (jn @d1 (jn @p2 (jn @d2 (jn @q2 (jn @w1 @w2))))))))))))) ?_
            refine runs_cond rfl (fun hc => ?_) (fun hc => by cases hc)
            refine go1 (jn @a1 @r6) ?_
            exact ⟨R.metrics.length - (i + 1), by omega, i + 1, _, hi1, hG4, by rw [hV4]; exact hv3, rfl, rfl⟩
           | true =>
            have hb : readsB R s = true := by rw [hB, p0, p1, q1, p2, q2]; rfl
            rw [hb, if_neg (by decide), List.append_nil] at hN
            refine go1 (jn @l3 (jn @f1 (jn @a1' (jn @p0 (jn @b1 (jn @p1 (jn @b2 (jn @q1 (jn @d1 (jn @p2 (jn @d2 (jn @q2 (jn @w1 @w2))))))))))))) ?_
            refine runs_cond rfl (fun hc => by cases hc) (fun hc => ?_)
            refine go1 @r6 ?_
            exact ⟨R.metrics.length - (i + 1), by omega, i + 1, gr3, hi1, hG3, hv3, rfl, by rw [hN]⟩
         | true =>
          have hb : readsB R s = true := by rw [hB, p0, p1, q1]; rfl
          rw [hb, if_neg (by decide), List.append_nil] at hN
          refine go1 (jn @l3 (jn @f1 (jn @a1' (jn @p0 (jn @b1 (jn @p1 (jn @b2 (jn @q1 (jn @w1 @w2))))))))) ?_
          refine runs_cond rfl (fun hc => by cases hc) (fun hc => ?_)
          refine go1 @r6 ?_
          exact ⟨R.metrics.length - (i + 1), by omega, i + 1, gr3, hi1, hG3, hv3, rfl, by rw [hN]⟩
       | true =>
        cases q0 : (R.stopMetric == s) with
        | false =>
         cases p1 : R.plateauOn with
         | false =>
          cases p2 : R.keepOn with
          | false =>
           have hb : readsB R s = false := by rw [hB, p0, q0, p1, p2]; rfl
           rw [hb, if_pos (by rfl)] at hN
           rw [← hN] at a1
           refine go1 (jn @l3 (jn @f1 (jn @a1' (jn @p0 (jn @a2 (jn @q0 (jn @b1 (jn @p1 (jn @d1 (jn @p2 (jn @w1 @w2))))))))))) ?_
           refine runs_cond rfl (fun hc => ?_) (fun hc => by cases hc)
           refine go1 (jn @a1 @r6) ?_
           exact ⟨R.metrics.length - (i + 1), by omega, i + 1, _, hi1, hG4, by rw [hV4]; exact hv3, rfl, rfl⟩
          | true =>
           cases q2 : (R.keepMetric == s) with
           | false =>
            have hb : readsB R s = false := by rw [hB, p0, q0, p1, p2, q2]; rfl
            rw [hb, if_pos (by rfl)] at hN
            rw [← hN] at a1
            refine go1 (jn @l3 (jn @f1 (jn @a1' (jn @p0 (jn @a2 (jn @q0 (jn @b1 (jn @p1 (jn @d1 (jn @p2 (jn @d2 (jn @q2 (jn @w1 @w2))))))))))))) ?_
            refine runs_cond rfl (fun hc => ?_) (fun hc => by cases hc)
            refine go1 (jn @a1 @r6) ?_
            exact ⟨R.metrics.length - (i + 1), by omega, i + 1, _, hi1, hG4, by rw [hV4]; exact hv3, rfl, rfl⟩
           | true =>
            have hb : readsB R s = true := by rw [hB, p0, q0, p1, p2, q2]; rfl
            rw [hb, if_neg (by decide), List.append_nil] at hN
            refine go1 (jn @l3 (jn @f1 (jn @a1' (jn @p0 (jn @a2 (jn @q0 (jn @b1 (jn @p1 (jn @d1 (jn @p2 (jn @d2 (jn @q2 (jn @w1 @w2))))))))))))) ?_
            refine runs_cond rfl (fun hc => by cases hc) (fun hc => ?_)
            refine go1 @r6 ?_
            exact ⟨R.metrics.length - (i + 1), by omega, i + 1, gr3, hi1, hG3, hv3, rfl, by rw [hN]⟩
         | true =>
          cases q1 : (R.plateauMetric == s) with
          | false =>
           cases p2 : R.keepOn with
           | false =>
            have hb : readsB R s = false := by rw [hB, p0, q0, p1, q1, p2]; rfl
            rw [hb, if_pos (by rfl)] at hN
            rw [← hN] at a1
            refine go1 (jn @l3 (jn @f1 (jn @a1' (jn @p0 (jn @a2 (jn @q0 (jn @b1 (jn @p1 (jn @b2 (jn @q1 (jn @d1 (jn @p2 (jn @w1 @w2))))))))))))) ?_
            refine runs_cond rfl (fun hc => ?_) (fun hc => by cases hc)
            refine go1 (jn @a1 @r6) ?_
            exact ⟨R.metrics.length - (i + 1), by omega, i + 1, _, hi1, hG4, by rw [hV4]; exact hv3, rfl, rfl⟩
           | true =>
            cases q2 : (R.keepMetric == s) with
            | false =>
             have hb : readsB R s = false := by rw [hB, p0, q0, p1, q1, p2, q2]; rfl
             rw [hb, if_pos (by rfl)] at hN
             rw [← hN] at a1
             refine go1 (jn @l3 (jn @f1 (jn @a1' (jn @p0 (jn @a2 (jn @q0 (jn @b1 (jn @p1 (jn @b2 (jn @q1 (jn @d1 (jn @p2 (jn @d2 (jn @q2 (jn @w1 @w2))))))))))))))) ?_
             refine runs_cond rfl (fun hc => ?_) (fun hc => by cases hc)
             refine go1 (jn @a1 @r6) ?_
             exact ⟨R.metrics.length - (i + 1), by omega, i + 1, _, hi1, hG4, by rw [hV4]; exact hv3, rfl, rfl⟩
            | true =>
             have hb : readsB R s = true := by rw [hB, p0, q0, p1, q1, p2, q2]; rfl
             rw [hb, if_neg (by decide), List.append_nil] at hN
             refine go1 (jn @l3 (jn @f1 (jn @a1' (jn @p0 (jn @a2 (jn @q0 (jn @b1 (jn @p1 (jn @b2 (jn @q1 (jn @d1 (jn @p2 (jn @d2 (jn @q2 (jn @w1 @w2))))))))))))))) ?_
             refine runs_cond rfl (fun hc => by cases hc) (fun hc => ?_)
             refine go1 @r6 ?_
             exact ⟨R.metrics.length - (i + 1), by omega, i + 1, gr3, hi1, hG3, hv3, rfl, by rw [hN]⟩
          | true =>
           have hb : readsB R s = true := by rw [hB, p0, q0, p1, q1]; rfl
           rw [hb, if_neg (by decide), List.append_nil] at hN
           refine go1 (jn @l3 (jn @f1 (jn @a1' (jn @p0 (jn @a2 (jn @q0 (jn @b1 (jn @p1 (jn @b2 (jn @q1 (jn @w1 @w2))))))))))) ?_
           refine runs_cond rfl (fun hc => by cases hc) (fun hc => ?_)
           refine go1 @r6 ?_
           exact ⟨R.metrics.length - (i + 1), by omega, i + 1, gr3, hi1, hG3, hv3, rfl, by rw [hN]⟩
        | true =>
         have hb : readsB R s = true := by rw [hB, p0, q0]; rfl
         rw [hb, if_neg (by decide), List.append_nil] at hN
         refine go1 (jn @l3 (jn @f1 (jn @a1' (jn @p0 (jn @a2 (jn @q0 (jn @w1 @w2))))))) ?_
         refine runs_cond rfl (fun hc => by cases hc) (fun hc => ?_)
         refine go1 @r6 ?_
         exact ⟨R.metrics.length - (i + 1), by omega, i + 1, gr3, hi1, hG3, hv3, rfl, by rw [hN]⟩
      ·have hi1 : i = R.metrics.length := by have := of_decide_eq_false hc; omega
       subst hi1
       have hl4 := lblindTo_len R R.metrics.length
       obtain ⟨A3, hA3⟩ : ∃ A3, A3 = A2 ++ lblindTo R R.metrics.length := ⟨_, rfl⟩
       have hl5 : A3.length ≤ 300 := by rw [hA3, List.length_append]; omega
       rw [← hA3]
       have hmay := sound_may hs
       have c4 := fun mm => rspansG_at (R := R) (m := mm) hmay hfit
       have l4 := vrRc hv3
       have hck := (may_parts hmay).2.1
       have hep := sound_epoch hs
       refine go1 (jn @l4 (jn @t3 @c4)) ?_
       refine runs_loop (fun k e m' => ∃ (q : Nat) (rl : Int) (gr : Grow), q ≤ 2 ∧ rl = 4 + (q : Int) ∧ GrowsA m gr m' ∧ m'.var n1 = some R.row ∧ k = 2 - q ∧
        e = [(1, AV.ptr n1 0), (3, .lst gr 3 (rowsFl (ruleTo R A3 q))), (10, .lst .no 2 (rowsSp R.spans)), (11, .v (.int .i64 rl))]) (k := 2) ⟨0, 4, gr3, Nat.zero_le _, rfl, hG3, hv3, rfl, rfl⟩ ?_
       rintro k e m4 ⟨q, rl, gr4, hq0, hrl, hG4, hv4, rfl, rfl⟩
       refine go0 ?_
       refine runs_cond rfl (fun hc => ?_) (fun hc => ?_)
       ·have hq1 : q < 2 := by have := of_decide_eq_true hc; omega
        have hRN := ruleTo_next R A3 hq1
        have hal := ruleTo_len hsm A3 hq0
        have hmq : q * (R.phases.length * 64) ≤ 2 * 4096 := Nat.mul_le_mul hq0 (by omega)
        have hk0 := kOf_cases q hq1
        rw [← hrl] at hRN
        have r8 : IntKind.i64.wrap (rl + 1) = rl + 1 := i64_wrap (by omega) (by omega)
        generalize ruleTo R A3 q = A at hRN hal
        generalize kOf q = k0 at hRN hk0
        refine go0 ?_
        refine runs_loop (fun k e m' => ∃ (i : Nat) (gr : Grow), i ≤ R.phases.length ∧ GrowsA m gr m' ∧ m'.var n1 = some R.row ∧ k = R.phases.length - i ∧
         e = [(1, AV.ptr n1 0), (3, .lst gr 3 (rowsFl (A ++ outerTo R k0 rl i))), (10, .lst .no 2 (rowsSp R.spans)), (11, .v (.int .i64 rl)), (12, .v (.int .i64 (i : Int)))]) (k := R.phases.length) ⟨0, gr4, Nat.zero_le _, hG4, hv4, rfl, by rw [show outerTo R k0 rl 0 = [] from rfl, List.append_nil]; rfl⟩ ?_
        rintro k e m5 ⟨i, gr5, hi0, hG5, hv5, rfl, rfl⟩
        have l5 := lpRcPhases hv5
        refine go1 @l5 ?_
        refine runs_cond rfl (fun hc => ?_) (fun hc => ?_)
        ·have hi1 : i < R.phases.length := by have := of_decide_eq_true hc; omega
         have f1 := atPh (g := .no) (kk := .i64) hi1
         have f5 := atSp (g := .no) (kk := .i64) (l := R.spans) (i := i) (by rw [show R.spans.length = R.phases.length from spansTo_len]; exact hi1)
         rw [show R.spans.getD i sp0 = spanOf R i from spansTo_get hi1] at f5
         have hw := sound_span hs hi1
         have hmem1 : R.phases.getD i ph0 ∈ R.phases := getD_in hi1
         have hckP := (hck _ hmem1).2
         have hnl := (hsm.phase i).2.2
         have hsl := (hsm.phase i).2.1
         have hN : outerTo R k0 rl (i + 1) = outerTo R k0 rl i ++ innerTo R k0 rl i (R.phases.getD i ph0).sets.length := rfl
         have hI : ∀ k, innerTo R k0 rl i (k + 1) = innerTo R k0 rl i k ++ (if setP k0 R ((R.phases.getD i ph0).sets.getD k gs0).nodes (spanOf R i) = true then [⟨rl, (i : Int), (k : Int)⟩] else []) := fun k => rfl
         have hol := outerTo_len hsm k0 rl i
         have hil := innerTo_len R k0 rl i
         have r6 := next_i64 (i := i) (by omega)
         generalize R.phases.getD i ph0 = P at f1 hckP hnl hsl hN hI
         generalize outerTo R k0 rl i = O at hN hol
         refine go0 ?_
         refine runs_loop (fun k e m' => ∃ (j : Nat) (gr : Grow), j ≤ P.sets.length ∧ GrowsA m gr m' ∧ m'.var n1 = some R.row ∧ k = P.sets.length - j ∧
          e = [(1, AV.ptr n1 0), (3, .lst gr 3 (rowsFl (A ++ (O ++ innerTo R k0 rl i j)))), (10, .lst .no 2 (rowsSp R.spans)), (11, .v (.int .i64 rl)), (12, .v (.int .i64 (i : Int))), (13, .v (.int .i64 (j : Int)))]) (k := P.sets.length) ⟨0, gr5, Nat.zero_le _, hG5, hv5, rfl, by rw [show innerTo R k0 rl i 0 = [] from rfl, List.append_nil]; rfl⟩ ?_
         rintro k e m6 ⟨j, gr6, hj0, hG6, hv6, rfl, rfl⟩
         have l6 := lpRcPhases hv6
         refine go1 (jn @l6 @f1) ?_
         refine runs_cond rfl (fun hc => ?_) (fun hc => ?_)
         ·have hj1 : j < P.sets.length := by have := of_decide_eq_true hc; omega
          have f2 := atGs (g := .no) (kk := .i64) hj1
          have hmem2 : P.sets.getD j gs0 ∈ P.sets := getD_in hj1
          have hcx := hckP _ hmem2
          have hlx := hnl _ hmem2
          have hIj := hI j
          have hjl := hil j
          have r7 := next_i64 (i := j) (by omega)
          have l7 := lpRcEpoch hv6
          generalize P.sets.getD j gs0 = x at f2 hcx hlx hIj
          have hB : ∃ b, b = setP k0 R x.nodes (spanOf R i) := ⟨_, rfl⟩
          obtain ⟨b, hb⟩ := hB
          rw [← hb] at hIj
          have wd : IntKind.i64.wrap ((spanOf R i).to_ - (spanOf R i).from_) = (spanOf R i).to_ - (spanOf R i).from_ := i64_wrap (by unfold inW at hw; omega) (by unfold inW at hw; omega)
          obtain ⟨g7, m7, a1, hG7, hV7⟩ := app_fl (g2 := .full) hG6 (A ++ (O ++ innerTo R k0 rl i j)) rl (i : Int) (j : Int) (by rw [List.length_append, List.length_append]; omega)
          rw [List.append_assoc, List.append_assoc] at a1
          rcases hk0 with ⟨rfl, rfl⟩ | ⟨rfl, rfl⟩
          ·have b4 : (rl == 4) = true := by rw [hrl]; rfl
           have b5 : (rl == 5) = false := by rw [hrl]; rfl
           have c5 := fun mm => rzeroG_at (m := mm) (g := .no) (l := x.nodes) (by omega)
           rw [zero_same hcx, show zeroB x.nodes = b by rw [hb]; exact (if_pos rfl).symm] at c5
           cases b with
           | false =>
            rw [if_neg (by decide), List.append_nil] at hIj
            refine go1 (jn @l6 (jn @f1 @f2)) ?_
            refine runs_ops_drawn_tight (by kernel_rfl) (by kernel_rfl) ?_
            refine go1 (jn @b4 (jn @b5 (jn @t4 @c5))) ?_
            refine runs_cond rfl (fun hc => by cases hc) (fun hc => ?_)
            refine go1 @r7 ?_
            exact ⟨P.sets.length - (j + 1), by omega, j + 1, gr6, hj1, hG6, hv6, rfl, by rw [hIj]⟩
           | true =>
            rw [if_pos rfl] at hIj
            rw [← hIj] at a1
            refine go1 (jn @l6 (jn @f1 @f2)) ?_
            refine runs_ops_drawn_tight (by kernel_rfl) (by kernel_rfl) ?_
            refine go1 (jn @b4 (jn @b5 (jn @t4 @c5))) ?_
            refine runs_cond rfl (fun hc => ?_) (fun hc => by cases hc)
            refine go1 (jn @a1 @r7) ?_
            exact ⟨P.sets.length - (j + 1), by omega, j + 1, g7, hj1, hG7, by rw [hV7]; exact hv6, rfl, rfl⟩
          ·have b4 : (rl == 4) = false := by rw [hrl]; rfl
           have b5 : (rl == 5) = true := by rw [hrl]; rfl
           have c6 := fun mm => rlostG_at (m := mm) (g := .no) hcx hw hep
           rw [lost_same hcx hw hep, show lostB x.nodes ((spanOf R i).to_ - (spanOf R i).from_) R.epoch = b by rw [hb]; exact (if_neg (by decide)).symm] at c6
           cases b with
           | false =>
            rw [if_neg (by decide), List.append_nil] at hIj
            refine go1 (jn @l6 (jn @f1 @f2)) ?_
            refine runs_ops_drawn_tight (by kernel_rfl) (by kernel_rfl) ?_
            refine go1 (jn @b4 (jn @b5 (jn @f5 (jn @wd (jn @l7 (jn @t5 @c6)))))) ?_
            refine runs_cond rfl (fun hc => by cases hc) (fun hc => ?_)
            refine go1 @r7 ?_
            exact ⟨P.sets.length - (j + 1), by omega, j + 1, gr6, hj1, hG6, hv6, rfl, by rw [hIj]⟩
           | true =>
            rw [if_pos rfl] at hIj
            rw [← hIj] at a1
            refine go1 (jn @l6 (jn @f1 @f2)) ?_
            refine runs_ops_drawn_tight (by kernel_rfl) (by kernel_rfl) ?_
            refine go1 (jn @b4 (jn @b5 (jn @f5 (jn @wd (jn @l7 (jn @t5 @c6)))))) ?_
            refine runs_cond rfl (fun hc => ?_) (fun hc => by cases hc)
            refine go1 (jn @a1 @r7) ?_
            exact ⟨P.sets.length - (j + 1), by omega, j + 1, g7, hj1, hG7, by rw [hV7]; exact hv6, rfl, rfl⟩
         ·have hj1 : j = P.sets.length := by have := of_decide_eq_false hc; omega
          subst hj1
          rw [← hN]
          refine go1 @r6 ?_
          exact ⟨R.phases.length - (i + 1), by omega, i + 1, gr6, hi1, hG6, hv6, rfl, rfl⟩
        ·have hi1 : i = R.phases.length := by have := of_decide_eq_false hc; omega
         subst hi1
         rw [← hRN]
         refine go1 @r8 ?_
         exact ⟨2 - (q + 1), by omega, q + 1, rl + 1, gr5, hq1, by omega, hG5, hv5, rfl, rfl⟩
       ·have hq1 : q = 2 := by have := of_decide_eq_false hc; omega
        subst hq1
        have hfin := lint_parts hs A1 A2 A3 hA1 hA2 hA3
        have hal := ruleTo_len hsm A3 hq0
        generalize ruleTo R A3 2 = A4 at hfin hal
        rw [hfin]
        have l8 := lpRcSwaOn hv4
        have hst := (sound_ok' hs).steps
        obtain ⟨N, hN⟩ := Int.eq_ofNat_of_zero_le (show 0 ≤ R.steps by omega)
        rw [late_same hN, slow_same hN (sound_eval hs)]
        have hev := (Rc.may_num hmay).eval
        refine go1 @l8 ?_
        refine runs_loop (fun k e m' => ∃ (n : Nat), n ≤ N ∧ GrowsA m gr4 m' ∧ m'.var n1 = some R.row ∧ k = N - n ∧
         e = [(1, AV.ptr n1 0), (3, .lst gr4 3 (rowsFl A4)), (15, .v (.bool (noSwa R n))), (16, .v (.int .i64 ((cntLook R n : Nat) : Int))), (17, .v (.int .i64 (n : Int)))]) (k := N) ⟨0, Nat.zero_le _, hG4, hv4, rfl, rfl⟩ ?_
        rintro k e m5 ⟨n, hn0, hG5, hv5, rfl, rfl⟩
        have l9 := lpRcSteps hv5
        rw [hN] at l9
        refine go1 @l9 ?_
        refine runs_cond rfl (fun hc => ?_) (fun hc => ?_)
        ·have hn1 : n < N := by have := of_decide_eq_true hc; omega
         have c7 := fun mm => rswaG_at (R := R) (step := (n : Int)) (m := mm) hs (by unfold stepIn; omega)
         have c8 := fun mm => rlookG_at (R := R) (step := (n : Int)) (m := mm) hev
         have hS : noSwa R (n + 1) = (noSwa R n && !swaIs R R.swaSteps.1 (n : Int)) := rfl
         have hL : cntLook R (n + 1) = cntLook R n + (if rlookB R (n : Int) = true then 1 else 0) := rfl
         have hle := cntLook_le R n
         have r6 := next_i64 (i := n) (by omega)
         have r7 := next_i64 (i := cntLook R n) (by omega)
         have l0 := vrRc hv5
         generalize cntLook R n = c at hL r7
         generalize swaIs R R.swaSteps.1 (n : Int) = sw at c7 hS
         generalize rlookB R (n : Int) = lk at c8 hL
         cases hb : noSwa R n with
         | false =>
          rw [hb, Bool.false_and] at hS
          cases lk with
          | false =>
           rw [if_neg (by decide)] at hL
           refine go1 (jn @l0 (jn @t7 @c8)) ?_
           refine runs_cond rfl (fun hc => by cases hc) (fun hc => ?_)
           refine go1 @r6 ?_
           exact ⟨N - (n + 1), by omega, n + 1, hn1, hG5, hv5, rfl, by rw [hS, hL]; rfl⟩
          | true =>
           rw [if_pos rfl] at hL
           refine go1 (jn @l0 (jn @t7 @c8)) ?_
           refine runs_cond rfl (fun hc => ?_) (fun hc => by cases hc)
           refine go1 (jn @r6 @r7) ?_
           exact ⟨N - (n + 1), by omega, n + 1, hn1, hG5, hv5, rfl, by rw [hS, hL]⟩
         | true =>
          rw [hb, Bool.true_and] at hS
          cases lk with
          | false =>
           rw [if_neg (by decide)] at hL
           refine go1 (jn @l0 (jn @t6 (jn @c7 (jn @t7 @c8)))) ?_
           refine runs_cond rfl (fun hc => by cases hc) (fun hc => ?_)
           refine go1 @r6 ?_
           exact ⟨N - (n + 1), by omega, n + 1, hn1, hG5, hv5, rfl, by rw [hS, hL]; rfl⟩
          | true =>
           rw [if_pos rfl] at hL
           refine go1 (jn @l0 (jn @t6 (jn @c7 (jn @t7 @c8)))) ?_
           refine runs_cond rfl (fun hc => ?_) (fun hc => by cases hc)
           refine go1 (jn @r6 @r7) ?_
           exact ⟨N - (n + 1), by omega, n + 1, hn1, hG5, hv5, rfl, by rw [hS, hL]⟩
        ·have hn1 : n = N := by have := of_decide_eq_false hc; omega
         subst hn1
         have g1 := fun {mm : Mem} (h : mm.var n1 = some R.row) => lpRcStopOn h
         have g2 := fun {mm : Mem} (h : mm.var n1 = some R.row) => lpRcStopPatience h
         obtain ⟨g6, m6, a1, hG6, hV6⟩ := app_fl (g2 := .full) hG5 A4 6 0 0 (by omega)
         have hv6 : m6.var n1 = some R.row := by rw [hV6]; exact hv5
         refine go0 ?_
         refine runs_cond rfl (fun hc => ?_) (fun hc => ?_)
         ·rw [hc, if_pos rfl]
          have x1 := g1 hv6
          have x2 := g2 hv6
          obtain ⟨g7, m7, a2, hG7, hV7⟩ := app_fl (g2 := .full) hG6 (A4 ++ [⟨6, 0, 0⟩]) 7 0 0 (by rw [List.length_append]; simp only [List.length_cons, List.length_nil]; omega)
          refine go1 @a1 ?_
          cases p0 : R.stopOn with
          | false =>
           rw [Bool.false_and, if_neg (by decide), List.append_nil]
           refine go1 (jn @x1 @p0) ?_
           refine runs_cond rfl (fun hc => by cases hc) (fun hc => ?_)
           refine go0 ?_
           exact leaves_lst rfl rfl (growsA_fin hG6)
          | true =>
           rw [Bool.true_and]
           refine go1 (jn @x1 (jn @p0 @x2)) ?_
           refine runs_cond rfl (fun hc => ?_) (fun hc => ?_)
           ·rw [hc, if_pos rfl]
            refine go1 @a2 ?_
            exact leaves_lst rfl rfl (growsA_fin hG7)
           ·rw [hc, if_neg (by decide), List.append_nil]
            refine go0 ?_
            exact leaves_lst rfl rfl (growsA_fin hG6)
         ·rw [hc, if_neg (by decide), List.append_nil]
          have x1 := g1 hv5
          have x2 := g2 hv5
          obtain ⟨g7, m7, a2, hG7, hV7⟩ := app_fl (g2 := .full) hG5 A4 7 0 0 (by omega)
          cases p0 : R.stopOn with
          | false =>
           rw [Bool.false_and, if_neg (by decide), List.append_nil]
           refine go1 (jn @x1 @p0) ?_
           refine runs_cond rfl (fun hc => by cases hc) (fun hc => ?_)
           refine go0 ?_
           exact leaves_lst rfl rfl (growsA_fin hG5)
          | true =>
           rw [Bool.true_and]
           refine go1 (jn @x1 (jn @p0 @x2)) ?_
           refine runs_cond rfl (fun hc => ?_) (fun hc => ?_)
           ·rw [hc, if_pos rfl]
            refine go1 @a2 ?_
            exact leaves_lst rfl rfl (growsA_fin hG7)
           ·rw [hc, if_neg (by decide), List.append_nil]
            refine go0 ?_
            exact leaves_lst rfl rfl (growsA_fin hG5)
   ·cases h
  ·cases h
 ·cases h
end
section
attribute [local irreducible] Next Inside Runs Ops table
def lwords : List ByteArray := [⟨#[]⟩, ⟨#[105, 100, 108, 101]⟩, ⟨#[115, 116, 105, 108, 108]⟩, ⟨#[98, 108, 105, 110, 100]⟩, ⟨#[122, 101, 114, 111]⟩, ⟨#[108, 111, 115, 116]⟩, ⟨#[108, 97, 116, 101]⟩, ⟨#[115, 108, 111, 119]⟩]
theorem mkWords8 : evBuild Tryz.prog 100 [(0, .v (.string ⟨#[]⟩)), (1, .v (.string ⟨#[105, 100, 108, 101]⟩)), (2, .v (.string ⟨#[115, 116, 105, 108, 108]⟩)), (3, .v (.string ⟨#[98, 108, 105, 110, 100]⟩)), (4, .v (.string ⟨#[122, 101, 114, 111]⟩)), (5, .v (.string ⟨#[108, 111, 115, 116]⟩)), (6, .v (.string ⟨#[108, 97, 116, 101]⟩)), (7, .v (.string ⟨#[115, 108, 111, 119]⟩))] = some (.agg (strCells lwords)) := by kernel_rfl
theorem zeroWords8 : zeroCells Tryz.prog 100 = some (strCells [⟨#[]⟩, ⟨#[]⟩, ⟨#[]⟩, ⟨#[]⟩, ⟨#[]⟩, ⟨#[]⟩, ⟨#[]⟩, ⟨#[]⟩]) := by kernel_rfl
theorem okWords8 : (strCells [⟨#[]⟩, ⟨#[]⟩, ⟨#[]⟩, ⟨#[]⟩, ⟨#[]⟩, ⟨#[]⟩, ⟨#[]⟩, ⟨#[]⟩]).all okCell = true := rfl
theorem szWords8 : tSize Tryz.prog 100 = some 8 := by kernel_rfl
theorem arrWords8 : tArr Tryz.prog 100 = some (8, 9) := by simp only [tArr, Tryz.underlying100]
theorem newWords8 {m : Mem} : newVar m m.vars.length (strCells [⟨#[]⟩, ⟨#[]⟩, ⟨#[]⟩, ⟨#[]⟩, ⟨#[]⟩, ⟨#[]⟩, ⟨#[]⟩, ⟨#[]⟩]) = some (m.push (strCells [⟨#[]⟩, ⟨#[]⟩, ⟨#[]⟩, ⟨#[]⟩, ⟨#[]⟩, ⟨#[]⟩, ⟨#[]⟩, ⟨#[]⟩])) := newVar_push rfl
theorem putWords8 {m : Mem} : evStore Tryz.prog (m.push (strCells [⟨#[]⟩, ⟨#[]⟩, ⟨#[]⟩, ⟨#[]⟩, ⟨#[]⟩, ⟨#[]⟩, ⟨#[]⟩, ⟨#[]⟩])) 100 (.ptr m.vars.length 0) (.agg (strCells lwords)) = some (m.push (strCells lwords)) := by
 rw [store_push (cs := strCells lwords) rfl szWords8 (by decide) rfl]
 rfl
attribute [local go_sem] szStr szInt Option.getD_some isNil loadStr loadInt evStr mkWords8 zeroWords8 okWords8 newWords8 putWords8
def lword (n : Int) : ByteArray := if 0 ≤ n ∧ n ≤ 7 then lwords.getD n.toNat ⟨#[]⟩ else ⟨#[]⟩
def lwordG : List AV → Mem → Option (AV × Mem)
 | [.v (.int .i64 n)], m => some (.v (.string (lword n)), m)
 | _, _ => none
def kpLWord : Nat → Option (List Nat) := fun
 | 0 => some [0]
 | 1 => some [0, 3]
 | 2 => some [0, 3, 10]
 | 3 => some [2]
 | 4 => some [2]
 | _ => none
attribute [go_sem] kpLWord
theorem lword_ok : FunOk Tryz.prog 32 lwordG := by
 have hC := table_ok (P := Tryz.prog) (l := []) table_nil
 refine fun_ok mixed hC Tryz.func32 rfl kpLWord false rfl fun args m r h => ?_
 unfold lwordG at h
 split at h
 ·rename_i op
  simp only [Option.some.injEq] at h
  subst h
  refine ⟨Nat.le_of_ble_eq_true rfl, ?_⟩
  refine en ?_
  by_cases h0 : op < 0
  ·have b0 : decide (op < 0) = true := decide_eq_true h0
   rw [show lword op = ⟨#[]⟩ from if_neg (by omega)]
   refine go1 @b0 ?_
   refine runs_cond rfl (fun hc => ?_) (fun hc => by cases hc)
   refine go0 ?_
   exact leaves_fin rfl rfl fin_push
  ·have b0 : decide (op < 0) = false := decide_eq_false h0
   refine go1 @b0 ?_
   refine runs_cond rfl (fun hc => ?_) (fun hc => ?_)
   ·have := of_decide_eq_true hc
    rw [show lword op = ⟨#[]⟩ from if_neg (by omega)]
    refine go0 ?_
    exact leaves_fin rfl rfl fin_push
   ·have h6 := of_decide_eq_false hc
    obtain ⟨i, rfl⟩ := Int.eq_ofNat_of_zero_le (by omega : 0 ≤ op)
    have f1 := indexAddr_arr (P := Tryz.prog) (kk := .i64) (r := m.vars.length) (off := 0) arrWords8 szStr (by omega : i < 8)
    have f2 := loadVarS (m := m) (cs := strCells lwords) (off := 0 + i * 1)
    have f3 : ((strCells lwords).drop (0 + i * 1)).head? = some (.v (.string (lword (i : Int)))) := by
     rw [show lword (i : Int) = lwords.getD i ⟨#[]⟩ from if_pos ⟨by omega, by omega⟩]
     rcases (by omega : i = 0 ∨ i = 1 ∨ i = 2 ∨ i = 3 ∨ i = 4 ∨ i = 5 ∨ i = 6 ∨ i = 7) with rfl | rfl | rfl | rfl | rfl | rfl | rfl | rfl <;> rfl
    rw [f3] at f2
    refine go1 (jn @f1 @f2) ?_
    exact leaves_fin rfl rfl fin_push
 ·cases h
end
section
attribute [local irreducible] Next Inside Runs Ops table
def extC : Ctx := ⟨fun _ _ => none, fun _ => false, fun f => if f = 122 then some isNameG else if f = 86 then some setsG else if f = 77 then some endsRG else none⟩
theorem extC_ok : ∀ f g, extC.ext f = some g → FunOk Tryz.prog f g := by
 intro f g h
 unfold extC at h
 simp only at h
 split at h
 ·rename_i e
  cases h
  subst e
  exact is_ok
 ·split at h
  ·rename_i e
   cases h
   subst e
   exact sets_ok
  ·split at h
   ·rename_i e
    cases h
    subst e
    exact endsR_ok
   ·cases h
theorem awake_of {f : FuncId} (hrun : runC Tryz.prog extC 60 f [] ⟨[], []⟩ = some (.v (.bool true), ⟨[], []⟩)) : FunOk Tryz.prog f yesG := by
 have h := wide_ok (P := Tryz.prog) (f := f) (x := .bool true) fun args m r m' hg => by
  dsimp only at hg
  split at hg
  ·rename_i hc
   obtain ⟨rfl, h1, h2⟩ := hc
   obtain ⟨v, t⟩ := m
   simp only at h1 h2
   subst h1
   subst h2
   cases hg
   exact runC_ok mixed extC_ok 60 _ _ _ _ _ hrun
  ·cases hg
 intro args m r m' hg
 refine h args m r m' ?_
 cases args with
 | nil => exact hg
 | cons a rest => cases hg
end
section
attribute [local irreducible] Next Inside Runs Ops table
theorem awake55_ok : FunOk Tryz.prog 33 yesG := awake_of (by kernel_rfl)
end
section
attribute [local irreducible] Next Inside Runs Ops table
attribute [local go_sem] szStr szInt Option.getD_some isNil evStr iv loadStr loadInt rowsS_len rowsGs_len rowsPh_len rowsN_len mapRc mapPh mapGs cellsRc newRc cellsPh cellsGs ldPh ldGs zrPh zoPh znPh zsPh fpRcName fpRcMetrics fpRcGroups fpRcPhases fpRcStop fpRcStopMetric fpRcPlateau fpRcPlateauMetric fpRcKeep fpRcKeepMetric fpPhName fpPhFrozen fpPhSets feGsGroup leGsGroup feGsNodes leGsNodes
def bigS (n : Int) (s : ByteArray) : Bool := decide ((s.size : Int) > n)
def lightSets (n : Int) : List Gs → Option Int
 | [] => some n
 | s :: r => if n ≤ 60 then (if bigS 40 s.group || decide ((s.nodes.length : Int) > 60) then none else lightSets (n + (s.nodes.length : Int)) r) else some n
def lightHead (p : Ph) (n : Int) : Bool := bigS 40 p.name || (decide ((p.frozen.length : Int) > 12) || (decide ((p.sets.length : Int) > 30) || decide (n > 60)))
def lightPhases (n : Int) : List Ph → Option Int
 | [] => some n
 | p :: r => if lightHead p n then none else
  match lightSets n p.sets with
  | none => none
  | some n' => if p.frozen.any (bigS 40) then none else lightPhases n' r
def Rc.lightTop (R : Rc) : Bool := bigS 100 R.name || (decide ((R.metrics.length : Int) > 12) || (decide ((R.groups.length : Int) > 12) || (decide ((R.phases.length : Int) > 20) || decide (IntKind.i64.wrap (IntKind.i64.wrap ((R.stopMetric.size : Int) + (R.plateauMetric.size : Int)) + (R.keepMetric.size : Int)) > 100))))
def Rc.light (R : Rc) : Bool := !R.lightTop && (match lightPhases 0 R.phases with
 | none => false
 | some n => !((R.metrics ++ R.groups).any (bigS 40)) && decide (n ≤ 60))
theorem lightSets_mono : ∀ {l : List Gs} {n n' : Int}, lightSets n l = some n' → n ≤ n'
 | [], n, n', h => by simp only [lightSets, Option.some.injEq] at h; omega
 | s :: r, n, n', h => by
  unfold lightSets at h
  split at h
  ·split at h
   ·cases h
   ·have := lightSets_mono h; omega
  ·simp only [Option.some.injEq] at h; omega
theorem lightSets_all : ∀ {l : List Gs} {n n' : Int}, lightSets n l = some n' → n' ≤ 60 → ∀ s ∈ l, s.nodes.length ≤ 60
 | [], n, n', h, hn => fun s hs => by simp at hs
 | x :: r, n, n', h, hn => fun s hs => by
  unfold lightSets at h
  split at h
  ·split at h
   ·cases h
   ·rename_i hb
    simp only [Bool.or_eq_true, decide_eq_true_eq, not_or] at hb
    rcases List.mem_cons.1 hs with rfl | hs
    ·omega
    ·exact lightSets_all h hn s hs
  ·simp only [Option.some.injEq] at h; omega
theorem lightPhases_mono : ∀ {l : List Ph} {n n' : Int}, lightPhases n l = some n' → n ≤ n'
 | [], n, n', h => by simp only [lightPhases, Option.some.injEq] at h; omega
 | p :: r, n, n', h => by
  unfold lightPhases at h
  split at h
  ·cases h
  ·split at h
   ·cases h
   ·rename_i n1 h1
    split at h
    ·cases h
    ·have := lightSets_mono h1; have := lightPhases_mono h; omega
theorem lightPhases_all : ∀ {l : List Ph} {n n' : Int}, lightPhases n l = some n' → n' ≤ 60 → ∀ p ∈ l, p.frozen.length ≤ 12 ∧ p.sets.length ≤ 30 ∧ ∀ s ∈ p.sets, s.nodes.length ≤ 60
 | [], n, n', h, hn => fun s hs => by simp at hs
 | x :: r, n, n', h, hn => fun p hp => by
  unfold lightPhases at h
  split at h
  ·cases h
  ·rename_i hb
   split at h
   ·cases h
   ·rename_i n1 h1
    split at h
    ·cases h
    ·rcases List.mem_cons.1 hp with rfl | hp
     ·have := lightPhases_mono h
      simp only [lightHead, Bool.or_eq_true, decide_eq_true_eq, not_or] at hb
      exact ⟨by omega, by omega, lightSets_all h1 (by omega)⟩
     ·exact lightPhases_all h hn p hp
def Rc.wide (R : Rc) : Prop := okStr R.name ∧ (∀ s ∈ R.metrics, okStr s) ∧ (∀ s ∈ R.groups, okStr s) ∧ (∀ p ∈ R.phases, okStr p.name ∧ (∀ s ∈ p.frozen, okStr s) ∧ ∀ s ∈ p.sets, okStr s.group) ∧ okStr R.stopMetric ∧ okStr R.plateauMetric ∧ okStr R.keepMetric
instance (R : Rc) : Decidable R.wide := by unfold Rc.wide; exact inferInstance
structure Rc.Lit (R : Rc) : Prop where
 metrics : R.metrics.length ≤ 12
 groups : R.groups.length ≤ 12
 phases : R.phases.length ≤ 20
 each : ∀ p ∈ R.phases, p.frozen.length ≤ 12 ∧ p.sets.length ≤ 30 ∧ ∀ s ∈ p.sets, s.nodes.length ≤ 60
theorem light_lit {R : Rc} (h : R.light = true) : R.Lit := by
 unfold Rc.light Rc.lightTop at h
 simp only [Bool.and_eq_true, Bool.not_eq_true', Bool.or_eq_false_iff, decide_eq_false_iff_not] at h
 obtain ⟨⟨_, h1, h2, h3, _⟩, h4⟩ := h
 split at h4
 ·cases h4
 ·rename_i n hn
  simp only [Bool.and_eq_true, decide_eq_true_eq] at h4
  exact ⟨by omega, by omega, by omega, lightPhases_all hn h4.2⟩
theorem light_fit {R : Rc} (h : R.light = true) (hw : R.wide) : R.fit := by
 obtain ⟨h1, h2, h3, h4⟩ := light_lit h
 obtain ⟨w1, w2, w3, w4, w5⟩ := hw
 have b40 : (100 : Nat) ≤ big40 := by decide
 refine ⟨w1, ⟨by omega, w2⟩, ⟨by omega, w3⟩, ⟨by omega, fun p hp => ?_⟩, w5⟩
 obtain ⟨a1, a2, a3⟩ := h4 p hp
 obtain ⟨v1, v2, v3⟩ := w4 p hp
 exact ⟨v1, by omega, v2, by omega, fun s hs => ⟨v3 s hs, by have := a3 s hs; omega⟩⟩
def lightG : List AV → Mem → Option (AV × Mem)
 | [.agg cs], m =>
  match unRc cs with
  | some R => some (.v (.bool R.light), m)
  | none => none
 | _, _ => none
theorem lightG_at {R : Rc} {m : Mem} : lightG [.agg R.row] m = some (.v (.bool R.light), m) := by
 simp only [lightG, unRc_row]
def kpLight : Nat → Option (List Nat) := fun
 | 0 => some [1]
 | 1 => some [1, 47]
 | 2 => some [2]
 | 3 => some [1, 3]
 | 4 => some [1, 3, 4]
 | 5 => some [1, 3, 4, 52]
 | 6 => some [1, 3, 4]
 | 7 => some [1, 3, 4, 5]
 | 8 => some [1, 3, 4, 5, 79]
 | 9 => some [2]
 | 10 => some [1, 3, 4, 5, 6]
 | 11 => some [1, 3, 4, 5, 6, 88]
 | 12 => some [1, 3, 4, 5, 6]
 | 13 => some [1, 3, 4, 5, 6, 108]
 | 14 => some [2]
 | 15 => some [1, 3, 4, 5, 6]
 | 16 => some [1, 3, 4, 5, 7]
 | 17 => some [1, 3, 4, 5, 7, 122]
 | 18 => some [1, 3, 4, 5, 7]
 | 19 => some [1, 3, 4, 5, 7, 131]
 | 20 => some [2]
 | 21 => some [1, 3, 8]
 | 22 => some [1, 3, 8, 140]
 | 23 => some [1, 3, 8]
 | 24 => some [1, 3, 8, 176]
 | 25 => some [2]
 | 26 => some [2]
 | _ => none
attribute [go_sem] kpLight
theorem light_ok : FunOk Tryz.prog 9 lightG := by
 have hC := table_ok (P := Tryz.prog) (l := []) table_nil
 refine fun_ok mixed hC Tryz.func9 rfl kpLight false rfl fun args m r h => ?_
 unfold lightG at h
 split at h
 ·rename_i cs
  split at h
  ·rename_i R hR
   obtain rfl := unRc_some hR
   simp only [Option.some.injEq] at h
   subst h
   refine ⟨Nat.le_of_ble_eq_true rfl, ?_⟩
   refine en ?_
   have hA := above_push (cs := R.row) (above_self m)
   have hv : (m.push R.row).var m.vars.length = some R.row := push_var
   have nr := newRc (m := m) (x := R)
   generalize m.push R.row = m1 at hA hv nr
   have fin : ∀ (e : Env) (m' : Mem) (b : Bool), Above m m' → Ev.get e 2 = .v (.bool b) → R.light = b → Leaves Tryz.prog false Tryz.f9 m (.v (.bool R.light), m) .ret e m' := fun e m' b hA' h1 h2 => by rw [h2]; exact leaves_fin rfl h1 (above_fin hA')
   have a1 := lpRcName hv
   have a2 := lpRcMetrics hv
   have a3 := lpRcGroups hv
   have a4 := lpRcPhases hv
   have a5 := lpRcStopMetric hv
   have a6 := lpRcPlateauMetric hv
   have a7 := lpRcKeepMetric hv
   refine go1 @nr ?_
   refine ops_rcut [(1, .ptr m.vars.length 0), (47, .v (.bool R.lightTop))] m1 ?_ ?_
   ·unfold Rc.lightTop bigS
    repeat' (first | refine gos1 (jn @a1 (jn @a2 (jn @a3 (jn @a4 (jn @a5 (jn @a6 @a7)))))) ?_ | (refine ops_here ?_; (fail_if_success (refine ops_case (B := true) rfl rfl rfl ?_ ?_)); (fail_if_success (refine ops_case (B := false) rfl rfl rfl ?_ ?_)); refine ops_case rfl rfl rfl (fun hB => ?_) (fun hB => ?_) <;> rw [hB]) | (refine runs_here ?_; refine runs_cond rfl (fun hc => ?_) (fun hc => ?_) <;> first | (cases hc; done) | skip))
    all_goals refine ⟨?_, rfl⟩
    all_goals first | rfl | (simp_all; done)
   repeat (first | refine next_normal ?_ | refine runs_seq ?_)
   refine runs_cond rfl (fun hc => ?_) (fun hc => ?_)
   ·have e1 : R.light = false := by unfold Rc.light; rw [hc]; rfl
    refine go0 ?_
    exact fin _ _ _ hA rfl e1
   have hlt : R.metrics.length ≤ 12 ∧ R.groups.length ≤ 12 ∧ R.phases.length ≤ 20 := by
    unfold Rc.lightTop at hc
    simp only [Bool.or_eq_false_iff, decide_eq_false_iff_not] at hc
    omega
   have eL : R.light = (match lightPhases 0 R.phases with
    | none => false
    | some n => !((R.metrics ++ R.groups).any (bigS 40)) && decide (n ≤ 60)) := by unfold Rc.light; rw [hc]; rfl
   refine go0 ?_
   refine runs_loop (fun k e m' => ∃ (i : Nat) (n : Int), i ≤ R.phases.length ∧ 0 ≤ n ∧ n ≤ 120 ∧ lightPhases n (R.phases.drop i) = lightPhases 0 R.phases ∧ Above m m' ∧ m'.var m.vars.length = some R.row ∧ k = R.phases.length - i ∧
    e = [(1, AV.ptr m.vars.length 0), (3, .v (.int .i64 n)), (4, .v (.int .i64 (i : Int)))]) (k := R.phases.length) ⟨0, 0, Nat.zero_le _, by omega, by omega, rfl, hA, hv, rfl, rfl⟩ ?_
   rintro k e m2 ⟨i, n, hi0, hn0, hn1, hf, hA2, hv2, rfl, rfl⟩
   have l1 := lpRcPhases hv2
   refine go1 @l1 ?_
   refine runs_cond rfl (fun hc => ?_) (fun hc => ?_)
   ·have hi1 : i < R.phases.length := by have := of_decide_eq_true hc; omega
    have f1 := atPh (g := .no) (kk := .i64) hi1
    rw [drop_next (d := ph0) hi1] at hf
    have r6 := next_i64 (i := i) (by omega)
    generalize R.phases.getD i ph0 = p at f1 hf
    have z1 := zsPh (m := m2) (x := p)
    have hA3 := above_push (cs := p.row) hA2
    have hv3 := push_old (cs' := p.row) hv2
    have hp3 : (m2.push p.row).var m2.vars.length = some p.row := push_var
    generalize m2.push p.row = m3 at z1 hA3 hv3 hp3
    have bad : ∀ e m', Above m m' → Ev.get e 2 = .v (.bool false) → lightPhases n (p :: R.phases.drop (i + 1)) = none → Leaves Tryz.prog false Tryz.f9 m (.v (.bool R.light), m) .ret e m' := fun e m' hA' hg hb => fin e m' false hA' hg (by rw [eL, ← hf, hb])
    refine go1 (jn @l1 (jn @f1 @z1)) ?_
    generalize m2.vars.length = n4 at hp3 ⊢
    have y1 := lpPhName hp3
    have y3 := lpPhFrozen hp3
    have y4 := lpPhSets hp3
    refine ops_rcut [(1, .ptr m.vars.length 0), (3, .v (.int .i64 n)), (4, .v (.int .i64 (i : Int))), (5, .ptr n4 0), (79, .v (.bool (lightHead p n)))] m3 ?_ ?_
    ·unfold lightHead bigS
     repeat' (first | refine gos1 (jn @y1 (jn @y3 @y4)) ?_ | (refine ops_here ?_; (fail_if_success (refine ops_case (B := true) rfl rfl rfl ?_ ?_)); (fail_if_success (refine ops_case (B := false) rfl rfl rfl ?_ ?_)); refine ops_case rfl rfl rfl (fun hB => ?_) (fun hB => ?_) <;> rw [hB]) | (refine runs_here ?_; refine runs_cond rfl (fun hc => ?_) (fun hc => ?_) <;> first | (cases hc; done) | skip))
     all_goals refine ⟨?_, rfl⟩
     all_goals first | rfl | (simp_all; done)
    repeat (first | refine next_normal ?_ | refine runs_seq ?_)
    refine runs_cond rfl (fun hc => ?_) (fun hc => ?_)
    ·refine go0 ?_
     exact bad _ _ hA3 rfl (by unfold lightPhases; rw [hc]; rfl)
    have zh := hc
    have hP : lightPhases n (p :: R.phases.drop (i + 1)) = match lightSets n p.sets with
     | none => none
     | some n' => if p.frozen.any (bigS 40) then none else lightPhases n' (R.phases.drop (i + 1)) := by
      conv => lhs; unfold lightPhases
      rw [zh]; rfl
    have hlen : p.frozen.length ≤ 12 ∧ p.sets.length ≤ 30 ∧ n ≤ 60 := by
     unfold lightHead at zh
     simp only [Bool.or_eq_false_iff, decide_eq_false_iff_not] at zh
     omega
    refine go0 ?_
    refine runs_loop (fun k e m' => ∃ (j : Nat) (n' : Int), j ≤ p.sets.length ∧ 0 ≤ n' ∧ n' ≤ 120 ∧ lightSets n' (p.sets.drop j) = lightSets n p.sets ∧ m3 = m' ∧ k = p.sets.length - j ∧
     e = [(1, AV.ptr m.vars.length 0), (3, .v (.int .i64 n')), (4, .v (.int .i64 (i : Int))), (5, .ptr n4 0), (6, .v (.int .i64 (j : Int)))]) (k := p.sets.length) ⟨0, n, Nat.zero_le _, hn0, hn1, rfl, rfl, rfl, rfl⟩ ?_
    rintro k e m5 ⟨j, n', hj0, hn3, hn4, hS, rfl, rfl, rfl⟩
    refine go0 ?_
    refine ops_rcut [(1, .ptr m.vars.length 0), (3, .v (.int .i64 n')), (4, .v (.int .i64 (i : Int))), (5, .ptr n4 0), (6, .v (.int .i64 (j : Int))), (88, .v (.bool (decide ((j : Int) < (p.sets.length : Int)) && decide (n' ≤ 60))))] m3 ?_ ?_
    ·cases q1 : decide ((j : Int) < (p.sets.length : Int)) with
     | true =>
      refine go1 (jn @y4 @q1) ?_
      exact ⟨by rw [Bool.true_and], rfl⟩
     | false =>
      refine go1 (jn @y4 @q1) ?_
      exact ⟨rfl, rfl⟩
    repeat (first | refine next_normal ?_ | refine runs_seq ?_)
    refine runs_cond rfl (fun hc => ?_) (fun hc => ?_)
    ·simp only [Bool.and_eq_true, decide_eq_true_eq] at hc
     have hj1 : j < p.sets.length := by omega
     have f2 := atGs (g := .no) (kk := .i64) hj1
     rw [drop_next (d := gs0) hj1] at hS
     generalize p.sets.getD j gs0 = s at f2 hS
     have r7 := next_i64 (i := j) (by omega)
     have hS2 : lightSets n' (s :: p.sets.drop (j + 1)) = if bigS 40 s.group || decide ((s.nodes.length : Int) > 60) then none else lightSets (n' + (s.nodes.length : Int)) (p.sets.drop (j + 1)) := by
      conv => lhs; unfold lightSets
      rw [if_pos hc.2]
     rw [hS2] at hS
     refine go1 (jn @y4 @f2) ?_
     refine ops_rcut [(1, .ptr m.vars.length 0), (3, .v (.int .i64 n')), (4, .v (.int .i64 (i : Int))), (5, .ptr n4 0), (6, .v (.int .i64 (j : Int))), (108, .v (.bool (bigS 40 s.group || decide ((s.nodes.length : Int) > 60))))] m3 ?_ ?_
     ·unfold bigS
      cases q1 : decide ((s.group.size : Int) > 40) with
      | true =>
       refine go1 @q1 ?_
       exact ⟨rfl, rfl⟩
      | false =>
       refine go1 (jn @q1 (jn @y4 @f2)) ?_
       exact ⟨by rw [Bool.false_or], rfl⟩
     repeat (first | refine next_normal ?_ | refine runs_seq ?_)
     refine runs_cond rfl (fun hb => ?_) (fun hb => ?_)
     ·refine go0 ?_
      rw [hb, if_pos rfl] at hS
      exact bad _ _ hA3 rfl (by rw [hP, ← hS])
     ·rw [hb, if_neg (by decide)] at hS
      simp only [Bool.or_eq_false_iff, decide_eq_false_iff_not] at hb
      have r8 : IntKind.i64.wrap (n' + (s.nodes.length : Int)) = n' + (s.nodes.length : Int) := i64_wrap (by omega) (by omega)
      refine go1 (jn @y4 (jn @f2 (jn @r8 @r7))) ?_
      exact ⟨p.sets.length - (j + 1), by omega, j + 1, n' + (s.nodes.length : Int), hj1, by omega, by omega, hS, rfl, rfl, rfl⟩
    have hS3 : lightSets n p.sets = some n' := by
     rw [← hS]
     by_cases hj1 : j < p.sets.length
     ·rw [drop_next (d := gs0) hj1]
      unfold lightSets
      rw [if_neg]
      intro h60
      rw [decide_eq_true (show (j : Int) < (p.sets.length : Int) by omega), decide_eq_true h60] at hc
      cases hc
     ·rw [List.drop_eq_nil_of_le (by omega)]
      rfl
    rw [hS3] at hP
    simp only at hP
    refine go0 ?_
    refine runs_loop (fun k e m' => ∃ (j : Nat), j ≤ p.frozen.length ∧ firstBy (bigS 40) (p.frozen.drop j) j = firstBy (bigS 40) p.frozen 0 ∧ m3 = m' ∧ k = p.frozen.length - j ∧
     e = [(1, AV.ptr m.vars.length 0), (3, .v (.int .i64 n')), (4, .v (.int .i64 (i : Int))), (5, .ptr n4 0), (7, .v (.int .i64 (j : Int)))]) (k := p.frozen.length) ⟨0, Nat.zero_le _, rfl, rfl, rfl, rfl⟩ ?_
    rintro k e m6 ⟨j, hj0, hg, rfl, rfl, rfl⟩
    refine go1 @y3 ?_
    refine runs_cond rfl (fun hc => ?_) (fun hc => ?_)
    ·have hj1 : j < p.frozen.length := by have := of_decide_eq_true hc; omega
     have f2 := atStrs (g := .no) (kk := .i64) hj1
     have syes := fun hp => firstBy_yes (d := (⟨#[]⟩ : ByteArray)) (p := bigS 40) hj1 hp
     have sno := fun hp => by_no (d := (⟨#[]⟩ : ByteArray)) hj1 hp hg
     have r7 := next_i64 (i := j) (by omega)
     generalize p.frozen.getD j ⟨#[]⟩ = s at f2 syes sno
     refine go1 (jn @y3 @f2) ?_
     refine runs_cond rfl (fun hc => ?_) (fun hc => ?_)
     ·refine go0 ?_
      exact bad _ _ hA3 rfl (by rw [hP, syes hc]; rfl)
     ·refine go1 @r7 ?_
      exact ⟨p.frozen.length - (j + 1), by omega, j + 1, hj1, sno hc, rfl, rfl, rfl⟩
    ·have hj1 : j = p.frozen.length := by have := of_decide_eq_false hc; omega
     subst hj1
     rw [firstBy_no hg, if_neg (by decide)] at hP
     refine go1 @r6 ?_
     exact ⟨R.phases.length - (i + 1), by omega, i + 1, n', hi1, hn3, hn4, by rw [← hP, hf], hA3, hv3, rfl, rfl⟩
   ·have hi1 : i = R.phases.length := by have := of_decide_eq_false hc; omega
    subst hi1
    rw [List.drop_length] at hf
    rw [← hf] at eL
    have eL' : R.light = (!((R.metrics ++ R.groups).any (bigS 40)) && decide (n ≤ 60)) := eL
    generalize hL : R.metrics ++ R.groups = L at eL'
    have hLl : L.length = R.metrics.length + R.groups.length := by rw [← hL, List.length_append]
    have w0 : IntKind.i64.wrap ((R.metrics.length : Int) + (R.groups.length : Int)) = (L.length : Int) := by rw [i64_wrap (by omega) (by omega)]; omega
    refine go0 ?_
    refine runs_loop (fun k e m' => ∃ (i : Nat), i ≤ L.length ∧ firstBy (bigS 40) (L.drop i) i = firstBy (bigS 40) L 0 ∧ m2 = m' ∧ k = L.length - i ∧
     e = [(1, AV.ptr m.vars.length 0), (3, .v (.int .i64 n)), (8, .v (.int .i64 (i : Int)))]) (k := L.length) ⟨0, Nat.zero_le _, rfl, rfl, rfl, rfl⟩ ?_
    rintro k e m7 ⟨i, hi0, hg, rfl, rfl, rfl⟩
    have y1 := lpRcMetrics hv2
    have y2 := lpRcGroups hv2
    refine go1 (jn @y1 (jn @y2 @w0)) ?_
    refine runs_cond rfl (fun hc => ?_) (fun hc => ?_)
    ·have hi1 : i < L.length := by have := of_decide_eq_true hc; omega
     have syes := fun hp => firstBy_yes (d := (⟨#[]⟩ : ByteArray)) (p := bigS 40) hi1 hp
     have sno := fun hp => by_no (d := (⟨#[]⟩ : ByteArray)) hi1 hp hg
     have r7 := next_i64 (i := i) (by omega)
     refine go0 ?_
     refine ops_rcut [(1, .ptr m.vars.length 0), (3, .v (.int .i64 n)), (8, .v (.int .i64 (i : Int))), (176, .v (.bool (bigS 40 (L.getD i ⟨#[]⟩))))] m2 ?_ ?_
     ·by_cases hm : i < R.metrics.length
      ·have b0 : decide ((i : Int) < (R.metrics.length : Int)) = true := decide_eq_true (by omega)
       have b1 : decide ((i : Int) ≥ (R.metrics.length : Int)) = false := decide_eq_false (by omega)
       have f2 := atStrs (g := .no) (kk := .i64) hm
       have e0 : L.getD i ⟨#[]⟩ = R.metrics.getD i ⟨#[]⟩ := by rw [← hL]; simp [List.getD, List.getElem?_append_left hm]
       rw [e0]
       generalize R.metrics.getD i ⟨#[]⟩ = s at f2
       unfold bigS
       cases q1 : decide ((s.size : Int) > 40) with
       | true =>
        refine go1 (jn @y1 (jn @b0 (jn @f2 @q1))) ?_
        exact ⟨rfl, rfl⟩
       | false =>
        refine go1 (jn @y1 (jn @b0 (jn @f2 (jn @q1 @b1)))) ?_
        exact ⟨rfl, rfl⟩
      ·have b0 : decide ((i : Int) < (R.metrics.length : Int)) = false := decide_eq_false (by omega)
       have b1 : decide ((i : Int) ≥ (R.metrics.length : Int)) = true := decide_eq_true (by omega)
       have hm2 : i - R.metrics.length < R.groups.length := by omega
       have f2 := atStrs (g := .no) (kk := .i64) hm2
       have r8 : IntKind.i64.wrap ((i : Int) - (R.metrics.length : Int)) = ((i - R.metrics.length : Nat) : Int) := by rw [i64_wrap (by omega) (by omega)]; omega
       have e0 : L.getD i ⟨#[]⟩ = R.groups.getD (i - R.metrics.length) ⟨#[]⟩ := by rw [← hL]; simp [List.getD, List.getElem?_append_right (Nat.le_of_not_lt hm)]
       rw [e0]
       generalize R.groups.getD (i - R.metrics.length) ⟨#[]⟩ = s at f2
       unfold bigS
       refine go1 (jn @y1 (jn @b0 (jn @b1 (jn @y2 (jn @r8 @f2))))) ?_
       exact ⟨rfl, rfl⟩
     repeat (first | refine next_normal ?_ | refine runs_seq ?_)
     refine runs_cond rfl (fun hb => ?_) (fun hb => ?_)
     ·refine go0 ?_
      exact fin _ _ _ hA2 rfl (by rw [eL', syes hb]; rfl)
     ·refine go1 @r7 ?_
      exact ⟨L.length - (i + 1), by omega, i + 1, hi1, sno hb, rfl, rfl, rfl⟩
    ·have hi1 : i = L.length := by have := of_decide_eq_false hc; omega
     subst hi1
     rw [firstBy_no hg] at eL'
     refine go0 ?_
     exact fin _ _ _ hA2 rfl (eL'.trans (by rw [Bool.not_false, Bool.true_and]))
  ·cases h
 ·cases h
end
section
attribute [local irreducible] Next Inside Runs Ops table
theorem ty_int {d : Nat} {p : List AV} (h : Typed Tryz.prog (d + 1) 3 p) : ∃ n, inI n ∧ p = [iv n] := by
 unfold Typed at h
 rw [Tryz.underlying3] at h
 obtain ⟨n, rfl, n0, n1⟩ := h
 simp [IntKind.min, IntKind.max, IntKind.signed, IntKind.bits] at n0 n1
 exact ⟨n, ⟨n0, n1⟩, rfl⟩
theorem ty_bool {d : Nat} {p : List AV} (h : Typed Tryz.prog (d + 1) 4 p) : ∃ b, p = [.v (.bool b)] := by
 unfold Typed at h
 rw [Tryz.underlying4] at h
 exact h
theorem ty_str {d : Nat} {p : List AV} (h : Typed Tryz.prog (d + 1) 9 p) : ∃ s, okStr s ∧ p = [.v (.string s)] := by
 unfold Typed at h
 rw [Tryz.underlying9] at h
 obtain ⟨s, rfl, h1⟩ := h
 exact ⟨s, h1, rfl⟩
theorem ty_strs {d : Nat} : ∀ {rows : List (List AV)}, (∀ row ∈ rows, Typed Tryz.prog (d + 1) 9 row) → ∃ l, (∀ s ∈ l, okStr s) ∧ rows = rowsS l
 | [], _ => ⟨[], (fun s hs => by simp at hs), rfl⟩
 | row :: rows, h => by
  obtain ⟨l, h1, rfl⟩ := ty_strs fun r hr => h r (List.mem_cons_of_mem _ hr)
  obtain ⟨s, h2, rfl⟩ := ty_str (h row (List.mem_cons_self ..))
  refine ⟨s :: l, fun x hx => ?_, rfl⟩
  rcases List.mem_cons.1 hx with rfl | hx
  ·exact h2
  ·exact h1 x hx
theorem ty_strsP {d : Nat} {p : List AV} (h : Typed Tryz.prog (d + 2) 22 p) : ∃ l, (∀ s ∈ l, okStr s) ∧ p = [.lst .no 1 (rowsS l)] := by
 unfold Typed at h
 rw [Tryz.underlying22] at h
 obtain ⟨rows, rfl, _, h2⟩ := h
 obtain ⟨l, h3, rfl⟩ := ty_strs h2
 exact ⟨l, h3, by rw [size_cells szStr]⟩
theorem ty_nodesP {d : Nat} {p : List AV} (h : Typed Tryz.prog (d + 4) 70 p) : ∃ l, OkN l ∧ p = [.lst .no 7 (rowsN l)] := by
 unfold Typed at h
 rw [Tryz.underlying70] at h
 obtain ⟨rows, rfl, _, h2⟩ := h
 obtain ⟨l, h3, rfl⟩ := rows_nodes h2
 exact ⟨l, h3, by rw [size_cells szNode]⟩
theorem ty_len {d : Nat} {p : List AV} (h : Typed Tryz.prog (d + 2) 33 p) : ∃ u n, p = [iv u, iv n] := by
 unfold Typed at h
 rw [Tryz.underlying33] at h
 obtain ⟨parts, rfl, hl, h⟩ := h
 match parts, hl with
 | [p0, p1], _ =>
  obtain ⟨a, a0, rfl⟩ := ty_int (h 0 _ p0 rfl rfl)
  obtain ⟨b, b0, rfl⟩ := ty_int (h 1 _ p1 rfl rfl)
  exact ⟨a, b, rfl⟩
theorem ty_gs {d : Nat} {p : List AV} (h : Typed Tryz.prog (d + 5) 72 p) : ∃ x : Gs, okStr x.group ∧ p = x.row := by
 unfold Typed at h
 rw [Tryz.underlying72] at h
 obtain ⟨parts, rfl, hl, h⟩ := h
 match parts, hl with
 | [p0, p1, p2], _ =>
  obtain ⟨a, a0, rfl⟩ := ty_str (h 0 _ p0 rfl rfl)
  obtain ⟨b, b0, rfl⟩ := ty_int (h 1 _ p1 rfl rfl)
  obtain ⟨c, c0, rfl⟩ := ty_nodesP (h 2 _ p2 rfl rfl)
  exact ⟨⟨a, b, c⟩, a0, rfl⟩
theorem ty_gss {d : Nat} : ∀ {rows : List (List AV)}, (∀ row ∈ rows, Typed Tryz.prog (d + 5) 72 row) → ∃ l : List Gs, (∀ s ∈ l, okStr s.group) ∧ rows = rowsGs l
 | [], _ => ⟨[], (fun s hs => by simp at hs), rfl⟩
 | row :: rows, h => by
  obtain ⟨l, h1, rfl⟩ := ty_gss fun r hr => h r (List.mem_cons_of_mem _ hr)
  obtain ⟨s, h2, rfl⟩ := ty_gs (h row (List.mem_cons_self ..))
  refine ⟨s :: l, fun x hx => ?_, rfl⟩
  rcases List.mem_cons.1 hx with rfl | hx
  ·exact h2
  ·exact h1 x hx
theorem ty_gssP {d : Nat} {p : List AV} (h : Typed Tryz.prog (d + 6) 67 p) : ∃ l : List Gs, (∀ s ∈ l, okStr s.group) ∧ p = [.lst .no 3 (rowsGs l)] := by
 unfold Typed at h
 rw [Tryz.underlying67] at h
 obtain ⟨rows, rfl, _, h2⟩ := h
 obtain ⟨l, h3, rfl⟩ := ty_gss h2
 exact ⟨l, h3, by rw [size_cells szGs]⟩
def Ph.wide (p : Ph) : Prop := okStr p.name ∧ (∀ s ∈ p.frozen, okStr s) ∧ ∀ s ∈ p.sets, okStr s.group
theorem ty_ph {d : Nat} {p : List AV} (h : Typed Tryz.prog (d + 7) 69 p) : ∃ x : Ph, x.wide ∧ p = x.row := by
 unfold Typed at h
 rw [Tryz.underlying69] at h
 obtain ⟨parts, rfl, hl, h⟩ := h
 match parts, hl with
 | [p0, p1, p2, p3], _ =>
  obtain ⟨a, a0, rfl⟩ := ty_str (h 0 _ p0 rfl rfl)
  obtain ⟨u, n, rfl⟩ := ty_len (h 1 _ p1 rfl rfl)
  obtain ⟨b, b0, rfl⟩ := ty_strsP (h 2 _ p2 rfl rfl)
  obtain ⟨c, c0, rfl⟩ := ty_gssP (h 3 _ p3 rfl rfl)
  exact ⟨⟨a, u, n, b, c⟩, ⟨a0, b0, c0⟩, rfl⟩
theorem ty_phs {d : Nat} : ∀ {rows : List (List AV)}, (∀ row ∈ rows, Typed Tryz.prog (d + 7) 69 row) → ∃ l : List Ph, (∀ s ∈ l, s.wide) ∧ rows = rowsPh l
 | [], _ => ⟨[], (fun s hs => by simp at hs), rfl⟩
 | row :: rows, h => by
  obtain ⟨l, h1, rfl⟩ := ty_phs fun r hr => h r (List.mem_cons_of_mem _ hr)
  obtain ⟨s, h2, rfl⟩ := ty_ph (h row (List.mem_cons_self ..))
  refine ⟨s :: l, fun x hx => ?_, rfl⟩
  rcases List.mem_cons.1 hx with rfl | hx
  ·exact h2
  ·exact h1 x hx
theorem ty_phsP {d : Nat} {p : List AV} (h : Typed Tryz.prog (d + 8) 23 p) : ∃ l : List Ph, (∀ s ∈ l, s.wide) ∧ p = [.lst .no 5 (rowsPh l)] := by
 unfold Typed at h
 rw [Tryz.underlying23] at h
 obtain ⟨rows, rfl, _, h2⟩ := h
 obtain ⟨l, h3, rfl⟩ := ty_phs h2
 exact ⟨l, h3, by rw [size_cells szPh]⟩
theorem ty_tp {d : Nat} {p : List AV} (h : Typed Tryz.prog (d + 2) 25 p) : ∃ x : Tp, okStr x.Metric ∧ p = x.row := by
 unfold Typed at h
 rw [Tryz.underlying25] at h
 obtain ⟨parts, rfl, hl, h⟩ := h
 match parts, hl with
 | [p0, p1, p2, p3, p4, p5], _ =>
  obtain ⟨a, rfl⟩ := ty_bool (h 0 _ p0 rfl rfl)
  obtain ⟨b, b0, rfl⟩ := ty_str (h 1 _ p1 rfl rfl)
  obtain ⟨c, rfl⟩ := ty_bool (h 2 _ p2 rfl rfl)
  obtain ⟨e, e0, rfl⟩ := ty_int (h 3 _ p3 rfl rfl)
  obtain ⟨f, f0, rfl⟩ := ty_int (h 4 _ p4 rfl rfl)
  obtain ⟨g, rfl⟩ := ty_bool (h 5 _ p5 rfl rfl)
  exact ⟨⟨a, b, c, e, f, g⟩, b0, rfl⟩
theorem ty_pt {d : Nat} {p : List AV} (h : Typed Tryz.prog (d + 2) 27 p) : ∃ x : Pt, okStr x.Metric ∧ p = x.row := by
 unfold Typed at h
 rw [Tryz.underlying27] at h
 obtain ⟨parts, rfl, hl, h⟩ := h
 match parts, hl with
 | [p0, p1, p2, p3, p4, p5, p6, p7], _ =>
  obtain ⟨a, rfl⟩ := ty_bool (h 0 _ p0 rfl rfl)
  obtain ⟨b, b0, rfl⟩ := ty_str (h 1 _ p1 rfl rfl)
  obtain ⟨c, rfl⟩ := ty_bool (h 2 _ p2 rfl rfl)
  obtain ⟨e, e0, rfl⟩ := ty_int (h 3 _ p3 rfl rfl)
  obtain ⟨f, f0, rfl⟩ := ty_int (h 4 _ p4 rfl rfl)
  obtain ⟨g, g0, rfl⟩ := ty_int (h 5 _ p5 rfl rfl)
  obtain ⟨i, i0, rfl⟩ := ty_int (h 6 _ p6 rfl rfl)
  obtain ⟨j, j0, rfl⟩ := ty_int (h 7 _ p7 rfl rfl)
  exact ⟨⟨a, b, c, e, f, g, i, j⟩, b0, rfl⟩
theorem ty_kp {d : Nat} {p : List AV} (h : Typed Tryz.prog (d + 2) 29 p) : ∃ x : Kp, okStr x.Metric ∧ p = x.row := by
 unfold Typed at h
 rw [Tryz.underlying29] at h
 obtain ⟨parts, rfl, hl, h⟩ := h
 match parts, hl with
 | [p0, p1, p2, p3], _ =>
  obtain ⟨a, rfl⟩ := ty_bool (h 0 _ p0 rfl rfl)
  obtain ⟨b, b0, rfl⟩ := ty_str (h 1 _ p1 rfl rfl)
  obtain ⟨c, rfl⟩ := ty_bool (h 2 _ p2 rfl rfl)
  obtain ⟨e, e0, rfl⟩ := ty_int (h 3 _ p3 rfl rfl)
  exact ⟨⟨a, b, c, e⟩, b0, rfl⟩
theorem ty_em {d : Nat} {p : List AV} (h : Typed Tryz.prog (d + 2) 31 p) : ∃ x : Em, p = x.row := by
 unfold Typed at h
 rw [Tryz.underlying31] at h
 obtain ⟨parts, rfl, hl, h⟩ := h
 match parts, hl with
 | [p0, p1], _ =>
  obtain ⟨a, rfl⟩ := ty_bool (h 0 _ p0 rfl rfl)
  obtain ⟨b, b0, rfl⟩ := ty_int (h 1 _ p1 rfl rfl)
  exact ⟨⟨a, b⟩, rfl⟩
theorem ty_sw {d : Nat} {p : List AV} (h : Typed Tryz.prog (d + 3) 35 p) : ∃ x : Sw, p = x.row := by
 unfold Typed at h
 rw [Tryz.underlying35] at h
 obtain ⟨parts, rfl, hl, h⟩ := h
 match parts, hl with
 | [p0, p1, p2], _ =>
  obtain ⟨a, rfl⟩ := ty_bool (h 0 _ p0 rfl rfl)
  obtain ⟨u, n, rfl⟩ := ty_len (h 1 _ p1 rfl rfl)
  obtain ⟨b, b0, rfl⟩ := ty_int (h 2 _ p2 rfl rfl)
  exact ⟨⟨a, u, n, b⟩, rfl⟩
theorem ty_rc {d : Nat} {p : List AV} (h : Typed Tryz.prog (d + 9) 37 p) : ∃ R : Rc, R.wide ∧ (inI R.steps ∧ inI R.epoch ∧ inI R.eval) ∧ p = R.row := by
 unfold Typed at h
 rw [Tryz.underlying37] at h
 obtain ⟨parts, rfl, hl, h⟩ := h
 match parts, hl with
 | [p0, p1, p2, p3, p4, p5, p6, p7, p8, p9, p10, p11, p12], _ =>
  obtain ⟨c0, a0, rfl⟩ := ty_str (h 0 _ p0 rfl rfl)
  obtain ⟨c1, a1, rfl⟩ := ty_int (h 1 _ p1 rfl rfl)
  obtain ⟨c2, a2, rfl⟩ := ty_int (h 2 _ p2 rfl rfl)
  obtain ⟨c3, a3, rfl⟩ := ty_int (h 3 _ p3 rfl rfl)
  obtain ⟨c4, a4, rfl⟩ := ty_strsP (h 4 _ p4 rfl rfl)
  obtain ⟨c5, a5, rfl⟩ := ty_strsP (h 5 _ p5 rfl rfl)
  obtain ⟨c6, a6, rfl⟩ := ty_int (h 6 _ p6 rfl rfl)
  obtain ⟨c7, a7, rfl⟩ := ty_phsP (h 7 _ p7 rfl rfl)
  obtain ⟨s, s0, rfl⟩ := ty_tp (h 8 _ p8 rfl rfl)
  obtain ⟨t, t0, rfl⟩ := ty_pt (h 9 _ p9 rfl rfl)
  obtain ⟨k, k0, rfl⟩ := ty_kp (h 10 _ p10 rfl rfl)
  obtain ⟨e, rfl⟩ := ty_em (h 11 _ p11 rfl rfl)
  obtain ⟨w, rfl⟩ := ty_sw (h 12 _ p12 rfl rfl)
  exact ⟨⟨c0, c1, c2, c3, c4, c5, c6, c7, s.On, s.Metric, s.Max, s.Patience, s.Delta, s.Rel, t.On, t.Metric, t.Max, t.Factor, t.Patience, t.Cooldown, t.Floor, t.Delta, k.On, k.Metric, k.Max, k.Count, e.On, e.Decay, w.On, w.FromU, w.FromN, w.Every⟩, ⟨a0, a4, a5, a7, s0, t0, k0⟩, ⟨a1, a2, a6⟩, rfl⟩
theorem arg_rc {d : Nat} {a : AV} (h : TypedArg Tryz.prog (d + 9) 37 a) : ∃ R : Rc, R.wide ∧ (inI R.steps ∧ inI R.epoch ∧ inI R.eval) ∧ a = .agg R.row := by
 unfold TypedArg at h
 rw [Tryz.underlying37] at h
 obtain ⟨cs, rfl, h⟩ := h
 obtain ⟨R, h1, h2, rfl⟩ := ty_rc h
 exact ⟨R, h1, h2, rfl⟩
theorem lit_lite {R : Rc} (h : R.light = true) (hw : R.wide) : R.fit ∧ R.metrics.length ≤ 1000 ∧ R.groups.length ≤ 1000 ∧ R.phases.length ≤ 1000 ∧ ∀ p ∈ R.phases, p.frozen.length ≤ 1000 ∧ p.sets.length ≤ 1000 := by
 obtain ⟨h1, h2, h3, h4⟩ := light_lit h
 exact ⟨light_fit h hw, by omega, by omega, by omega, fun p hp => by obtain ⟨a1, a2, _⟩ := h4 p hp; exact ⟨by omega, by omega⟩⟩
end
noncomputable section
attribute [local irreducible] Next Inside Runs Ops table
attribute [local go_sem] szStr szInt Option.getD_some isNil evStr iv loadStr loadInt rowsFl_len niFl ldFl
def sameFG : List AV → Mem → Option (AV × Mem)
 | [.lst _ 3 rows, .lst _ 3 rows2], m =>
  match unsFl rows with
  | some l => open Classical in if l.length ≤ 1000000 ∧ rows2 = rowsFl l then some (.v (.bool true), m) else none
  | none => none
 | _, _ => none
theorem sameFG_at {m : Mem} {g g2 : Grow} {l : List Fl} (h : l.length ≤ 1000000) : sameFG [.lst g 3 (rowsFl l), .lst g2 3 (rowsFl l)] m = some (.v (.bool true), m) := by
 simp only [sameFG, unsFl_rowsFl]
 rw [if_pos ⟨h, trivial⟩]
def kpSame20 : Nat → Option (List Nat) := fun
 | 0 => some [0, 1]
 | 1 => some [0, 1, 10]
 | 2 => some [4]
 | 3 => some [0, 1, 5]
 | 4 => some [0, 1, 5, 14]
 | 5 => some [0, 1, 5]
 | 6 => some [0, 1, 5, 25]
 | 7 => some [4]
 | 8 => some [4]
 | _ => none
attribute [go_sem] kpSame20
theorem sameF_ok : FunOk Tryz.prog 15 sameFG := by
 have hC := table_ok (P := Tryz.prog) (l := []) table_nil
 refine fun_ok mixed hC Tryz.func15 rfl kpSame20 false rfl fun args m r h => ?_
 unfold sameFG at h
 split at h
 ·rename_i g rows g2 rows2
  split at h
  ·rename_i l hl
   obtain rfl := unsFl_some hl
   split at h
   ·rename_i hyp
    obtain ⟨hlen, rfl⟩ := hyp
    simp only [Option.some.injEq] at h
    subst h
    refine ⟨Nat.le_of_ble_eq_true rfl, ?_⟩
    refine en ?_
    have b0 : ((l.length : Int) != (l.length : Int)) = false := by simp
    refine go1 @b0 ?_
    refine runs_cond rfl (fun hc => by cases hc) (fun hc => ?_)
    refine go0 ?_
    refine runs_loop (fun k e m' => ∃ (i : Nat), i ≤ l.length ∧ m = m' ∧ k = l.length - i ∧
     e = [(0, AV.lst g 3 (rowsFl l)), (1, .lst g2 3 (rowsFl l)), (5, .v (.int .i64 (i : Int)))]) (k := l.length) ⟨0, Nat.zero_le _, rfl, rfl, rfl⟩ ?_
    rintro k e m' ⟨i, hi, rfl, rfl, rfl⟩
    refine go0 ?_
    refine runs_cond rfl (fun hc => ?_) (fun hc => ?_)
    ·have hi1 : i < l.length := by have := of_decide_eq_true hc; omega
     have f1 := atFl (g := g) (kk := .i64) hi1
     have f2 := atFl (g := g2) (kk := .i64) hi1
     have r6 := next_i64 (i := i) (by omega)
     generalize l.getD i fl0 = x at f1 f2
     have e1 : eqTy Tryz.prog 8 83 (.agg x.row) (.agg x.row) = some true := by rw [eqFl]; simp
     have w1 : (!true) = false := rfl
     refine go0 ?_
     refine runs_ops_drawn_kept (by kernel_rfl) ?_
     refine go1 (jn @f1 (jn @f2 (jn @e1 @w1))) ?_
     refine runs_cond rfl (fun hc => by cases hc) (fun hc => ?_)
     refine go1 @r6 ?_
     exact ⟨l.length - (i + 1), by omega, i + 1, hi1, rfl, rfl, rfl⟩
    ·refine go0 ?_
     exact leaves_v rfl rfl
   ·cases h
  ·cases h
 ·cases h
end
end Go.Proofs.YtojaokhkbmiidaaGreat.Ev
