/- The law SweepChoices. -/
import Derived.Test.YtmockbddhhmmeaaMbjkk5
import Derived.Test.YtmockbddhhmmeaaRows
import Derived.Test.YtmockbddhhmmeaaMbjkk6
import Derived.KernelRfl
namespace Go.Proofs.Ytmockbddhhmmeaa.Ev
open Go Go.Proofs
set_option maxRecDepth 10000
set_option maxHeartbeats 8000000
set_option linter.unusedVariables false
set_option linter.unusedSimpArgs false
noncomputable section
attribute [local irreducible] Next Inside Runs Ops table
attribute [local go_sem] szStr szInt Option.getD_some isNil evStr iv loadInt rowsI_len rowsAx_len mapAx feAxVals leAxVals
theorem nats_back {l : List Ax} {c : List Int} (h : mayC l c = true) : intsN (natsI c) = c ∧ c.length = l.length ∧ ∀ i, i < l.length → (natsI c).getD i 0 < (lensA l).getD i 0 := by
 unfold mayC at h
 rw [Bool.and_eq_true, decide_eq_true_eq] at h
 obtain ⟨hl, ha⟩ := h
 have hin : ∀ i, i < l.length → 0 ≤ c.getD i 0 ∧ c.getD i 0 < (((l.getD i ax0).vals.length : Nat) : Int) := fun i hi => by
  have := List.all_eq_true.1 ha i (List.mem_range.2 hi)
  unfold inC at this
  simpa using this
 refine ⟨?_, hl, fun i hi => ?_⟩
 ·apply getD_ext (d := 0) (by rw [intsN_len, natsI, List.length_map])
  intro i hi
  have hi2 : i < c.length := by rw [intsN_len, natsI, List.length_map] at hi; exact hi
  have := (hin i (by omega)).1
  have e : (intsN (natsI c)).getD i 0 = (((c.getD i 0).toNat : Nat) : Int) := by simp [intsN, natsI, List.getD, hi2]
  rw [e]
  omega
 ·rw [lensA_get hi]
  have := hin i hi
  have e : (natsI c).getD i 0 = (c.getD i 0).toNat := by simp [natsI, List.getD, show i < c.length by omega]
  rw [e]
  omega
theorem may_num {l : List Ax} {c : List Int} (hb : badL l = false) (h : mayC l c = true) : choiceL l (numL (lensA l) (natsI c) 0) = c ∧ numL (lensA l) (natsI c) 0 < prodL (lensA l) := by
 obtain ⟨h1, h2, h3⟩ := nats_back h
 obtain ⟨a1, a2⟩ := dig_num (l := lensA l) (cs := natsI c) (fun a ha => ((good_lens hb).2 a ha).1) (by rw [lensA_len, natsI, List.length_map, h2]) (by rw [lensA_len]; exact h3)
 exact ⟨by unfold choiceL; rw [a1, h1], a2⟩
theorem choice_num {l : List Ax} {n : Nat} (hb : badL l = false) (hn : n < prodL (lensA l)) : mayC l (choiceL l n) = true ∧ numL (lensA l) (natsI (choiceL l n)) 0 = n := by
 have hpos : ∀ a ∈ lensA l, 0 < a := fun a ha => ((good_lens hb).2 a ha).1
 have e : natsI (choiceL l n) = digL (lensA l) n := by
  unfold natsI choiceL intsN
  rw [List.map_map]
  exact (List.map_congr_left fun a _ => Int.toNat_natCast a).trans (List.map_id _)
 refine ⟨?_, by rw [e, num_dig n hpos, Nat.mod_eq_of_lt hn]⟩
 unfold mayC
 rw [decide_eq_true (choiceL_len l n), Bool.true_and]
 refine all_yes fun i hi => ?_
 have hlt := dig_lt n hpos i (by rw [lensA_len]; exact hi)
 rw [lensA_get hi] at hlt
 have e2 : (choiceL l n).getD i 0 = (((digL (lensA l) n).getD i 0 : Nat) : Int) := by simp [choiceL, intsN, List.getD, digL_len, lensA_len, hi]
 unfold inC
 rw [e2, decide_eq_true (by omega), decide_eq_true (by omega)]
 rfl
def mayT (l : List Ax) (c : List Int) (i : Nat) : Bool := decide (c.length = l.length) && (List.range i).all (inC l c)
theorem mayT_succ (l : List Ax) (c : List Int) (i : Nat) : mayT l c (i + 1) = (mayT l c i && inC l c i) := by
 unfold mayT
 rw [List.range_succ, List.all_append, ← Bool.and_assoc]
 simp
theorem mayT_end {l : List Ax} {c : List Int} {i : Nat} (hi : i ≤ l.length) (h : mayT l c i = false) : mayC l c = false := by
 cases hm : mayC l c with
 | false => rfl
 | true =>
  unfold mayC at hm
  unfold mayT at h
  rw [Bool.and_eq_true] at hm
  rw [hm.1, Bool.true_and] at h
  rw [all_yes fun j hj => List.all_eq_true.1 hm.2 j (List.mem_range.2 (by omega))] at h
  cases h
def choicesLawG (w : Bool) : List AV → Mem → Option (AV × Mem)
 | [.lst _ 5 rows, .v (.int .i64 n), .lst _ 1 rows2], m =>
  match unsAx rows, unJ rows2 with
  | some l, some c => if w = true ∧ inI n then some (.v (.bool true), m) else none
  | _, _ => none
 | _, _ => none
def kpChoicesLaw : Nat → Option (List Nat) := fun
 | 0 => some [0, 1, 2]
 | 1 => some [0, 1, 2, 26]
 | 2 => some [6]
 | 3 => some [0, 1, 2, 7, 8]
 | 4 => some [0, 1, 2, 7, 8, 9, 10]
 | 5 => some [0, 1, 2, 7, 8, 9, 10, 11, 12]
 | 6 => some [0, 1, 2, 7, 8, 9, 10, 11, 12, 13, 14]
 | 7 => some [0, 1, 2, 7, 10, 11, 12, 13, 14, 57]
 | 8 => some [6]
 | 9 => some [0, 1, 2, 7, 10, 11, 12, 13, 14, 59]
 | 10 => some [6]
 | 11 => some [0, 1, 2, 7, 11, 12, 13, 14, 15]
 | 12 => some [0, 1, 2, 7, 11, 12, 13, 14, 15, 16]
 | 13 => some [0, 1, 2, 7, 11, 12, 13, 14, 15, 16, 91]
 | 14 => some [0, 1, 2, 7, 11, 12, 13, 14, 15, 16]
 | 15 => some [0, 1, 2, 7, 11, 12, 13, 14, 15, 16]
 | 16 => some [0, 1, 2, 7, 11, 12, 13, 15, 127]
 | 17 => some [6]
 | 18 => some [0, 1, 7, 11, 12, 145]
 | 19 => some [6]
 | 20 => some [0, 1, 11, 12, 152]
 | 21 => some [6]
 | 22 => some [0, 1, 11, 12, 17, 18]
 | 23 => some [6]
 | _ => none
attribute [go_sem] kpChoicesLaw
def tab_choicesLaw_ok : List (FuncId × (List AV → Mem → Option (AV × Mem))) := [(6, liteG), (7, yesG), (16, countG), (9, countG), (17, choiceG), (18, numberG), (14, rchoiceG), (19, sameJG)]
theorem choicesLaw_ok : FunOk Try.prog 4 (choicesLawG true) := by
 have hC := table_ok (P := Try.prog) (l := tab_choicesLaw_ok) (table_more lite_ok (table_more awake56_ok (table_more count_ok (table_more rcount_ok (table_more choice_ok (table_more number_ok (table_more rchoice_ok (table_more sameJ_ok table_nil))))))))
 have t1 := fun args mm => table_at (l := tab_choicesLaw_ok) (f := 6) (args := args) (m := mm) rfl
 have t2 := fun args mm => table_at (l := tab_choicesLaw_ok) (f := 7) (args := args) (m := mm) rfl
 have t3 := fun args mm => table_at (l := tab_choicesLaw_ok) (f := 16) (args := args) (m := mm) rfl
 have t4 := fun args mm => table_at (l := tab_choicesLaw_ok) (f := 9) (args := args) (m := mm) rfl
 have t5 := fun args mm => table_at (l := tab_choicesLaw_ok) (f := 17) (args := args) (m := mm) rfl
 have t6 := fun args mm => table_at (l := tab_choicesLaw_ok) (f := 18) (args := args) (m := mm) rfl
 have t7 := fun args mm => table_at (l := tab_choicesLaw_ok) (f := 14) (args := args) (m := mm) rfl
 have t8 := fun args mm => table_at (l := tab_choicesLaw_ok) (f := 19) (args := args) (m := mm) rfl
 refine fun_ok mixed hC Try.func4 rfl kpChoicesLaw false rfl fun args m r h => ?_
 unfold choicesLawG at h
 split at h
 ·rename_i g rows n g2 rows2
  split at h
  ·rename_i l c hl0 hc0
   obtain rfl := unsAx_some hl0
   obtain rfl := unJ_some hc0
   split at h
   ·rename_i hyp
    obtain ⟨_, hin⟩ := hyp
    simp only [Option.some.injEq] at h
    subst h
    refine ⟨Nat.le_of_ble_eq_true rfl, ?_⟩
    refine en ?_
    have fin : ∀ (e : Env), Ev.get e 6 = .v (.bool true) → Leaves Try.prog false Try.f4 m (.v (.bool true), m) .ret e m := fun e h1 => leaves_v rfl h1
    have f1 := fun mm => liteG_eq (m := mm) (g := .no) (l := l)
    have w1 : (!true) = false := rfl
    have w2 : (!false) = true := rfl
    have tt : (true != true) = false := rfl
    have ff : (false != false) = false := rfl
    by_cases hok : axOk l
    ·rw [decide_eq_true hok] at f1
     cases q0 : decide ((c.length : Int) > 20) with
     | true =>
      refine go1 (jn @t1 (jn @f1 (jn @w1 @q0))) ?_
      refine runs_cond rfl (fun hc => ?_) (fun hc => by cases hc)
      refine go1 (jn @t2 @yes_eq) ?_
      exact fin _ rfl
     | false =>
      have hc20 : c.length ≤ 20 := by have := of_decide_eq_false q0; omega
      have f3 := fun mm => countG_eq (m := mm) (g := .no) hok
      have f5 := fun mm => choiceG_eq (m := mm) (g := .no) (n := n) hok
      have f6 := fun (c : List Int) (h : c.length ≤ 100) mm => numberG_eq (m := mm) (g := .no) (g2 := .no) hok h
      have f6c := f6 c (by omega)
      have e1 : ((countV l).1 != (countV l).1) = false := by simp
      have e2 : ((countV l).2 != (countV l).2) = false := by simp
      refine go1 (jn @t1 (jn @f1 (jn @w1 @q0))) ?_
      refine runs_cond rfl (fun hc => by cases hc) (fun hc => ?_)
      refine go1 (jn @t3 (jn @t4 (jn @f3 (jn @t5 (jn @f5 (jn @t6 (jn @f6c (jn @e1 @e2)))))))) ?_
      refine runs_cond rfl (fun hc => by cases hc) (fun hc => ?_)
      by_cases h0 : (countV l).2 = 0
      ·obtain ⟨hb, hc1, hp⟩ := count_ok0 h0
       have hch := choosy_of hb
       have hpp := prodL_pos fun a ha => ((good_lens hb).2 a ha).1
       have b0 : ((countV l).2 != 0) = false := by rw [h0]; rfl
       have hN : numV l c = if mayC l c = true then (((numL (lensA l) (natsI c) 0 : Nat) : Int), (0 : Int)) else (0, 1) := by unfold numV; rw [if_neg (by simpa using h0)]
       have hl0' : decide (((c.length : Nat) : Int) = ((l.length : Nat) : Int)) = mayT l c 0 := by
        unfold mayT
        rw [Bool.eq_iff_iff]
        simp
        omega
       have hl0 : (((c.length : Nat) : Int) == ((l.length : Nat) : Int)) = mayT l c 0 := by rw [← hl0']; rfl
       refine go1 @b0 ?_
       refine runs_cond rfl (fun hc => by cases hc) (fun hc => ?_)
       refine go1 @hl0 ?_
       refine runs_loop (fun k e m' => ∃ (i : Nat), i ≤ l.length ∧ m = m' ∧ k = l.length - i ∧
        e = [(0, AV.lst g 5 (rowsAx l)), (1, .v (.int .i64 n)), (2, .lst g2 1 (rowsI c)), (7, .v (.int .i64 (countV l).1)), (11, .lst .no 1 (rowsI (choiceV l n).1)), (12, .v (.int .i64 (choiceV l n).2)), (13, .v (.int .i64 (numV l c).1)), (14, .v (.int .i64 (numV l c).2)), (15, .v (.bool (mayT l c i))), (16, .v (.int .i64 (i : Int)))]) (k := l.length)
        ⟨0, Nat.zero_le _, rfl, rfl, rfl⟩ ?_
       rintro k e m' ⟨i, hi0, rfl, rfl, rfl⟩
       by_cases hgo : i < l.length ∧ mayT l c i = true
       ·obtain ⟨hi1, hm⟩ := hgo
        have hcl : c.length = l.length := by
         unfold mayT at hm
         rw [Bool.and_eq_true] at hm
         exact of_decide_eq_true hm.1
        have q1 : decide ((i : Int) < (l.length : Int)) = true := decide_eq_true (by omega)
        have f7 := atAx (g := g) (kk := .i64) hi1
        have f8 := atInts (g := g2) (kk := .i64) (l := c) (i := i) (by omega)
        have hS := mayT_succ l c i
        rw [hm, Bool.true_and] at hS
        have hI : inC l c i = (decide (c.getD i 0 ≥ 0) && decide (c.getD i 0 < (((l.getD i ax0).vals.length : Nat) : Int))) := rfl
        have r6 := next_i64 (i := i) (by have := hok.1; omega)
        generalize l.getD i ax0 = x at f7 hI
        generalize c.getD i 0 = v at f8 hI
        rw [hm]
        refine go1 @q1 ?_
        refine runs_cond rfl (fun hc => ?_) (fun hc => by cases hc)
        refine go0 ?_
        refine runs_ops_drawn_tight (by kernel_rfl) (by kernel_rfl) ?_
        cases q2 : decide (v ≥ 0) with
        | true =>
         rw [q2, Bool.true_and] at hI
         refine go1 (jn @f8 (jn @q2 (jn @f7 @r6))) ?_
         exact ⟨l.length - (i + 1), by omega, i + 1, hi1, rfl, rfl, by rw [hS, hI]⟩
        | false =>
         rw [q2, Bool.false_and] at hI
         refine go1 (jn @f8 (jn @q2 @r6)) ?_
         exact ⟨l.length - (i + 1), by omega, i + 1, hi1, rfl, rfl, by rw [hS, hI]⟩
       ·have hME : mayT l c i = mayC l c := by
         by_cases hi1 : i < l.length
         ·have hf : mayT l c i = false := by
           cases hq : mayT l c i with
           | false => rfl
           | true => exact absurd ⟨hi1, hq⟩ hgo
          rw [hf, mayT_end hi0 hf]
         ·have : i = l.length := by omega
          subst this
          rfl
        rw [hN]
        refine go0 ?_
        refine ops_rcut [(0, AV.lst g 5 (rowsAx l)), (1, .v (.int .i64 n)), (2, .lst g2 1 (rowsI c)), (7, .v (.int .i64 (countV l).1)), (11, .lst .no 1 (rowsI (choiceV l n).1)), (12, .v (.int .i64 (choiceV l n).2)),
         (13, .v (.int .i64 (if mayC l c = true then (((numL (lensA l) (natsI c) 0 : Nat) : Int), (0 : Int)) else (0, 1)).1)), (14, .v (.int .i64 (if mayC l c = true then (((numL (lensA l) (natsI c) 0 : Nat) : Int), (0 : Int)) else (0, 1)).2)), (15, .v (.bool (mayC l c))), (16, .v (.int .i64 (i : Int))), (91, .v (.bool false))] m ?_ ?_
        ·cases q1 : decide ((i : Int) < (l.length : Int)) with
         | true =>
          have hf : mayT l c i = false := by
           cases hq : mayT l c i with
           | false => rfl
           | true => exact absurd ⟨by have := of_decide_eq_true q1; omega, hq⟩ hgo
          rw [← hME, hf]
          refine go0 ?_
          exact ⟨rfl, rfl⟩
         | false =>
          rw [hME]
          refine go0 ?_
          exact ⟨rfl, rfl⟩
        refine next_normal ?_
        refine runs_cond rfl (fun hc => by cases hc) (fun hc => ?_)
        have z1 : ((0 : Int) == 0) = true := rfl
        have z2 : ((1 : Int) == 0) = false := rfl
        have z3 : ((0 : Int) != 0) = false := rfl
        have z4 : ((1 : Int) != 1) = false := rfl
        refine go0 ?_
        refine ops_rcut [(0, AV.lst g 5 (rowsAx l)), (1, .v (.int .i64 n)), (2, .lst g2 1 (rowsI c)), (7, .v (.int .i64 (countV l).1)), (11, .lst .no 1 (rowsI (choiceV l n).1)), (12, .v (.int .i64 (choiceV l n).2)),
         (13, .v (.int .i64 (if mayC l c = true then (((numL (lensA l) (natsI c) 0 : Nat) : Int), (0 : Int)) else (0, 1)).1)), (15, .v (.bool (mayC l c))), (127, .v (.bool false))] m ?_ ?_
        ·cases hM : mayC l c with
         | true =>
          rw [if_pos rfl]
          refine go1 (jn @z1 (jn @tt @w1)) ?_
          exact ⟨rfl, rfl⟩
         | false =>
          rw [if_neg (by decide)]
          refine go1 (jn @z2 (jn @ff (jn @w2 (jn @z3 @z4)))) ?_
          exact ⟨rfl, rfl⟩
        refine next_normal ?_
        refine runs_cond rfl (fun hc => by cases hc) (fun hc => ?_)
        refine go0 ?_
        refine ops_rcut [(0, AV.lst g 5 (rowsAx l)), (1, .v (.int .i64 n)), (7, .v (.int .i64 (countV l).1)), (11, .lst .no 1 (rowsI (choiceV l n).1)), (12, .v (.int .i64 (choiceV l n).2)), (145, .v (.bool false))] m ?_ ?_
        ·cases hM : mayC l c with
         | true =>
          obtain ⟨m1, m2⟩ := may_num hb hM
          rw [if_pos rfl]
          have f9 := fun mm => rchoiceG_eq (m := mm) (g := .no) (n := numL (lensA l) (natsI c) 0) hch (by omega)
          rw [m1] at f9
          have f10 := fun mm => sameJG_eq (m := mm) (g := .no) (g2 := .no) (l := c) (l2 := c) (by omega) (by omega)
          rw [decide_eq_true rfl] at f10
          generalize numL (lensA l) (natsI c) 0 = N at f9 m2
          have d1 : decide (((N : Nat) : Int) < 0) = false := decide_eq_false (by omega)
          have d2 : decide (((N : Nat) : Int) ≥ (countV l).1) = false := decide_eq_false (by omega)
          refine go1 (jn @d1 (jn @d2 (jn @t7 (jn @f9 (jn @t8 (jn @f10 @w1)))))) ?_
          exact ⟨rfl, rfl⟩
         | false =>
          refine go0 ?_
          exact ⟨rfl, rfl⟩
        refine next_normal ?_
        refine runs_cond rfl (fun hc => by cases hc) (fun hc => ?_)
        have hC : choiceV l n = if inB n 0 ((countV l).1 - 1) = true then (choiceL l n.toNat, 0) else ([], 3) := by unfold choiceV; rw [if_neg (by simpa using h0)]
        by_cases hr : 0 ≤ n ∧ n < (countV l).1
        ·obtain ⟨hr0, hr1⟩ := hr
         have hB : inB n 0 ((countV l).1 - 1) = true := by unfold inB; exact decide_eq_true (by omega)
         rw [hB, if_pos rfl] at hC
         obtain ⟨N, rfl⟩ := Int.eq_ofNat_of_zero_le hr0
         rw [Int.toNat_natCast] at hC
         rw [hC]
         have d1 : decide (((N : Nat) : Int) < 0) = false := decide_eq_false (by omega)
         have d2 : decide (((N : Nat) : Int) ≥ (countV l).1) = false := decide_eq_false (by omega)
         obtain ⟨k1, k2⟩ := choice_num (l := l) (n := N) hb (by omega)
         have f9 := fun mm => rchoiceG_eq (m := mm) (g := .no) (n := N) hch (by omega)
         have hcl := choiceL_len l N
         have h12 := hok.1
         have f10 := fun mm => sameJG_eq (m := mm) (g := .no) (g2 := .no) (l := choiceL l N) (l2 := choiceL l N) (by omega) (by omega)
         rw [decide_eq_true rfl] at f10
         have f11 := f6 (choiceL l N) (by omega)
         have hN2 : numV l (choiceL l N) = (((N : Nat) : Int), 0) := by unfold numV; rw [if_neg (by simpa using h0), k1, if_pos rfl, k2]
         rw [hN2] at f11
         have z5 : (((N : Nat) : Int) == ((N : Nat) : Int)) = true := by simp
         refine go1 (jn @d1 @d2) ?_
         refine runs_cond rfl (fun hc => by cases hc) (fun hc => ?_)
         refine go1 (jn @t6 @f11) ?_
         refine go1 (jn @z1 (jn @t7 (jn @f9 (jn @t8 (jn @f10 (jn @z5 (jn @t2 @yes_eq))))))) ?_
         exact fin _ rfl
        ·have hB : inB n 0 ((countV l).1 - 1) = false := by unfold inB; exact decide_eq_false (by omega)
         rw [hB, if_neg (by decide)] at hC
         rw [hC]
         have z6 : (((([] : List Int).length : Nat) : Int) == 0) = true := rfl
         have z7 : ((3 : Int) == 3) = true := rfl
         refine go0 ?_
         refine ops_rcut [(0, AV.lst g 5 (rowsAx l)), (1, .v (.int .i64 n)), (11, .lst .no 1 (rowsI [])), (12, .v (.int .i64 3)), (152, .v (.bool true))] m ?_ ?_
         ·cases d1 : decide (n < 0) with
          | true =>
           refine go0 ?_
           exact ⟨rfl, rfl⟩
          | false =>
           have d2 : decide (n ≥ (countV l).1) = true := decide_eq_true (by have := of_decide_eq_false d1; omega)
           refine go1 @d2 ?_
           exact ⟨rfl, rfl⟩
         refine next_normal ?_
         refine runs_cond rfl (fun hc => ?_) (fun hc => by cases hc)
         refine go1 (jn @z6 (jn @z7 (jn @t2 @yes_eq))) ?_
         exact fin _ rfl
      ·have b0 : ((countV l).2 != 0) = true := by simpa using h0
       have hC : choiceV l n = ([], (countV l).2) := by unfold choiceV; rw [if_pos h0]
       have hN : numV l c = (0, (countV l).2) := by unfold numV; rw [if_pos h0]
       rw [hC, hN]
       have z0 : (((([] : List Int).length : Nat) : Int) == 0) = true := rfl
       have z1 : ((0 : Int) == 0) = true := rfl
       have z2 : ((countV l).2 == (countV l).2) = true := by simp
       refine go1 @b0 ?_
       refine runs_cond rfl (fun hc => ?_) (fun hc => by cases hc)
       refine go1 (jn @z0 (jn @z1 (jn @z2 (jn @t2 @yes_eq)))) ?_
       exact fin _ rfl
    ·rw [decide_eq_false hok] at f1
     refine go1 (jn @t1 (jn @f1 @w2)) ?_
     refine runs_cond rfl (fun hc => ?_) (fun hc => by cases hc)
     refine go1 (jn @t2 @yes_eq) ?_
     exact fin _ rfl
   ·cases h
  ·cases h
 ·cases h
end
end Go.Proofs.Ytmockbddhhmmeaa.Ev
namespace Go.Proofs.Ytmockbddhhmmeaa.sweepChoices
open Go Go.Proofs Go.ChangeShapes Go.WideShapes Go.ChangeAt Go.RowKit
set_option linter.unusedVariables false
theorem own : ownKnob Try.prog.godebug = none := by kernel_rfl
theorem laid : laidOutB Try.prog = true := by kernel_rfl
theorem same_left {H : Type} : ∀ ds : List (DataW H), ds.length = 3 → Rows.sweepChoicesSpec.fn H ds = { results := [.lit (.bool true)], args := ds }
 | [d0, d1, d2], _ => rfl
set_option maxRecDepth 100000 in
theorem holds_at : ∀ vs, Ev.TypedAll Try.prog 12 [38, 3, 51] vs → ∃ m', Ev.choicesLawG true vs ⟨[], []⟩ = some (.v (.bool true), m') := by
 rintro (_ | ⟨a, _ | ⟨b, _ | ⟨c, _ | ⟨x, r⟩⟩⟩⟩) h
 ·exact h.elim
 ·exact h.2.elim
 ·exact h.2.2.elim
 ·obtain ⟨h0, h1, h2, _⟩ := h
  obtain ⟨l, rfl⟩ := Ev.arg_axs h0
  obtain ⟨n, rfl, n0, n1⟩ := Ev.arg_int Try.underlying3 h1
  obtain ⟨c, rfl⟩ := Ev.arg_ints3 h2
  refine ⟨⟨[], []⟩, ?_⟩
  simp only [Ev.choicesLawG, Ev.unsAx_rowsAx, Ev.unJ_rowsI]
  exact if_pos ⟨trivial, by simpa [Ev.inI, IntKind.min, IntKind.max, IntKind.signed, IntKind.bits] using And.intro n0 n1⟩
 ·exact h.2.2.2.elim
set_option maxRecDepth 100000 in
theorem lifted (os : Os) (started : os.Started) (H : Type) (enc : TypeId × Value → H) :
  ReturnsInHanded {} Try.checked os 4 .any (Rows.sweepChoicesSpec.pre6 enc Try.prog Try.f4 Rows.sweepChoicesRow.domain false) (Rows.sweepChoicesSpec.post enc Try.prog Try.f4 false true false false) :=
 Ev.law_lifted (C := Try.checked) own started (by kernel_rfl) Try.func4
  (ChangeSpec.witness6 (enc := enc) (C := Try.checked) false ⟨#[], #[.slice none 0 0, .int .i64 0, .slice none 0 0], []⟩ 8 (by kernel_rfl) (by kernel_rfl) (by kernel_rfl) (by kernel_rfl))
  laid rfl [38, 3, 51] Try.params4 12 (by kernel_rfl) (tb := 4) rfl Try.underlying4 same_left Ev.choicesLaw_ok holds_at
theorem over : Rows.sweepChoicesRow.holds Try.pinned (OpenSpec.ofChange Rows.sweepChoicesSpec) :=
 OpenClaim.holds_of_wide 4 Try.f4 rfl rfl rfl rfl rfl rfl rfl ⟨rfl, rfl, rfl, rfl, rfl⟩ rfl rfl rfl rfl rfl (by kernel_rfl) Try.func4 (by kernel_rfl)
  (of_decide_eq_true (by kernel_rfl)) (by unfold Func.isWrapper; first | (rw [if_pos (by decide +kernel)]; kernel_rfl) | (rw [if_neg (by decide +kernel)]; exact ⟨rfl, rfl⟩))
  (fun os started H enc _ => lifted os started H enc)
theorem proved : Rows.SweepChoicesSaid := over
end Go.Proofs.Ytmockbddhhmmeaa.sweepChoices
namespace Go.Proofs.Ytmockbddhhmmeaa
/-- The row, under a short name, for the claim. -/
theorem sweepChoices_holds : Rows.SweepChoicesSaid := sweepChoices.proved
end Go.Proofs.Ytmockbddhhmmeaa
