/- Lengths: how many steps they are. -/
import Derived.Test.YtojaokhkbmiidaaGreatMbehb2
import Derived.Test.YtojaokhkbmiidaaGreatMbehb5
namespace Go.Proofs.YtojaokhkbmiidaaGreat.Ev
open Go Go.Proofs
set_option maxRecDepth 10000
set_option maxHeartbeats 8000000
set_option linter.unusedVariables false
set_option linter.unusedSimpArgs false
section
attribute [local irreducible] Next Inside Runs Ops table
attribute [local go_sem] szStr szInt Option.getD_some isNil evStr len0 len1 loadOne loadLen cellsLen newLen Nat.zero_add List.drop_zero List.drop_succ_cons List.head?_cons evMinMax evFoldI
def lenV (u n of ep : Int) : Int := if u = 0 then n else if u = 1 then n * ep else if u = 2 then (of * n).tdiv 100 else of
def inS (x : Int) : Prop := 0 ≤ x ∧ x ≤ 1048576
instance (x : Int) : Decidable (inS x) := by unfold inS; exact inferInstance
theorem mul_in {a b A B : Int} (h0 : 0 ≤ a) (h1 : a ≤ A) (h2 : 0 ≤ b) (h3 : b ≤ B) : 0 ≤ a * b ∧ a * b ≤ A * B :=
 ⟨Int.mul_nonneg h0 h2, Int.mul_le_mul h1 h3 h2 (by omega)⟩
theorem tdiv_in {a : Int} (h0 : 0 ≤ a) : a.tdiv 100 = a / 100 := Int.tdiv_eq_ediv_of_nonneg h0
theorem lenV_in {u n of ep : Int} (h : lenMay u n) (h1 : inS of) (h2 : inS ep) : 0 ≤ lenV u n of ep ∧ lenV u n of ep ≤ 1152921504606846976 := by
 unfold lenMay at h
 unfold inS at h1 h2
 unfold lenV
 split
 ·omega
 ·split
  ·exact (mul_in (B := 1048576) h.1 h.2.1 h2.1 h2.2)
  ·split
   ·rename_i h3
    have := mul_in (B := 100) h1.1 h1.2 h.1 (h.2.2.2.2.1 h3)
    rw [tdiv_in this.1]
    omega
   ·omega
def stepsLG : List AV → Mem → Option (AV × Mem)
 | [.agg [.v (.int .i64 u), .v (.int .i64 n)], .v (.int .i64 of), .v (.int .i64 ep)], m =>
  some (if lenMay u n ∧ inS of ∧ inS ep then (if lenV u n of ep > 1099511627776 then .tup [.v (.int .i64 0), .v (.int .i64 4)] else .tup [.v (.int .i64 (lenV u n of ep)), .v (.int .i64 0)]) else .tup [.v (.int .i64 0), .v (.int .i64 1)], m)
 | _, _ => none
def kpStepsL : Nat → Option (List Nat) := fun
 | 0 => some [1, 2, 3]
 | 1 => some [1, 2, 3, 21]
 | 2 => some [6, 7]
 | 3 => some [1, 2, 3, 8]
 | 4 => some [1, 2, 3, 8, 24]
 | 5 => some [1, 2, 3, 8, 24, 25]
 | 6 => some [8]
 | 7 => some [1, 2, 3, 8, 24, 29]
 | 8 => some [8]
 | 9 => some [1, 3, 8, 35]
 | 10 => some [8]
 | 11 => some [8, 43]
 | 12 => some [6, 7]
 | 13 => some [6, 7]
 | _ => none
attribute [go_sem] kpStepsL
def tab_stepsL_ok : List (FuncId × (List AV → Mem → Option (AV × Mem))) := [(104, lenCheckG), (105, withinG)]
theorem stepsL_ok : FunOk Tryz.prog 48 stepsLG := by
 have hC := table_ok (P := Tryz.prog) (l := tab_stepsL_ok) (table_more lenCheck_ok (table_more lenWithin_ok table_nil))
 have t1 := fun args mm => table_at (l := tab_stepsL_ok) (f := 104) (args := args) (m := mm) rfl
 have t2 := fun args mm => table_at (l := tab_stepsL_ok) (f := 105) (args := args) (m := mm) rfl
 refine fun_ok mixed hC Tryz.func48 rfl kpStepsL false rfl fun args m r h => ?_
 unfold stepsLG at h
 split at h
 ·rename_i u n of ep
  simp only [Option.some.injEq] at h
  subst h
  refine ⟨Nat.le_of_ble_eq_true rfl, ?_⟩
  refine en ?_
  have fw : ∀ x lo hi mm, withinG [.v (.int .i64 x), .v (.int .i64 lo), .v (.int .i64 hi)] mm = some (.v (.bool (decide (lo ≤ x ∧ x ≤ hi))), mm) := fun _ _ _ _ => rfl
  by_cases hl : lenMay u n
  ·have f1 : ∀ mm, lenCheckG [.agg [.v (.int .i64 u), .v (.int .i64 n)]] mm = some (.v (.int .i64 0), mm) := fun mm => by simp only [lenCheckG]; rw [if_pos hl]
   have b1 : ((0 : Int) != 0) = false := rfl
   by_cases h1 : inS of
   ·have b2 : (!decide ((0 : Int) ≤ of ∧ of ≤ 1048576)) = false := by rw [decide_eq_true (show 0 ≤ of ∧ of ≤ 1048576 from h1)]; rfl
    by_cases h2 : inS ep
    ·have b3 : (!decide ((0 : Int) ≤ ep ∧ ep ≤ 1048576)) = false := by rw [decide_eq_true (show 0 ≤ ep ∧ ep ≤ 1048576 from h2)]; rfl
     have hV := lenV_in hl h1 h2
     rw [if_pos ⟨hl, h1, h2⟩]
     have fin : ∀ (e : Env) (v : Int), v = lenV u n of ep → Ev.get e 6 = .v (.int .i64 0) → Ev.get e 7 = .v (.int .i64 4) → v > 1099511627776 → Leaves Tryz.prog false Tryz.f48 m ((if lenV u n of ep > 1099511627776 then .tup [.v (.int .i64 0), .v (.int .i64 4)] else .tup [.v (.int .i64 (lenV u n of ep)), .v (.int .i64 0)]), m) .ret e (m.push [.v (.int .i64 u), .v (.int .i64 n)]) := fun e v hv g1 g2 hgt => by
      rw [if_pos (by omega)]
      exact leaves_two rfl (by rw [g1]; rfl) (by rw [g2]; rfl) fin_push
     have fin2 : ∀ (e : Env) (v : Int), v = lenV u n of ep → Ev.get e 6 = .v (.int .i64 v) → Ev.get e 7 = .v (.int .i64 0) → ¬ v > 1099511627776 → Leaves Tryz.prog false Tryz.f48 m ((if lenV u n of ep > 1099511627776 then .tup [.v (.int .i64 0), .v (.int .i64 4)] else .tup [.v (.int .i64 (lenV u n of ep)), .v (.int .i64 0)]), m) .ret e (m.push [.v (.int .i64 u), .v (.int .i64 n)]) := fun e v hv g1 g2 hgt => by
      rw [if_neg (by omega), ← hv]
      exact leaves_two rfl (by rw [g1]; rfl) (by rw [g2]; rfl) fin_push
     have hl' := hl
     unfold lenMay at hl'
     have hu : u = 0 ∨ u = 1 ∨ u = 2 ∨ u = 3 := by omega
     unfold inS at h1 h2
     have w1 : IntKind.i64.wrap (n * ep) = n * ep := by have := mul_in (A := 1099511627776) (B := 1048576) hl'.1 hl'.2.1 h2.1 h2.2; exact i64_wrap (by omega) (by omega)
     rcases hu with rfl | rfl | rfl | rfl
     ·have e1 : lenV 0 n of ep = n := rfl
      repeat' (first | refine gos1 (jn @t1 (jn @f1 (jn @b1 (jn @t2 (jn @fw (jn @b2 @b3)))))) ?_ | (refine ops_here ?_; (fail_if_success (refine ops_case (B := true) rfl rfl rfl ?_ ?_)); (fail_if_success (refine ops_case (B := false) rfl rfl rfl ?_ ?_)); refine ops_case rfl rfl rfl (fun hB => ?_) (fun hB => ?_) <;> rw [hB]) | (refine runs_here ?_; refine runs_cond rfl (fun hc => ?_) (fun hc => ?_) <;> first | (cases hc; done) | skip))
      all_goals first | exact fin _ n e1.symm rfl rfl (of_decide_eq_true (by assumption)) | exact fin2 _ n e1.symm rfl rfl (of_decide_eq_false (by assumption))
     ·have e1 : lenV 1 n of ep = n * ep := rfl
      repeat' (first | refine gos1 (jn @t1 (jn @f1 (jn @b1 (jn @t2 (jn @fw (jn @b2 (jn @b3 @w1))))))) ?_ | (refine ops_here ?_; (fail_if_success (refine ops_case (B := true) rfl rfl rfl ?_ ?_)); (fail_if_success (refine ops_case (B := false) rfl rfl rfl ?_ ?_)); refine ops_case rfl rfl rfl (fun hB => ?_) (fun hB => ?_) <;> rw [hB]) | (refine runs_here ?_; refine runs_cond rfl (fun hc => ?_) (fun hc => ?_) <;> first | (cases hc; done) | skip))
      all_goals first | exact fin _ _ e1.symm rfl rfl (of_decide_eq_true (by assumption)) | exact fin2 _ _ e1.symm rfl rfl (of_decide_eq_false (by assumption))
     ·have e1 : lenV 2 n of ep = (of * n).tdiv 100 := rfl
      have h100 := hl'.2.2.2.2.1 rfl
      have hm := mul_in (A := 1048576) (B := 100) h1.1 h1.2 hl'.1 h100
      have hd := tdiv_in hm.1
      have w2 : IntKind.i64.wrap (of * n) = of * n := i64_wrap (by omega) (by omega)
      have w3 : IntKind.i64.wrap ((of * n).tdiv 100) = (of * n).tdiv 100 := i64_wrap (by omega) (by omega)
      have n100 : (100 : Int) ≠ 0 := by decide
      repeat' (first | refine gos1 (jn @t1 (jn @f1 (jn @b1 (jn @t2 (jn @fw (jn @b2 (jn @b3 (jn @w2 (jn @w3 @n100))))))))) ?_ | (refine ops_here ?_; (fail_if_success (refine ops_case (B := true) rfl rfl rfl ?_ ?_)); (fail_if_success (refine ops_case (B := false) rfl rfl rfl ?_ ?_)); refine ops_case rfl rfl rfl (fun hB => ?_) (fun hB => ?_) <;> rw [hB]) | (refine runs_here ?_; refine runs_cond rfl (fun hc => ?_) (fun hc => ?_) <;> first | (cases hc; done) | skip))
      all_goals first | exact fin _ _ e1.symm rfl rfl (of_decide_eq_true (by assumption)) | exact fin2 _ _ e1.symm rfl rfl (of_decide_eq_false (by assumption))
     ·have e1 : lenV 3 n of ep = of := rfl
      repeat' (first | refine gos1 (jn @t1 (jn @f1 (jn @b1 (jn @t2 (jn @fw (jn @b2 @b3)))))) ?_ | (refine ops_here ?_; (fail_if_success (refine ops_case (B := true) rfl rfl rfl ?_ ?_)); (fail_if_success (refine ops_case (B := false) rfl rfl rfl ?_ ?_)); refine ops_case rfl rfl rfl (fun hB => ?_) (fun hB => ?_) <;> rw [hB]) | (refine runs_here ?_; refine runs_cond rfl (fun hc => ?_) (fun hc => ?_) <;> first | (cases hc; done) | skip))
      all_goals first | exact fin _ _ e1.symm rfl rfl (of_decide_eq_true (by assumption)) | exact fin2 _ _ e1.symm rfl rfl (of_decide_eq_false (by assumption))
    ·have b3 : (!decide ((0 : Int) ≤ ep ∧ ep ≤ 1048576)) = true := by rw [decide_eq_false (show ¬ (0 ≤ ep ∧ ep ≤ 1048576) from h2)]; rfl
     rw [if_neg (fun h => h2 h.2.2)]
     refine go1 (jn @t1 (jn @f1 (jn @b1 (jn @t2 (jn @fw (jn @b2 @b3)))))) ?_
     refine runs_cond rfl (fun hc => ?_) (fun hc => by cases hc)
     refine go0 ?_
     exact leaves_two rfl rfl rfl fin_push
   ·have b2 : (!decide ((0 : Int) ≤ of ∧ of ≤ 1048576)) = true := by rw [decide_eq_false (show ¬ (0 ≤ of ∧ of ≤ 1048576) from h1)]; rfl
    rw [if_neg (fun h => h1 h.2.1)]
    refine go1 (jn @t1 (jn @f1 (jn @b1 (jn @t2 (jn @fw @b2))))) ?_
    refine runs_cond rfl (fun hc => ?_) (fun hc => by cases hc)
    refine go0 ?_
    exact leaves_two rfl rfl rfl fin_push
  ·have f1 : ∀ mm, lenCheckG [.agg [.v (.int .i64 u), .v (.int .i64 n)]] mm = some (.v (.int .i64 1), mm) := fun mm => by simp only [lenCheckG]; rw [if_neg hl]
   have b1 : ((1 : Int) != 0) = true := rfl
   rw [if_neg (fun h => hl h.1)]
   refine go1 (jn @t1 (jn @f1 (jn @b1 (jn @t2 @fw)))) ?_
   refine runs_cond rfl (fun hc => ?_) (fun hc => by cases hc)
   refine go0 ?_
   exact leaves_two rfl rfl rfl fin_push
 ·cases h
/-! ### the document's -/
def stepsRG : List AV → Mem → Option (AV × Mem)
 | [.agg [.v (.int .i64 u), .v (.int .i64 n)], .v (.int .i64 of), .v (.int .i64 ep)], m =>
  if lenMay u n ∧ inS of ∧ inS ep then some (if lenV u n of ep > 1099511627776 then .tup [.v (.int .i64 0), .v (.int .i64 4)] else .tup [.v (.int .i64 (lenV u n of ep)), .v (.int .i64 0)], m) else none
 | _, _ => none
def kpStepsR : Nat → Option (List Nat) := fun
 | 0 => some [1, 2, 3]
 | 1 => some [1, 2, 3, 8]
 | 2 => some [1, 2, 3, 8, 12]
 | 3 => some [1, 2, 3, 8]
 | 4 => some [1, 2, 3, 8, 17]
 | 5 => some [1, 2, 3, 26]
 | 6 => some [6, 7]
 | 7 => some [1, 3, 8]
 | 8 => some [1, 3, 8, 33]
 | 9 => some [8]
 | 10 => some [6, 7]
 | _ => none
attribute [go_sem] kpStepsR
theorem stepsR_ok : FunOk Tryz.prog 106 stepsRG := by
 have hC := table_ok (P := Tryz.prog) (l := []) table_nil
 refine fun_ok mixed hC Tryz.func106 rfl kpStepsR false rfl fun args m r h => ?_
 unfold stepsRG at h
 split at h
 ·rename_i u n of ep
  split at h
  ·rename_i hb
   obtain ⟨hl, h1, h2⟩ := hb
   simp only [Option.some.injEq] at h
   subst h
   refine ⟨Nat.le_of_ble_eq_true rfl, ?_⟩
   refine en ?_
   have fin : ∀ (e : Env), lenV u n of ep > 1099511627776 → Ev.get e 6 = .v (.int .i64 0) → Ev.get e 7 = .v (.int .i64 4) → Leaves Tryz.prog false Tryz.f106 m ((if lenV u n of ep > 1099511627776 then .tup [.v (.int .i64 0), .v (.int .i64 4)] else .tup [.v (.int .i64 (lenV u n of ep)), .v (.int .i64 0)]), m) .ret e (m.push [.v (.int .i64 u), .v (.int .i64 n)]) := fun e hgt g1 g2 => by
    rw [if_pos hgt]
    exact leaves_two rfl (by rw [g1]; rfl) (by rw [g2]; rfl) fin_push
   have fin2 : ∀ (e : Env) (v : Int), v = lenV u n of ep → Ev.get e 6 = .v (.int .i64 v) → Ev.get e 7 = .v (.int .i64 0) → ¬ v > 1099511627776 → Leaves Tryz.prog false Tryz.f106 m ((if lenV u n of ep > 1099511627776 then .tup [.v (.int .i64 0), .v (.int .i64 4)] else .tup [.v (.int .i64 (lenV u n of ep)), .v (.int .i64 0)]), m) .ret e (m.push [.v (.int .i64 u), .v (.int .i64 n)]) := fun e v hv g1 g2 hgt => by
    rw [if_neg (by omega), ← hv]
    exact leaves_two rfl (by rw [g1]; rfl) (by rw [g2]; rfl) fin_push
   have hl' := hl
   unfold lenMay at hl'
   have hu : u = 0 ∨ u = 1 ∨ u = 2 ∨ u = 3 := by omega
   unfold inS at h1 h2
   rcases hu with rfl | rfl | rfl | rfl
   ·have e1 : lenV 0 n of ep = n := rfl
    repeat' (first | refine gos0 ?_ | (refine ops_here ?_; (fail_if_success (refine ops_case (B := true) rfl rfl rfl ?_ ?_)); (fail_if_success (refine ops_case (B := false) rfl rfl rfl ?_ ?_)); refine ops_case rfl rfl rfl (fun hB => ?_) (fun hB => ?_) <;> rw [hB]) | (refine runs_here ?_; refine runs_cond rfl (fun hc => ?_) (fun hc => ?_) <;> first | (cases hc; done) | skip))
    all_goals exact fin2 _ n e1.symm rfl rfl (by omega)
   ·have e1 : lenV 1 n of ep = n * ep := rfl
    have w1 : IntKind.i64.wrap (n * ep) = n * ep := by have := mul_in (A := 1099511627776) (B := 1048576) hl'.1 hl'.2.1 h2.1 h2.2; exact i64_wrap (by omega) (by omega)
    refine go0 ?_
    refine runs_cond rfl (fun hc => by cases hc) (fun hc => ?_)
    refine go0 ?_
    refine runs_cond rfl (fun hc => ?_) (fun hc => by cases hc)
    refine go0 ?_
    refine runs_ops_drawn_kept (by kernel_rfl) ?_
    by_cases h0 : ep > 0
    ·have b0 : decide (ep > 0) = true := decide_eq_true h0
     have n0 : ep ≠ 0 := by omega
     have hq : (1099511627776 : Int).tdiv ep = 1099511627776 / ep := Int.tdiv_eq_ediv_of_nonneg (by decide)
     have hle : (1099511627776 : Int) / ep ≤ 1099511627776 := Int.ediv_le_self _ (by decide)
     have hge : 0 ≤ (1099511627776 : Int) / ep := Int.ediv_nonneg (by decide) (by omega)
     have w2 : IntKind.i64.wrap ((1099511627776 : Int).tdiv ep) = 1099511627776 / ep := by rw [hq]; exact i64_wrap (by omega) (by omega)
     have hiff : (n > 1099511627776 / ep) ↔ (n * ep > 1099511627776) := by
      constructor
      ·intro hh
       exact Int.lt_mul_of_ediv_lt h0 hh
      ·intro hh
       exact Int.ediv_lt_of_lt_mul h0 hh
     repeat' (first | refine gos1 (jn @b0 (jn @n0 (jn @w1 @w2))) ?_ | (refine ops_here ?_; (fail_if_success (refine ops_case (B := true) rfl rfl rfl ?_ ?_)); (fail_if_success (refine ops_case (B := false) rfl rfl rfl ?_ ?_)); refine ops_case rfl rfl rfl (fun hB => ?_) (fun hB => ?_) <;> rw [hB]) | (refine runs_here ?_; refine runs_cond rfl (fun hc => ?_) (fun hc => ?_) <;> first | (cases hc; done) | skip))
     all_goals first
      | exact fin _ (by rw [e1]; exact hiff.1 (of_decide_eq_true (by assumption))) rfl rfl
      | exact fin2 _ _ e1.symm rfl rfl (fun h => absurd (hiff.2 h) (of_decide_eq_false (by assumption)))
    ·have b0 : decide (ep > 0) = false := decide_eq_false h0
     have h00 : ep = 0 := by omega
     subst h00
     repeat' (first | refine gos1 (jn @b0 @w1) ?_ | (refine ops_here ?_; (fail_if_success (refine ops_case (B := true) rfl rfl rfl ?_ ?_)); (fail_if_success (refine ops_case (B := false) rfl rfl rfl ?_ ?_)); refine ops_case rfl rfl rfl (fun hB => ?_) (fun hB => ?_) <;> rw [hB]) | (refine runs_here ?_; refine runs_cond rfl (fun hc => ?_) (fun hc => ?_) <;> first | (cases hc; done) | skip))
     all_goals exact fin2 _ _ e1.symm rfl rfl (by omega)
   ·have e1 : lenV 2 n of ep = (of * n).tdiv 100 := rfl
    have h100 := hl'.2.2.2.2.1 rfl
    have hm := mul_in (A := 1048576) (B := 100) h1.1 h1.2 hl'.1 h100
    have hd := tdiv_in hm.1
    have w2 : IntKind.i64.wrap (of * n) = of * n := i64_wrap (by omega) (by omega)
    have w3 : IntKind.i64.wrap ((of * n).tdiv 100) = (of * n).tdiv 100 := i64_wrap (by omega) (by omega)
    have n100 : (100 : Int) ≠ 0 := by decide
    repeat' (first | refine gos1 (jn @w2 (jn @w3 @n100)) ?_ | (refine ops_here ?_; (fail_if_success (refine ops_case (B := true) rfl rfl rfl ?_ ?_)); (fail_if_success (refine ops_case (B := false) rfl rfl rfl ?_ ?_)); refine ops_case rfl rfl rfl (fun hB => ?_) (fun hB => ?_) <;> rw [hB]) | (refine runs_here ?_; refine runs_cond rfl (fun hc => ?_) (fun hc => ?_) <;> first | (cases hc; done) | skip))
    all_goals exact fin2 _ _ e1.symm rfl rfl (by omega)
   ·have e1 : lenV 3 n of ep = of := rfl
    repeat' (first | refine gos0 ?_ | (refine ops_here ?_; (fail_if_success (refine ops_case (B := true) rfl rfl rfl ?_ ?_)); (fail_if_success (refine ops_case (B := false) rfl rfl rfl ?_ ?_)); refine ops_case rfl rfl rfl (fun hB => ?_) (fun hB => ?_) <;> rw [hB]) | (refine runs_here ?_; refine runs_cond rfl (fun hc => ?_) (fun hc => ?_) <;> first | (cases hc; done) | skip))
    all_goals exact fin2 _ _ e1.symm rfl rfl (by omega)
  ·cases h
 ·cases h
/-! ### no more than there are -/
def withinV (u n of ep : Int) : Int := if lenV u n of ep > of then of else lenV u n of ep
def inW (x : Int) : Prop := 0 ≤ x ∧ x ≤ 1000000
instance (x : Int) : Decidable (inW x) := by unfold inW; exact inferInstance
theorem withinV_in {u n of ep : Int} (h : lenMay u n) (h1 : inW of) (h2 : inW ep) : 0 ≤ withinV u n of ep ∧ withinV u n of ep ≤ of := by
 have := lenV_in (u := u) (n := n) (of := of) (ep := ep) h ⟨h1.1, by unfold inW at h1; omega⟩ ⟨h2.1, by unfold inW at h2; omega⟩
 unfold inW at h1
 unfold withinV
 split <;> omega
def withinLG : List AV → Mem → Option (AV × Mem)
 | [.agg [.v (.int .i64 u), .v (.int .i64 n)], .v (.int .i64 of), .v (.int .i64 ep)], m =>
  if lenMay u n ∧ inW of ∧ inW ep then some (.v (.int .i64 (withinV u n of ep)), m) else none
 | _, _ => none
theorem withinLG_eq {u n of ep : Int} {m : Mem} (h : lenMay u n) (h1 : inW of) (h2 : inW ep) : withinLG [.agg [.v (.int .i64 u), .v (.int .i64 n)], .v (.int .i64 of), .v (.int .i64 ep)] m = some (.v (.int .i64 (withinV u n of ep)), m) := if_pos ⟨h, h1, h2⟩
def kpWithinL : Nat → Option (List Nat) := fun
 | 0 => some [1, 2, 3]
 | 1 => some [1, 7, 8]
 | 2 => some [1, 7, 8, 17]
 | 3 => some [6]
 | 4 => some [1, 7, 20]
 | 5 => some [6]
 | 6 => some [6]
 | _ => none
attribute [go_sem] kpWithinL
def tab_withinL_ok : List (FuncId × (List AV → Mem → Option (AV × Mem))) := [(48, stepsLG)]
theorem withinL_ok : FunOk Tryz.prog 145 withinLG := by
 have hC := table_ok (P := Tryz.prog) (l := tab_withinL_ok) (table_more stepsL_ok table_nil)
 have t1 := fun args mm => table_at (l := tab_withinL_ok) (f := 48) (args := args) (m := mm) rfl
 refine fun_ok mixed hC Tryz.func145 rfl kpWithinL false rfl fun args m r h => ?_
 unfold withinLG at h
 split at h
 ·rename_i u n of ep
  split at h
  ·rename_i hb
   obtain ⟨hl, h1, h2⟩ := hb
   simp only [Option.some.injEq] at h
   subst h
   refine ⟨Nat.le_of_ble_eq_true rfl, ?_⟩
   refine en ?_
   unfold inW at h1 h2
   have hc : lenMay u n ∧ inS of ∧ inS ep := ⟨hl, ⟨h1.1, by omega⟩, ⟨h2.1, by omega⟩⟩
   by_cases ho : lenV u n of ep > 1099511627776
   ·have f1 : ∀ mm, stepsLG [.agg [.v (.int .i64 u), .v (.int .i64 n)], .v (.int .i64 of), .v (.int .i64 ep)] mm = some (.tup [.v (.int .i64 0), .v (.int .i64 4)], mm) := fun mm => by simp only [stepsLG]; rw [if_pos hc, if_pos ho]
    rw [show withinV u n of ep = of from if_pos (by omega)]
    refine go1 (jn @t1 @f1) ?_
    refine runs_cond rfl (fun hc => ?_) (fun hc => by cases hc)
    refine go0 ?_
    exact leaves_fin rfl rfl fin_push
   ·have f1 : ∀ mm, stepsLG [.agg [.v (.int .i64 u), .v (.int .i64 n)], .v (.int .i64 of), .v (.int .i64 ep)] mm = some (.tup [.v (.int .i64 (lenV u n of ep)), .v (.int .i64 0)], mm) := fun mm => by simp only [stepsLG]; rw [if_pos hc, if_neg ho]
    have e1 : mn (lenV u n of ep) of = withinV u n of ep := rfl
    refine go1 (jn @t1 @f1) ?_
    refine runs_cond rfl (fun hc => by cases hc) (fun hc => ?_)
    refine go0 ?_
    refine runs_cond rfl (fun hc => by cases hc) (fun hc => ?_)
    refine go1 @e1 ?_
    exact leaves_fin rfl rfl fin_push
  ·cases h
 ·cases h
def kpWithinR : Nat → Option (List Nat) := fun
 | 0 => some [1, 2, 3]
 | 1 => some [1, 7, 8]
 | 2 => some [1, 7, 22]
 | 3 => some [6]
 | 4 => some [6]
 | _ => none
attribute [go_sem] kpWithinR
def tab_withinR_ok : List (FuncId × (List AV → Mem → Option (AV × Mem))) := [(106, stepsRG)]
theorem withinR_ok : FunOk Tryz.prog 151 withinLG := by
 have hC := table_ok (P := Tryz.prog) (l := tab_withinR_ok) (table_more stepsR_ok table_nil)
 have t1 := fun args mm => table_at (l := tab_withinR_ok) (f := 106) (args := args) (m := mm) rfl
 refine fun_ok mixed hC Tryz.func151 rfl kpWithinR false rfl fun args m r h => ?_
 unfold withinLG at h
 split at h
 ·rename_i u n of ep
  split at h
  ·rename_i hb
   obtain ⟨hl, h1, h2⟩ := hb
   simp only [Option.some.injEq] at h
   subst h
   refine ⟨Nat.le_of_ble_eq_true rfl, ?_⟩
   refine en ?_
   unfold inW at h1 h2
   have hc : lenMay u n ∧ inS of ∧ inS ep := ⟨hl, ⟨h1.1, by omega⟩, ⟨h2.1, by omega⟩⟩
   by_cases ho : lenV u n of ep > 1099511627776
   ·have f1 : ∀ mm, stepsRG [.agg [.v (.int .i64 u), .v (.int .i64 n)], .v (.int .i64 of), .v (.int .i64 ep)] mm = some (.tup [.v (.int .i64 0), .v (.int .i64 4)], mm) := fun mm => by simp only [stepsRG]; rw [if_pos hc, if_pos ho]
    rw [show withinV u n of ep = of from if_pos (by omega)]
    refine go1 (jn @t1 @f1) ?_
    refine runs_cond rfl (fun hc => ?_) (fun hc => by cases hc)
    refine go0 ?_
    exact leaves_fin rfl rfl fin_push
   ·have f1 : ∀ mm, stepsRG [.agg [.v (.int .i64 u), .v (.int .i64 n)], .v (.int .i64 of), .v (.int .i64 ep)] mm = some (.tup [.v (.int .i64 (lenV u n of ep)), .v (.int .i64 0)], mm) := fun mm => by simp only [stepsRG]; rw [if_pos hc, if_neg ho]
    have b0 : ((0 : Int) != 0) = false := rfl
    by_cases hgt : lenV u n of ep > of
    ·have b1 : decide (lenV u n of ep > of) = true := decide_eq_true hgt
     rw [show withinV u n of ep = of from if_pos hgt]
     refine go1 (jn @t1 (jn @f1 (jn @b0 @b1))) ?_
     refine runs_cond rfl (fun hc => ?_) (fun hc => by cases hc)
     refine go0 ?_
     exact leaves_fin rfl rfl fin_push
    ·have b1 : decide (lenV u n of ep > of) = false := decide_eq_false hgt
     rw [show withinV u n of ep = lenV u n of ep from if_neg hgt]
     refine go1 (jn @t1 (jn @f1 (jn @b0 @b1))) ?_
     refine runs_cond rfl (fun hc => by cases hc) (fun hc => ?_)
     refine go0 ?_
     exact leaves_fin rfl rfl fin_push
  ·cases h
 ·cases h
end
noncomputable section
attribute [local irreducible] Next Inside Runs Ops table
attribute [local go_sem] szStr szInt Option.getD_some isNil evStr iv loadStr loadInt rowsS_len rowsN_len rowsGs_len rowsPh_len mapGs mapPh mapRc ldNode ldGs ldPh cellsGs cellsPh cellsRc newGs newPh newRc fpGsGroup fpGsParam fpGsNodes fpPhName fpPhLen fpPhLenU fpPhFrozen fpPhSets fpRcName fpRcSteps fpRcEpoch fpRcWeights fpRcMetrics fpRcGroups fpRcEval fpRcPhases fpRcSwa fpRcSwaOn fpRcSwaFrom fpRcSwaFromU
/-! ### epochs -/
def epN (x : Nd) : Bool := x.u == 1
def epNG : List AV → Mem → Option (AV × Mem)
 | [.agg cs], m =>
  match unNd cs with
  | some x => some (.v (.bool (epN x)), m)
  | none => none
 | _, _ => none
theorem epNG_at (x : Nd) (m : Mem) : epNG [.agg x.row] m = some (.v (.bool (epN x)), m) := by
 simp only [epNG, unNd_of]
theorem cellsNd {x : Nd} : cellsOf (.agg x.row) = some x.row := rfl
theorem newNd {m : Mem} {x : Nd} : newVar m m.vars.length x.row = some (m.push x.row) := newVar_push rfl
theorem mapNd {x : Nd} : List.map argCell x.row = x.row := rfl
theorem fpNdLen {r : Nat} : evFieldAddr Tryz.prog 102 (.ptr r 0) 5 = some (.ptr r 5) := by kernel_rfl
theorem fpNdLenU {r : Nat} : evFieldAddr Tryz.prog 33 (.ptr r 5) 0 = some (.ptr r 5) := by kernel_rfl
theorem lpNdU {m : Mem} {r : Nat} {x : Nd} (hv : m.var r = some x.row) : evLoad Tryz.prog m 3 (.ptr r 5) = some (.v (.int .i64 x.u)) := by
 unfold evLoad
 simp only [ptrCells, hv, Option.map_some, szInt, agInt]
 rfl
def kpEp1 : Nat → Option (List Nat) := fun
 | 0 => some [1]
 | 1 => some [2]
 | _ => none
attribute [go_sem] kpEp1
theorem epN_ok : FunOk Tryz.prog 127 epNG := by
 have hC := table_ok (P := Tryz.prog) (l := []) table_nil
 refine fun_ok mixed hC Tryz.func127 rfl kpEp1 false rfl fun args m r h => ?_
 unfold epNG at h
 split at h
 ·rename_i cs
  split at h
  ·rename_i x hx
   obtain rfl := unNd_row hx
   simp only [Option.some.injEq] at h
   subst h
   refine ⟨Nat.le_of_ble_eq_true rfl, ?_⟩
   refine en ?_
   have l1 := lpNdU (x := x) (push_var (m := m))
   rw [show nrow x.op x.a x.b x.c x.k x.u x.n = x.row from rfl]
   refine go1 (jn @cellsNd (jn @newNd (jn @fpNdLen (jn @fpNdLenU @l1)))) ?_
   exact leaves_fin rfl rfl fin_push
  ·cases h
 ·cases h
def enFindG : List AV → Mem → Option (AV × Mem)
 | [.lst _ 7 rows, .fn (.func 127) [] []], m =>
  match unN rows with
  | some l => if l.length ≤ big40 then some (.v (.int .i64 (firstBy epN l 0)), m) else none
  | none => none
 | _, _ => none
theorem enFindG_eq {m : Mem} {g : Grow} {l : List Nd} (h : l.length ≤ big40) : enFindG [.lst g 7 (rowsN l), .fn (.func 127) [] []] m = some (.v (.int .i64 (firstBy epN l 0)), m) := by
 simp only [enFindG, unN_rowsN]
 rw [if_pos h]
def kp_enFind : Nat → Option (List Nat) := fun _ => some [0, 1, 4, 5, 7, 8, 9, 16]
attribute [go_sem] kp_enFind
def tab_enFind_ok : List (FuncId × (List AV → Mem → Option (AV × Mem))) := [(127, epNG)]
theorem enFind_ok : FunOk Tryz.prog 133 enFindG := by
 have hC := table_ok (P := Tryz.prog) (l := tab_enFind_ok) (table_more epN_ok table_nil)
 have t1 := fun args mm => table_at (l := tab_enFind_ok) (f := 127) (args := args) (m := mm) rfl
 refine fun_ok mixed hC Tryz.func133 rfl kp_enFind false rfl fun args m r h => ?_
 unfold enFindG at h
 split at h
 ·rename_i g rows
  split at h
  ·rename_i l hl0
   obtain rfl := unN_some hl0
   split at h
   ·rename_i hyp
    simp only [Option.some.injEq] at h
    subst h
    refine ⟨Nat.le_of_ble_eq_true rfl, ?_⟩
    refine en ?_
    have hlen := hyp
    have hlen' := hlen
    unfold big40 at hlen'
    refine go0 ?_
    refine runs_loop (fun k e m' => ∃ (i : Nat) (x5 x9 x16 : AV), i ≤ l.length ∧ firstBy epN (l.drop i) i = firstBy epN l 0 ∧ m = m' ∧ k = l.length - i ∧
     e = [(0, AV.lst g 7 (rowsN l)), (1, .fn (.func 127) [] []), (4, .v (.int .i64 0)), (5, x5), (7, .v (.int .i64 l.length)), (8, .v (.int .i64 (i : Int))), (9, x9), (16, x16)]) (k := l.length) ⟨0, _, _, _, Nat.zero_le _, rfl, rfl, rfl, rfl⟩ ?_
    rintro k e m' ⟨i, x5, x9, x16, hi, hf, rfl, rfl, rfl⟩
    refine go0 ?_
    refine runs_cond rfl (fun hc => ?_) (fun hc => ?_)
    ·have hi1 : i < l.length := by have := of_decide_eq_true hc; omega
     have f1 := atNodes (g := g) (kk := .i64) hi1
     have f2 := fun mm => epNG_at (l.getD i nd0) mm
     refine go1 (jn @f1 (jn @t1 @f2)) ?_
     refine runs_cond rfl (fun hc => ?_) (fun hc => ?_)
     ·rw [by_yes hi1 hc hf]
      refine go0 ?_
      exact leaves_v rfl rfl
     ·have r6 := next_i64 (i := i) (by omega)
      refine go1 @r6 ?_
      exact ⟨l.length - (i + 1), by omega, i + 1, _, _, _, hi1, by_no hi1 hc hf, rfl, rfl, rfl⟩
    ·have hi1 : i = l.length := by have := of_decide_eq_false hc; omega
     subst hi1
     rw [by_end hf]
     refine go0 ?_
     exact leaves_v rfl rfl
   ·cases h
  ·cases h
 ·cases h
def enAnyG : List AV → Mem → Option (AV × Mem)
 | [.lst _ 7 rows, .fn (.func 127) [] []], m =>
  match unN rows with
  | some l => if l.length ≤ big40 then some (.v (.bool (l.any epN)), m) else none
  | none => none
 | _, _ => none
theorem enAnyG_eq {m : Mem} {g : Grow} {l : List Nd} (h : l.length ≤ big40) : enAnyG [.lst g 7 (rowsN l), .fn (.func 127) [] []] m = some (.v (.bool (l.any epN)), m) := by
 simp only [enAnyG, unN_rowsN]
 rw [if_pos h]
def kp_enAny : Nat → Option (List Nat) := fun _ => some [0, 1, 4]
attribute [go_sem] kp_enAny
def tab_enAny_ok : List (FuncId × (List AV → Mem → Option (AV × Mem))) := [(133, enFindG)]
theorem enAny_ok : FunOk Tryz.prog 89 enAnyG := by
 have hC := table_ok (P := Tryz.prog) (l := tab_enAny_ok) (table_more enFind_ok table_nil)
 have t1 := fun args mm => table_at (l := tab_enAny_ok) (f := 133) (args := args) (m := mm) rfl
 refine fun_ok mixed hC Tryz.func89 rfl kp_enAny false rfl fun args m r h => ?_
 unfold enAnyG at h
 split at h
 ·rename_i g rows
  split at h
  ·rename_i l hl0
   obtain rfl := unN_some hl0
   split at h
   ·rename_i hyp
    simp only [Option.some.injEq] at h
    subst h
    refine ⟨Nat.le_of_ble_eq_true rfl, ?_⟩
    refine en ?_
    have f1 := fun mm => enFindG_eq (m := mm) (g := .no) hyp
    have f3 : decide (firstBy epN l 0 ≥ 0) = l.any epN := firstBy_any epN l 0
    refine go1 (jn @t1 (jn @f1 @f3)) ?_
    exact leaves_v rfl rfl
   ·cases h
  ·cases h
 ·cases h
/-- A function in a variable. -/
def fnN : AV := .fn (.func 127) [] []
def fnS (p : Nat) : AV := .fn (.func 128) [] [.ptr p 0]
def epS (x : Gs) : Bool := x.nodes.any epN
def epP (x : Ph) : Bool := (x.lenU == 1) || x.sets.any epS
theorem ldFn58 {m : Mem} {q : Nat} {c : AV} (hv : m.var q = some [c]) : evLoad Tryz.prog m 126 (.ptr q 0) = some c := by
 unfold evLoad
 simp only [ptrCells, hv, Option.map_some]
 rw [show tAgg Tryz.prog 126 = some false by kernel_rfl, show tSize Tryz.prog 126 = some 1 by kernel_rfl]
 rfl
theorem ldFn119 {m : Mem} {q : Nat} {c : AV} (hv : m.var q = some [c]) : evLoad Tryz.prog m 127 (.ptr q 0) = some c := by
 unfold evLoad
 simp only [ptrCells, hv, Option.map_some]
 rw [show tAgg Tryz.prog 127 = some false by kernel_rfl, show tSize Tryz.prog 127 = some 1 by kernel_rfl]
 rfl
def epSG : List AV → Mem → Option (AV × Mem)
 | [.agg cs, .ptr q 0], m =>
  match unGs cs with
  | some x => open Classical in if x.fit ∧ m.var q = some [fnN] then some (.v (.bool (epS x)), m) else none
  | none => none
 | _, _ => none
theorem epSG_at (x : Gs) (m : Mem) {q : Nat} (h : x.fit) (hq : m.var q = some [fnN]) : epSG [.agg x.row, .ptr q 0] m = some (.v (.bool (epS x)), m) := by
 simp only [epSG, unGs_row]
 rw [if_pos ⟨h, hq⟩]
def kpEp2 : Nat → Option (List Nat) := fun
 | 0 => some [1, 2]
 | 1 => some [3]
 | _ => none
attribute [go_sem] kpEp2
def tab_epS_ok : List (FuncId × (List AV → Mem → Option (AV × Mem))) := [(89, enAnyG)]
theorem epS_ok : FunOk Tryz.prog 128 epSG := by
 have hC := table_ok (P := Tryz.prog) (l := tab_epS_ok) (table_more enAny_ok table_nil)
 have t1 := fun args mm => table_at (l := tab_epS_ok) (f := 89) (args := args) (m := mm) rfl
 refine fun_ok mixed hC Tryz.func128 rfl kpEp2 false rfl fun args m r h => ?_
 unfold epSG at h
 split at h
 ·rename_i cs q
  split at h
  ·rename_i x hx
   obtain rfl := unGs_some hx
   split at h
   ·rename_i hyp
    simp only [Option.some.injEq] at h
    subst h
    refine ⟨Nat.le_of_ble_eq_true rfl, ?_⟩
    refine en ?_
    have hv : (m.push x.row).var m.vars.length = some x.row := push_var
    have l1 := lpGsNodes hv
    have l2 := ldFn58 (push_old (cs' := x.row) hyp.2)
    unfold fnN at l2
    have f1 := fun mm => enAnyG_eq (m := mm) (g := .no) hyp.1.2
    refine go1 (jn @l1 (jn @l2 (jn @t1 @f1))) ?_
    exact leaves_fin rfl rfl fin_push
   ·cases h
  ·cases h
 ·cases h
def esFindG : List AV → Mem → Option (AV × Mem)
 | [.lst _ 3 rows, .fn (.func 128) [] [.ptr q 0]], m =>
  match unsGs rows with
  | some l => open Classical in if l.length ≤ big40 ∧ (∀ x ∈ l, x.fit) ∧ m.var q = some [fnN] then some (.v (.int .i64 (firstBy epS l 0)), m) else none
  | none => none
 | _, _ => none
theorem esFindG_eq {m : Mem} {g : Grow} {l : List Gs} {q : Nat} (h : l.length ≤ big40 ∧ (∀ x ∈ l, x.fit) ∧ m.var q = some [fnN]) : esFindG [.lst g 3 (rowsGs l), .fn (.func 128) [] [.ptr q 0]] m = some (.v (.int .i64 (firstBy epS l 0)), m) := by
 simp only [esFindG, unsGs_rowsGs]
 rw [if_pos h]
def kp_esFind : Nat → Option (List Nat) := fun _ => some [0, 1, 4, 5, 7, 8, 9, 16]
attribute [go_sem] kp_esFind
def tab_esFind_ok : List (FuncId × (List AV → Mem → Option (AV × Mem))) := [(128, epSG)]
attribute [local go_sem] List.cons_append
theorem esFind_ok : FunOk Tryz.prog 147 esFindG := by
 have hC := table_ok (P := Tryz.prog) (l := tab_esFind_ok) (table_more epS_ok table_nil)
 have t1 := fun args mm => table_at (l := tab_esFind_ok) (f := 128) (args := args) (m := mm) rfl
 refine fun_ok mixed hC Tryz.func147 rfl kp_esFind false rfl fun args m r h => ?_
 unfold esFindG at h
 split at h
 ·rename_i g rows q
  split at h
  ·rename_i l hl0
   obtain rfl := unsGs_some hl0
   split at h
   ·rename_i hyp
    simp only [Option.some.injEq] at h
    subst h
    refine ⟨Nat.le_of_ble_eq_true rfl, ?_⟩
    refine en ?_
    obtain ⟨hlen, hb, hfree⟩ := hyp
    have hlen' := hlen
    unfold big40 at hlen'
    refine go0 ?_
    refine runs_loop (fun k e m' => ∃ (i : Nat) (x5 x9 x16 : AV), i ≤ l.length ∧ firstBy epS (l.drop i) i = firstBy epS l 0 ∧ m = m' ∧ k = l.length - i ∧
     e = [(0, AV.lst g 3 (rowsGs l)), (1, .fn (.func 128) [] [.ptr q 0]), (4, .v (.int .i64 0)), (5, x5), (7, .v (.int .i64 l.length)), (8, .v (.int .i64 (i : Int))), (9, x9), (16, x16)]) (k := l.length) ⟨0, _, _, _, Nat.zero_le _, rfl, rfl, rfl, rfl⟩ ?_
    rintro k e m' ⟨i, x5, x9, x16, hi, hf, rfl, rfl, rfl⟩
    refine go0 ?_
    refine runs_cond rfl (fun hc => ?_) (fun hc => ?_)
    ·have hi1 : i < l.length := by have := of_decide_eq_true hc; omega
     have f1 := atGs (g := g) (kk := .i64) hi1
     have f2 := epSG_at (l.getD i gs0) m (hb _ (by rw [List.getD, List.getElem?_eq_getElem hi1]; exact List.getElem_mem _)) hfree
     refine go1 (jn @f1 (jn @t1 @f2)) ?_
     refine runs_cond rfl (fun hc => ?_) (fun hc => ?_)
     ·rw [by_yes hi1 hc hf]
      refine go0 ?_
      exact leaves_v rfl rfl
     ·have r6 := next_i64 (i := i) (by omega)
      refine go1 @r6 ?_
      exact ⟨l.length - (i + 1), by omega, i + 1, _, _, _, hi1, by_no hi1 hc hf, rfl, rfl, rfl⟩
    ·have hi1 : i = l.length := by have := of_decide_eq_false hc; omega
     subst hi1
     rw [by_end hf]
     refine go0 ?_
     exact leaves_v rfl rfl
   ·cases h
  ·cases h
 ·cases h
def esAnyG : List AV → Mem → Option (AV × Mem)
 | [.lst _ 3 rows, .fn (.func 128) [] [.ptr q 0]], m =>
  match unsGs rows with
  | some l => open Classical in if l.length ≤ big40 ∧ (∀ x ∈ l, x.fit) ∧ m.var q = some [fnN] then some (.v (.bool (l.any epS)), m) else none
  | none => none
 | _, _ => none
theorem esAnyG_eq {m : Mem} {g : Grow} {l : List Gs} {q : Nat} (h : l.length ≤ big40 ∧ (∀ x ∈ l, x.fit) ∧ m.var q = some [fnN]) : esAnyG [.lst g 3 (rowsGs l), .fn (.func 128) [] [.ptr q 0]] m = some (.v (.bool (l.any epS)), m) := by
 simp only [esAnyG, unsGs_rowsGs]
 rw [if_pos h]
def kp_esAny : Nat → Option (List Nat) := fun _ => some [0, 1, 4]
attribute [go_sem] kp_esAny
def tab_esAny_ok : List (FuncId × (List AV → Mem → Option (AV × Mem))) := [(147, esFindG)]
theorem esAny_ok : FunOk Tryz.prog 112 esAnyG := by
 have hC := table_ok (P := Tryz.prog) (l := tab_esAny_ok) (table_more esFind_ok table_nil)
 have t1 := fun args mm => table_at (l := tab_esAny_ok) (f := 147) (args := args) (m := mm) rfl
 refine fun_ok mixed hC Tryz.func112 rfl kp_esAny false rfl fun args m r h => ?_
 unfold esAnyG at h
 split at h
 ·rename_i g rows q
  split at h
  ·rename_i l hl0
   obtain rfl := unsGs_some hl0
   split at h
   ·rename_i hyp
    simp only [Option.some.injEq] at h
    subst h
    refine ⟨Nat.le_of_ble_eq_true rfl, ?_⟩
    refine en ?_
    have f1 := esFindG_eq (m := m) (g := .no) hyp
    have f3 : decide (firstBy epS l 0 ≥ 0) = l.any epS := firstBy_any epS l 0
    refine go1 (jn @t1 (jn @f1 @f3)) ?_
    exact leaves_v rfl rfl
   ·cases h
  ·cases h
 ·cases h
def epPG : List AV → Mem → Option (AV × Mem)
 | [.agg cs, .ptr q 0], m =>
  match unPh cs with
  | some x => open Classical in if x.fit ∧ ∃ p, m.var q = some [fnS p] ∧ m.var p = some [fnN] then some (.v (.bool (epP x)), m) else none
  | none => none
 | _, _ => none
theorem epPG_at (x : Ph) (m : Mem) {q : Nat} (h : x.fit) (hq : ∃ p, m.var q = some [fnS p] ∧ m.var p = some [fnN]) : epPG [.agg x.row, .ptr q 0] m = some (.v (.bool (epP x)), m) := by
 simp only [epPG, unPh_row]
 rw [if_pos ⟨h, hq⟩]
def kpEp3 : Nat → Option (List Nat) := fun
 | 0 => some [1, 2]
 | 1 => some [3]
 | _ => none
attribute [go_sem] kpEp3
def tab_epP_ok : List (FuncId × (List AV → Mem → Option (AV × Mem))) := [(112, esAnyG)]
theorem epP_ok : FunOk Tryz.prog 129 epPG := by
 have hC := table_ok (P := Tryz.prog) (l := tab_epP_ok) (table_more esAny_ok table_nil)
 have t1 := fun args mm => table_at (l := tab_epP_ok) (f := 112) (args := args) (m := mm) rfl
 refine fun_ok mixed hC Tryz.func129 rfl kpEp3 false rfl fun args m r h => ?_
 unfold epPG at h
 split at h
 ·rename_i cs q
  split at h
  ·rename_i x hx
   obtain rfl := unPh_some hx
   split at h
   ·rename_i hyp
    simp only [Option.some.injEq] at h
    subst h
    refine ⟨Nat.le_of_ble_eq_true rfl, ?_⟩
    refine en ?_
    obtain ⟨hfit, p, hq, hp⟩ := hyp
    have hv : (m.push x.row).var m.vars.length = some x.row := push_var
    have l1 := lpPhLenU hv
    have l2 := lpPhSets hv
    have l3 := ldFn119 (push_old (cs' := x.row) hq)
    unfold fnS at l3
    have f1 := esAnyG_eq (m := m.push x.row) (g := .no) (l := x.sets) (q := p) ⟨hfit.2.2.2.1, hfit.2.2.2.2, push_old hp⟩
    unfold epP
    cases hu : (x.lenU == 1) with
    | true =>
     refine go1 (jn @l1 @hu) ?_
     exact leaves_fin rfl rfl fin_push
    | false =>
     refine go1 (jn @l1 (jn @hu (jn @l2 (jn @l3 (jn @t1 @f1))))) ?_
     exact leaves_fin rfl rfl fin_push
   ·cases h
  ·cases h
 ·cases h
def epFindG : List AV → Mem → Option (AV × Mem)
 | [.lst _ 5 rows, .fn (.func 129) [] [.ptr q 0]], m =>
  match unsPh rows with
  | some l => open Classical in if l.length ≤ big40 ∧ (∀ x ∈ l, x.fit) ∧ (∃ p, m.var q = some [fnS p] ∧ m.var p = some [fnN]) then some (.v (.int .i64 (firstBy epP l 0)), m) else none
  | none => none
 | _, _ => none
theorem epFindG_eq {m : Mem} {g : Grow} {l : List Ph} {q : Nat} (h : l.length ≤ big40 ∧ (∀ x ∈ l, x.fit) ∧ (∃ p, m.var q = some [fnS p] ∧ m.var p = some [fnN])) : epFindG [.lst g 5 (rowsPh l), .fn (.func 129) [] [.ptr q 0]] m = some (.v (.int .i64 (firstBy epP l 0)), m) := by
 simp only [epFindG, unsPh_rowsPh]
 rw [if_pos h]
def kp_epFind : Nat → Option (List Nat) := fun _ => some [0, 1, 4, 5, 7, 8, 9, 16]
attribute [go_sem] kp_epFind
def tab_epFind_ok : List (FuncId × (List AV → Mem → Option (AV × Mem))) := [(129, epPG)]
theorem epFind_ok : FunOk Tryz.prog 123 epFindG := by
 have hC := table_ok (P := Tryz.prog) (l := tab_epFind_ok) (table_more epP_ok table_nil)
 have t1 := fun args mm => table_at (l := tab_epFind_ok) (f := 129) (args := args) (m := mm) rfl
 refine fun_ok mixed hC Tryz.func123 rfl kp_epFind false rfl fun args m r h => ?_
 unfold epFindG at h
 split at h
 ·rename_i g rows q
  split at h
  ·rename_i l hl0
   obtain rfl := unsPh_some hl0
   split at h
   ·rename_i hyp
    simp only [Option.some.injEq] at h
    subst h
    refine ⟨Nat.le_of_ble_eq_true rfl, ?_⟩
    refine en ?_
    obtain ⟨hlen, hb, hfree⟩ := hyp
    have hlen' := hlen
    unfold big40 at hlen'
    refine go0 ?_
    refine runs_loop (fun k e m' => ∃ (i : Nat) (x5 x9 x16 : AV), i ≤ l.length ∧ firstBy epP (l.drop i) i = firstBy epP l 0 ∧ m = m' ∧ k = l.length - i ∧
     e = [(0, AV.lst g 5 (rowsPh l)), (1, .fn (.func 129) [] [.ptr q 0]), (4, .v (.int .i64 0)), (5, x5), (7, .v (.int .i64 l.length)), (8, .v (.int .i64 (i : Int))), (9, x9), (16, x16)]) (k := l.length) ⟨0, _, _, _, Nat.zero_le _, rfl, rfl, rfl, rfl⟩ ?_
    rintro k e m' ⟨i, x5, x9, x16, hi, hf, rfl, rfl, rfl⟩
    refine go0 ?_
    refine runs_cond rfl (fun hc => ?_) (fun hc => ?_)
    ·have hi1 : i < l.length := by have := of_decide_eq_true hc; omega
     have f1 := atPh (g := g) (kk := .i64) hi1
     have f2 := epPG_at (l.getD i ph0) m (hb _ (by rw [List.getD, List.getElem?_eq_getElem hi1]; exact List.getElem_mem _)) hfree
     refine go1 (jn @f1 (jn @t1 @f2)) ?_
     refine runs_cond rfl (fun hc => ?_) (fun hc => ?_)
     ·rw [by_yes hi1 hc hf]
      refine go0 ?_
      exact leaves_v rfl rfl
     ·have r6 := next_i64 (i := i) (by omega)
      refine go1 @r6 ?_
      exact ⟨l.length - (i + 1), by omega, i + 1, _, _, _, hi1, by_no hi1 hc hf, rfl, rfl, rfl⟩
    ·have hi1 : i = l.length := by have := of_decide_eq_false hc; omega
     subst hi1
     rw [by_end hf]
     refine go0 ?_
     exact leaves_v rfl rfl
   ·cases h
  ·cases h
 ·cases h
def epAnyG : List AV → Mem → Option (AV × Mem)
 | [.lst _ 5 rows, .fn (.func 129) [] [.ptr q 0]], m =>
  match unsPh rows with
  | some l => open Classical in if l.length ≤ big40 ∧ (∀ x ∈ l, x.fit) ∧ (∃ p, m.var q = some [fnS p] ∧ m.var p = some [fnN]) then some (.v (.bool (l.any epP)), m) else none
  | none => none
 | _, _ => none
theorem epAnyG_eq {m : Mem} {g : Grow} {l : List Ph} {q : Nat} (h : l.length ≤ big40 ∧ (∀ x ∈ l, x.fit) ∧ (∃ p, m.var q = some [fnS p] ∧ m.var p = some [fnN])) : epAnyG [.lst g 5 (rowsPh l), .fn (.func 129) [] [.ptr q 0]] m = some (.v (.bool (l.any epP)), m) := by
 simp only [epAnyG, unsPh_rowsPh]
 rw [if_pos h]
def kp_epAny : Nat → Option (List Nat) := fun _ => some [0, 1, 4]
attribute [go_sem] kp_epAny
def tab_epAny_ok : List (FuncId × (List AV → Mem → Option (AV × Mem))) := [(123, epFindG)]
theorem epAny_ok : FunOk Tryz.prog 74 epAnyG := by
 have hC := table_ok (P := Tryz.prog) (l := tab_epAny_ok) (table_more epFind_ok table_nil)
 have t1 := fun args mm => table_at (l := tab_epAny_ok) (f := 123) (args := args) (m := mm) rfl
 refine fun_ok mixed hC Tryz.func74 rfl kp_epAny false rfl fun args m r h => ?_
 unfold epAnyG at h
 split at h
 ·rename_i g rows q
  split at h
  ·rename_i l hl0
   obtain rfl := unsPh_some hl0
   split at h
   ·rename_i hyp
    simp only [Option.some.injEq] at h
    subst h
    refine ⟨Nat.le_of_ble_eq_true rfl, ?_⟩
    refine en ?_
    have f1 := epFindG_eq (m := m) (g := .no) hyp
    have f3 : decide (firstBy epP l 0 ≥ 0) = l.any epP := firstBy_any epP l 0
    refine go1 (jn @t1 (jn @f1 @f3)) ?_
    exact leaves_v rfl rfl
   ·cases h
  ·cases h
 ·cases h
def Rc.epochs (R : Rc) : Bool := R.phases.any epP || (R.swaOn && (R.swaFromU == 1))
def epochsG : List AV → Mem → Option (AV × Mem)
 | [.agg cs], m =>
  match unRc cs with
  | some R => if R.fit then some (.v (.bool R.epochs), m) else none
  | none => none
 | _, _ => none
theorem epochsG_at (R : Rc) (m : Mem) (h : R.fit) : epochsG [.agg R.row] m = some (.v (.bool R.epochs), m) := by
 simp only [epochsG, unRc_row]
 rw [if_pos h]
theorem zrF58 : zeroCells Tryz.prog 126 = some [.v .nilFunc] := by kernel_rfl
theorem zrF119 : zeroCells Tryz.prog 127 = some [.v .nilFunc] := by kernel_rfl
theorem zoF : ([AV.v .nilFunc].all okCell) = true := rfl
theorem znF {m : Mem} : newVar m m.vars.length [.v .nilFunc] = some (m.push [.v .nilFunc]) := newVar_push rfl
theorem szF58 : tSize Tryz.prog 126 = some 1 := by kernel_rfl
theorem szF119 : tSize Tryz.prog 127 = some 1 := by kernel_rfl
theorem zsF58 {m : Mem} : evStore Tryz.prog (m.push [.v .nilFunc]) 126 (.ptr m.vars.length 0) fnN = some (m.push [fnN]) := by
 rw [store_push (cs := [fnN]) rfl szF58 (Nat.le_refl _) rfl]
 rfl
theorem zsF119 {m : Mem} {p : Nat} (hp : p < m.vars.length) : evStore Tryz.prog (m.push [.v .nilFunc]) 127 (.ptr m.vars.length 0) (fnS p) = some (m.push [fnS p]) := by
 rw [store_push (cs := [fnS p]) rfl szF119 (Nat.le_refl _) (by simp [fnS, refLe, refLe.okArg]; omega)]
 rfl
def kpEpochs : Nat → Option (List Nat) := fun
 | 0 => some [1]
 | 1 => some [1, 3]
 | 2 => some [1, 4]
 | 3 => some [1, 5]
 | 4 => some [2]
 | _ => none
attribute [go_sem] kpEpochs
def tab_epochs_ok : List (FuncId × (List AV → Mem → Option (AV × Mem))) := [(74, epAnyG)]
theorem epochs_ok : FunOk Tryz.prog 80 epochsG := by
 have hC := table_ok (P := Tryz.prog) (l := tab_epochs_ok) (table_more epAny_ok table_nil)
 have t1 := fun args mm => table_at (l := tab_epochs_ok) (f := 74) (args := args) (m := mm) rfl
 refine fun_ok mixed hC Tryz.func80 rfl kpEpochs false rfl fun args m r h => ?_
 unfold epochsG at h
 split at h
 ·rename_i cs
  split at h
  ·rename_i R hR
   obtain rfl := unRc_some hR
   split at h
   ·rename_i hyp
    simp only [Option.some.injEq] at h
    subst h
    refine ⟨Nat.le_of_ble_eq_true rfl, ?_⟩
    refine en ?_
    have hA := above_push (cs := R.row) (above_self m)
    have hv : (m.push R.row).var m.vars.length = some R.row := push_var
    generalize hm1 : m.push R.row = m1 at hA hv
    have s1 := zsF58 (m := m1)
    have hA2 := above_push (cs := [fnN]) hA
    have hv2 := push_old (cs' := [fnN]) hv
    have hp2 : (m1.push [fnN]).var m1.vars.length = some [fnN] := push_var
    have hlt : m1.vars.length < (m1.push [fnN]).vars.length := by rw [push_len]; omega
    generalize m1.push [fnN] = m2 at s1 hA2 hv2 hp2 hlt
    have s2 := zsF119 hlt
    have hA3 := above_push (cs := [fnS m1.vars.length]) hA2
    have hv3 := push_old (cs' := [fnS m1.vars.length]) hv2
    have hp3 := push_old (cs' := [fnS m1.vars.length]) hp2
    have hq3 : (m2.push [fnS m1.vars.length]).var m2.vars.length = some [fnS m1.vars.length] := push_var
    generalize m2.push [fnS m1.vars.length] = m3 at s2 hA3 hv3 hp3 hq3
    have f1 := epAnyG_eq (m := m3) (g := .no) (l := R.phases) (q := m2.vars.length) ⟨hyp.2.2.2.1.1, hyp.2.2.2.1.2, _, hq3, hp3⟩
    have l1 := lpRcPhases hv3
    have l2 := lpRcSwaOn hv3
    have l3 := lpRcSwaFromU hv3
    unfold fnN at s1
    unfold fnS at s2
    have nr := newRc (m := m) (x := R)
    rw [hm1] at nr
    unfold Rc.epochs
    cases h1 : R.phases.any epP with
    | true =>
     refine go1 (jn @nr (jn @zrF58 (jn @zoF (jn @znF (jn @s1 (jn @zrF119 (jn @s2 (jn @l1 (jn @t1 (jn @f1 @h1)))))))))) ?_
     exact leaves_fin rfl rfl (above_fin hA3)
    | false =>
     cases h2 : R.swaOn with
     | false =>
      refine go1 (jn @nr (jn @zrF58 (jn @zoF (jn @znF (jn @s1 (jn @zrF119 (jn @s2 (jn @l1 (jn @t1 (jn @f1 (jn @h1 (jn @l2 @h2)))))))))))) ?_
      exact leaves_fin rfl rfl (above_fin hA3)
     | true =>
      refine go1 (jn @nr (jn @zrF58 (jn @zoF (jn @znF (jn @s1 (jn @zrF119 (jn @s2 (jn @l1 (jn @t1 (jn @f1 (jn @h1 (jn @l2 (jn @h2 @l3))))))))))))) ?_
      exact leaves_fin rfl rfl (above_fin hA3)
   ·cases h
  ·cases h
 ·cases h
end
section
attribute [local irreducible] Next Inside Runs Ops table
attribute [local go_sem] szStr szInt Option.getD_some isNil evStr iv loadStr loadInt rowsS_len rowsN_len rowsGs_len rowsPh_len mapGs mapPh mapRc ldNode ldGs ldPh cellsGs cellsPh cellsRc newGs newPh newRc zrPh zoPh znPh zsPh zrGs zoGs znGs zsGs fpGsGroup fpGsParam fpGsNodes fpPhName fpPhLen fpPhLenU fpPhFrozen fpPhSets fpRcName fpRcSteps fpRcEpoch fpRcWeights fpRcMetrics fpRcGroups fpRcEval fpRcPhases mkStrs1
/-! ### twins -/
def twinsL (rule : Int) (l : List ByteArray) : List Fl := upto l.length fun i => flawIf (decide (placeOf l (l.getD i ⟨#[]⟩) < (i : Int))) rule i 0
def twinsG : List AV → Mem → Option (AV × Mem)
 | [.ptr r 0, .lst _ 1 rows], m =>
  match unS rows, m.var r with
  | some l, some [.v (.int .i64 rule), .lst .full 3 []] => if l.length ≤ 64 then some (.tup [], flMem m r rule (twinsL rule l)) else none
  | _, _ => none
 | _, _ => none
theorem twinsG_at {m : Mem} {r : Nat} {g : Grow} {rule : Int} {l : List ByteArray} (hv : m.var r = some [.v (.int .i64 rule), .lst .full 3 []]) (h : l.length ≤ 64) : twinsG [.ptr r 0, .lst g 1 (rowsS l)] m = some (.tup [], flMem m r rule (twinsL rule l)) := by
 simp only [twinsG, unS_rowsS, hv]
 rw [if_pos h]
def kpTwins : Nat → Option (List Nat) := fun
 | 0 => some [0, 1, 6, 7, 8]
 | 1 => some [0, 1, 6, 7, 8, 9]
 | 2 => some [0, 1, 4, 5, 6, 7, 8]
 | 3 => some [0, 1, 6, 7, 8]
 | 4 => some [0, 1, 6, 7, 8]
 | _ => none
attribute [go_sem] kpTwins
def tab_twins_ok : List (FuncId × (List AV → Mem → Option (AV × Mem))) := [(130, placeG), (78, noteG)]
theorem twins_ok : FunOk Tryz.prog 81 twinsG := by
 have hC := table_ok (P := Tryz.prog) (l := tab_twins_ok) (table_more index_ok (table_more note_ok table_nil))
 have t1 := fun args mm => table_at (l := tab_twins_ok) (f := 130) (args := args) (m := mm) rfl
 have t2 := fun args mm => table_at (l := tab_twins_ok) (f := 78) (args := args) (m := mm) rfl
 refine fun_ok mixed hC Tryz.func81 rfl kpTwins false rfl fun args m r h => ?_
 unfold twinsG at h
 split at h
 ·rename_i r0 g rows
  split at h
  ·rename_i l rule hl hv
   obtain rfl := unS_some hl
   split at h
   ·rename_i h64
    simp only [Option.some.injEq] at h
    subst h
    have hr0 := (var_lt hv).1
    refine ⟨Nat.le_of_ble_eq_true rfl, ?_⟩
    refine en ?_
    refine go0 ?_
    refine runs_loop (fun k e m' => ∃ (i : Nat), i ≤ l.length ∧ Above (flMem m r0 rule (upto i fun i => flawIf (decide (placeOf l (l.getD i ⟨#[]⟩) < (i : Int))) rule i 0)) m' ∧ k = l.length - i ∧
     e = [(0, AV.ptr r0 0), (1, .lst g 1 (rowsS l)), (6, .lst g 1 (rowsS l)), (7, .v (.int .i64 (l.length : Int))), (8, .v (.int .i64 (i : Int)))]) (k := l.length) ⟨0, Nat.zero_le _, by rw [upto_zero, flMem_nil]; exact above_self m, rfl, rfl⟩ ?_
    rintro k e m' ⟨i, hi0, hA, rfl, rfl⟩
    refine go0 ?_
    refine runs_cond rfl (fun hc => ?_) (fun hc => ?_)
    ·have hi1 : i < l.length := by have := of_decide_eq_true hc; omega
     have f1 := atStrs (g := g) (kk := .i64) hi1
     have f2 := fun mm => placeG_eq (m := mm) (g := .no) (s := l.getD i ⟨#[]⟩) (show l.length ≤ 9223372036854775807 by omega)
     have hN := @upto_next i (fun i => flawIf (decide (placeOf l (l.getD i ⟨#[]⟩) < (i : Int))) rule i 0)
     have hB := @upto_len (fun i => flawIf (decide (placeOf l (l.getD i ⟨#[]⟩) < (i : Int))) rule i 0) 1 i fun k _ => flawIf_len ..
     generalize hfl : (upto i fun i => flawIf (decide (placeOf l (l.getD i ⟨#[]⟩) < (i : Int))) rule i 0) = fl at hA hN hB
     obtain ⟨m2, n1, n2, n3⟩ := note_step hv hA (by omega) (decide (placeOf l (l.getD i ⟨#[]⟩) < (i : Int))) i 0
     rw [flawIf_app, ← hN] at n2
     have r6 := next_i64 (i := i) (by omega)
     refine go1 (jn @f1 (jn @t1 (jn @f2 (jn @t2 (jn @n1 @r6))))) ?_
     exact ⟨l.length - (i + 1), by omega, i + 1, hi1, n2, rfl, rfl⟩
    ·have hi1 : i = l.length := by have := of_decide_eq_false hc; omega
     subst hi1
     refine go0 ?_
     exact leaves_none rfl (fin_flMem hv hA)
   ·cases h
  ·cases h
 ·cases h
/-! ### names -/
def namesG : List AV → Mem → Option (AV × Mem)
 | [.agg cs], m =>
  match unRc cs with
  | some R => if R.small then some (.lst .no 1 (rowsS (R.phases.map Ph.name)), m) else none
  | none => none
 | _, _ => none
theorem namesG_at (R : Rc) (m : Mem) (h : R.small) : namesG [.agg R.row] m = some (.lst .no 1 (rowsS (R.phases.map Ph.name)), m) := by
 simp only [namesG, unRc_row]
 rw [if_pos h]
def kpNames : Nat → Option (List Nat) := fun
 | 0 => some [1]
 | 1 => some [1, 3]
 | 2 => some [3, 7, 8, 9]
 | 3 => some [3, 7, 8, 9, 10]
 | 4 => some [3, 5, 7, 8, 9]
 | 5 => some [3, 7, 8, 9]
 | 6 => some [3, 7, 8, 9]
 | 7 => some [2]
 | _ => none
attribute [go_sem] kpNames
theorem names_ok : FunOk Tryz.prog 82 namesG := by
 have hC := table_ok (P := Tryz.prog) (l := []) table_nil
 refine fun_ok mixed hC Tryz.func82 rfl kpNames false rfl fun args m r h => ?_
 unfold namesG at h
 split at h
 ·rename_i cs
  split at h
  ·rename_i R hR
   obtain rfl := unRc_some hR
   split at h
   ·rename_i hsm
    simp only [Option.some.injEq] at h
    subst h
    have hP64 := hsm.2.2.1
    refine ⟨Nat.le_of_ble_eq_true rfl, ?_⟩
    refine en ?_
    have hv3 : (m.push R.row).var m.vars.length = some R.row := push_var
    have f1 := lpRcPhases hv3
    refine go1 @f1 ?_
    refine runs_loop (fun k e m' => ∃ (i : Nat) (gr : Grow), i ≤ R.phases.length ∧ GrowsA m gr m' ∧ k = R.phases.length - i ∧
     e = [(3, AV.lst gr 1 (rowsS ((R.phases.take i).map Ph.name))), (7, .lst .no 5 (rowsPh R.phases)), (8, .v (.int .i64 (R.phases.length : Int))), (9, .v (.int .i64 (i : Int)))]) (k := R.phases.length) ⟨0, _, Nat.zero_le _, growsA_push growsA_full, rfl, rfl⟩ ?_
    rintro k e m' ⟨i, gr, hi0, hG, rfl, rfl⟩
    refine go0 ?_
    refine runs_cond rfl (fun hc => ?_) (fun hc => ?_)
    ·have hi1 : i < R.phases.length := by have := of_decide_eq_true hc; omega
     have f2 := atPh (g := .no) (kk := .i64) hi1
     have htk : (R.phases.take (i + 1)).map Ph.name = (R.phases.take i).map Ph.name ++ [(R.phases.getD i ph0).name] := by rw [take_next (d := ph0) hi1, List.map_append]; rfl
     have hlen : ((R.phases.take i).map Ph.name).length ≤ 64 := by rw [List.length_map, List.length_take]; omega
     generalize R.phases.getD i ph0 = p at f2 htk
     generalize (R.phases.take i).map Ph.name = acc at htk hlen
     have hG1 := growsA_push (cs := p.row) hG
     have hp5 : (m'.push p.row).var m'.vars.length = some p.row := push_var
     have l1 := lpPhName hp5
     obtain ⟨g2, m2, a1, hG2⟩ := app_strA (g2 := .full) appStrs hG1 acc p.name (by unfold lim; omega)
     have r6 := next_i64 (i := i) (by omega)
     refine go1 (jn @f2 (jn @l1 (jn @a1 @r6))) ?_
     exact ⟨R.phases.length - (i + 1), by omega, i + 1, _, hi1, hG2, rfl, by rw [htk]⟩
    ·have hi1 : i = R.phases.length := by have := of_decide_eq_false hc; omega
     subst hi1
     rw [List.take_length]
     refine go0 ?_
     exact leaves_lst rfl rfl (growsA_fin hG)
   ·cases h
  ·cases h
 ·cases h
/-! ### lasts -/
def stepsP (u n of ep : Int) : Int × Int := if lenMay u n ∧ inS of ∧ inS ep then (if lenV u n of ep > 1099511627776 then (0, 4) else (lenV u n of ep, 0)) else (0, 1)
theorem stepsLG_eq {u n of ep : Int} {m : Mem} : stepsLG [.agg [.v (.int .i64 u), .v (.int .i64 n)], .v (.int .i64 of), .v (.int .i64 ep)] m = some (.tup [.v (.int .i64 (stepsP u n of ep).1), .v (.int .i64 (stepsP u n of ep).2)], m) := by
 simp only [stepsLG, stepsP]
 split
 ·split <;> rfl
 ·rfl
def Rc.stepsOf (R : Rc) (p : Ph) : Int × Int := stepsP p.lenU p.lenN R.steps R.epoch
def Rc.lastBad (R : Rc) (i : Nat) : Bool := if (R.phases.getD i ph0).lenU = 3 then decide (((i + 1 : Nat) : Int) < (R.phases.length : Int)) else ((R.stepsOf (R.phases.getD i ph0)).2 != 0) || ((R.stepsOf (R.phases.getD i ph0)).1 == 0)
def lastsL (rule : Int) (R : Rc) : List Fl := upto R.phases.length fun i => flawIf (R.lastBad i) rule i 0
def rlastsG : List AV → Mem → Option (AV × Mem)
 | [.ptr r 0, .agg cs], m =>
  match unRc cs, m.var r with
  | some R, some [.v (.int .i64 rule), .lst .full 3 []] => if R.small then some (.tup [], flMem m r rule (lastsL rule R)) else none
  | _, _ => none
 | _, _ => none
theorem rlastsG_at {m : Mem} {r : Nat} {rule : Int} {R : Rc} (hv : m.var r = some [.v (.int .i64 rule), .lst .full 3 []]) (h : R.small) : rlastsG [.ptr r 0, .agg R.row] m = some (.tup [], flMem m r rule (lastsL rule R)) := by
 simp only [rlastsG, unRc_row, hv]
 rw [if_pos h]
def kpRLasts : Nat → Option (List Nat) := fun
 | 0 => some [0, 3]
 | 1 => some [0, 3, 9, 10, 11]
 | 2 => some [0, 3, 9, 10, 11, 12]
 | 3 => some [0, 3, 4, 5, 9, 10, 11]
 | 4 => some [0, 3, 4, 5, 9, 10, 11, 19]
 | 5 => some [0, 3, 9, 10, 11]
 | 6 => some [0, 3, 4, 6, 7, 9, 10, 11]
 | 7 => some [0, 3, 9, 10, 11]
 | 8 => some [0, 3, 9, 10, 11]
 | _ => none
attribute [go_sem] kpRLasts
def tab_rlasts_ok : List (FuncId × (List AV → Mem → Option (AV × Mem))) := [(78, noteG), (48, stepsLG)]
theorem rlasts_ok : FunOk Tryz.prog 83 rlastsG := by
 have hC := table_ok (P := Tryz.prog) (l := tab_rlasts_ok) (table_more note_ok (table_more stepsL_ok table_nil))
 have t1 := fun args mm => table_at (l := tab_rlasts_ok) (f := 78) (args := args) (m := mm) rfl
 have t2 := fun args mm => table_at (l := tab_rlasts_ok) (f := 48) (args := args) (m := mm) rfl
 refine fun_ok mixed hC Tryz.func83 rfl kpRLasts false rfl fun args m r h => ?_
 unfold rlastsG at h
 split at h
 ·rename_i r0 cs
  split at h
  ·rename_i R rule hR hv
   obtain rfl := unRc_some hR
   split at h
   ·rename_i hsm
    simp only [Option.some.injEq] at h
    subst h
    have hr0 := (var_lt hv).1
    have hP64 := hsm.2.2.1
    refine ⟨Nat.le_of_ble_eq_true rfl, ?_⟩
    refine en ?_
    have hv3 : (m.push R.row).var m.vars.length = some R.row := push_var
    have f1 := lpRcPhases hv3
    refine go1 @f1 ?_
    refine runs_loop (fun k e m' => ∃ (i : Nat), i ≤ R.phases.length ∧ Above (flMem m r0 rule (upto i fun i => flawIf (R.lastBad i) rule i 0)) m' ∧ m'.var m.vars.length = some R.row ∧ k = R.phases.length - i ∧
     e = [(0, AV.ptr r0 0), (3, .ptr m.vars.length 0), (9, .lst .no 5 (rowsPh R.phases)), (10, .v (.int .i64 (R.phases.length : Int))), (11, .v (.int .i64 (i : Int)))]) (k := R.phases.length)
     ⟨0, Nat.zero_le _, by rw [upto_zero, flMem_nil]; exact above_push (above_self m), hv3, rfl, rfl⟩ ?_
    rintro k e m' ⟨i, hi0, hA, hw3, rfl, rfl⟩
    refine go0 ?_
    refine runs_cond rfl (fun hc => ?_) (fun hc => ?_)
    ·have hi1 : i < R.phases.length := by have := of_decide_eq_true hc; omega
     have f2 := atPh (g := .no) (kk := .i64) hi1
     have hN := @upto_next i (fun i => flawIf (R.lastBad i) rule i 0)
     have hB := @upto_len (fun i => flawIf (R.lastBad i) rule i 0) 1 i fun k _ => flawIf_len ..
     generalize hfl : (upto i fun i => flawIf (R.lastBad i) rule i 0) = fl at hA hN hB
     have hbad : R.lastBad i = if (R.phases.getD i ph0).lenU = 3 then decide (((i + 1 : Nat) : Int) < (R.phases.length : Int)) else ((R.stepsOf (R.phases.getD i ph0)).2 != 0) || ((R.stepsOf (R.phases.getD i ph0)).1 == 0) := rfl
     generalize hp : R.phases.getD i ph0 = p at f2 hbad
     have hA1 := above_push (cs := p.row) hA
     have hp5 : (m'.push p.row).var m'.vars.length = some p.row := push_var
     have hw3' := push_old (cs' := p.row) hw3
     have l1 := lpPhLenU hp5
     have l2 := lpPhLen hp5
     have l3 := lpRcPhases hw3'
     have l4 := lpRcSteps hw3'
     have l5 := lpRcEpoch hw3'
     have r6 := next_i64 (i := i) (by omega)
     have hne : m.vars.length ≠ r0 := by omega
     by_cases h3 : p.lenU = 3
     ·have b3 : (p.lenU == 3) = true := by simpa using h3
      rw [if_pos h3] at hbad
      obtain ⟨m2, n1, n2, n3⟩ := note_step hv hA1 (by omega) (decide (((i + 1 : Nat) : Int) < (R.phases.length : Int))) i 0
      rw [flawIf_app, ← hbad, ← hN] at n2
      refine go1 (jn @f2 (jn @l1 @b3)) ?_
      refine runs_cond rfl (fun hc => ?_) (fun hc => by cases hc)
      refine go1 (jn @l3 (jn @r6 (jn @t1 @n1))) ?_
      exact ⟨R.phases.length - (i + 1), by omega, i + 1, hi1, n2, n3 _ _ hne hw3', rfl, rfl⟩
     ·have b3 : (p.lenU == 3) = false := by simpa using h3
      rw [if_neg h3] at hbad
      have f3 := fun mm => stepsLG_eq (u := p.lenU) (n := p.lenN) (of := R.steps) (ep := R.epoch) (m := mm)
      rw [show stepsP p.lenU p.lenN R.steps R.epoch = R.stepsOf p from rfl] at f3
      generalize R.stepsOf p = s at f3 hbad
      cases hs : (s.2 != 0) with
      | true =>
       rw [hs, Bool.true_or] at hbad
       obtain ⟨m2, n1, n2, n3⟩ := note_step hv hA1 (by omega) true i 0
       rw [flawIf_app, ← hbad, ← hN] at n2
       refine go1 (jn @f2 (jn @l1 @b3)) ?_
       refine runs_cond rfl (fun hc => by cases hc) (fun hc => ?_)
       refine go1 (jn @l2 (jn @l4 (jn @l5 (jn @t2 (jn @f3 (jn @hs (jn @t1 (jn @n1 @r6)))))))) ?_
       exact ⟨R.phases.length - (i + 1), by omega, i + 1, hi1, n2, n3 _ _ hne hw3', rfl, rfl⟩
      | false =>
       rw [hs, Bool.false_or] at hbad
       obtain ⟨m2, n1, n2, n3⟩ := note_step hv hA1 (by omega) (s.1 == 0) i 0
       rw [flawIf_app, ← hbad, ← hN] at n2
       refine go1 (jn @f2 (jn @l1 @b3)) ?_
       refine runs_cond rfl (fun hc => by cases hc) (fun hc => ?_)
       refine go1 (jn @l2 (jn @l4 (jn @l5 (jn @t2 (jn @f3 (jn @hs (jn @t1 (jn @n1 @r6)))))))) ?_
       exact ⟨R.phases.length - (i + 1), by omega, i + 1, hi1, n2, n3 _ _ hne hw3', rfl, rfl⟩
    ·have hi1 : i = R.phases.length := by have := of_decide_eq_false hc; omega
     subst hi1
     refine go0 ?_
     exact leaves_none rfl (fin_flMem hv hA)
   ·cases h
  ·cases h
 ·cases h
end
section
attribute [local irreducible] Next Inside Runs Ops table
attribute [local go_sem] szStr szInt Option.getD_some isNil evStr loadOne newNode cellsNode nf0 nf1 nf2 nf3 nf4 nf5 nh0 nh1 nh2 nh3 nh4 nh5 Nat.zero_add mkInts0 mkInts1
theorem mkInts2 {a b : Int} : evBuildSlice Tryz.prog 77 2 [(0, .v (.int .i64 a)), (1, .v (.int .i64 b))] = some (.lst .full 1 [[.v (.int .i64 a)], [.v (.int .i64 b)]]) := build_rows appInts rfl rfl (by decide)
attribute [local go_sem] mkInts2
theorem mkInts3 {a b c : Int} : evBuildSlice Tryz.prog 77 3 [(0, .v (.int .i64 a)), (1, .v (.int .i64 b)), (2, .v (.int .i64 c))] = some (.lst .full 1 [[.v (.int .i64 a)], [.v (.int .i64 b)], [.v (.int .i64 c)]]) := build_rows appInts rfl rfl (by decide)
attribute [local go_sem] mkInts3
def endsN (x : Nd) : List Int := if x.op = 9 then [] else if x.op = 1 ∨ x.op = 8 then [x.a] else if x.op = 6 then [x.a, x.b, x.c] else [x.a, x.b]
theorem endsN_len (x : Nd) : (endsN x).length ≤ 3 := by
 unfold endsN
 split <;> (try split) <;> (try split) <;> simp
def endsNG : List AV → Mem → Option (AV × Mem)
 | [.agg cs], m =>
  match unNd cs with
  | some x => some (.lst .no 1 (rowsI (endsN x)), m)
  | none => none
 | _, _ => none
theorem endsNG_eq (x : Nd) (mm : Mem) : endsNG [.agg x.row] mm = some (.lst .no 1 (rowsI (endsN x)), mm) := by
 simp only [endsNG, unNd_of]
def kpEndsN : Nat → Option (List Nat) := fun
 | 0 => some [1]
 | 1 => some [1, 4]
 | 2 => some [1, 4, 5]
 | 3 => some [2]
 | 4 => some [1, 4, 7]
 | 5 => some [1, 4, 7]
 | 6 => some [2]
 | 7 => some [1, 13]
 | 8 => some [2]
 | 9 => some [2]
 | _ => none
attribute [go_sem] kpEndsN
attribute [local irreducible] nrow
theorem endsN_ok : FunOk Tryz.prog 149 endsNG := by
 have hC := table_ok (P := Tryz.prog) (l := []) table_nil
 refine fun_ok mixed hC Tryz.func149 rfl kpEndsN false rfl fun args m r h => ?_
 unfold endsNG at h
 split at h
 ·rename_i cs
  split at h
  ·rename_i x hx
   obtain rfl := unNd_row hx
   simp only [Option.some.injEq] at h
   subst h
   refine ⟨Nat.le_of_ble_eq_true rfl, ?_⟩
   refine en ?_
   have fin : ∀ (e : Env) (m' : Mem) (L : List Int), Ev.get e 2 = .lst .full 1 (rowsI L) → finMem m m' = m → L = endsN x → Leaves Tryz.prog false Tryz.f149 m (.lst .no 1 (rowsI (endsN x)), m) .ret e m' := fun e m' L h1 h2 h3 => by
    rw [← h3]; exact leaves_lst rfl h1 h2
   obtain ⟨op, a, b, c, k, u, n⟩ := x
   simp only at *
   by_cases h9 : op = 9
   ·subst h9
    repeat' (first | refine gos0 ?_ | (refine ops_here ?_; (fail_if_success (refine ops_case (B := true) rfl rfl rfl ?_ ?_)); (fail_if_success (refine ops_case (B := false) rfl rfl rfl ?_ ?_)); refine ops_case rfl rfl rfl (fun hB => ?_) (fun hB => ?_) <;> rw [hB]) | (refine runs_here ?_; refine runs_cond rfl (fun hc => ?_) (fun hc => ?_) <;> first | (cases hc; done) | skip))
    all_goals first | exact fin _ _ [] rfl fin_push rfl | (exfalso; simp at *; done)
   by_cases h1 : op = 1 ∨ op = 8
   ·have e1 : endsN ⟨op, a, b, c, k, u, n⟩ = [a] := by unfold endsN; rw [if_neg h9, if_pos h1]
    have b9 : (op == 9) = false := by simpa using h9
    rcases h1 with rfl | rfl
    ·repeat' (first | refine gos0 ?_ | (refine ops_here ?_; (fail_if_success (refine ops_case (B := true) rfl rfl rfl ?_ ?_)); (fail_if_success (refine ops_case (B := false) rfl rfl rfl ?_ ?_)); refine ops_case rfl rfl rfl (fun hB => ?_) (fun hB => ?_) <;> rw [hB]) | (refine runs_here ?_; refine runs_cond rfl (fun hc => ?_) (fun hc => ?_) <;> first | (cases hc; done) | skip))
     all_goals first | exact fin _ _ [a] rfl fin_push e1.symm | (exfalso; simp at *; done)
    ·repeat' (first | refine gos0 ?_ | (refine ops_here ?_; (fail_if_success (refine ops_case (B := true) rfl rfl rfl ?_ ?_)); (fail_if_success (refine ops_case (B := false) rfl rfl rfl ?_ ?_)); refine ops_case rfl rfl rfl (fun hB => ?_) (fun hB => ?_) <;> rw [hB]) | (refine runs_here ?_; refine runs_cond rfl (fun hc => ?_) (fun hc => ?_) <;> first | (cases hc; done) | skip))
     all_goals first | exact fin _ _ [a] rfl fin_push e1.symm | (exfalso; simp at *; done)
   ·have b9 : (op == 9) = false := by simpa using h9
    have b1 : (op == 1) = false := by simp; omega
    have b8 : (op == 8) = false := by simp; omega
    by_cases h6 : op = 6
    ·have e1 : endsN ⟨op, a, b, c, k, u, n⟩ = [a, b, c] := by unfold endsN; rw [if_neg h9, if_neg h1, if_pos h6]
     have b6 : (op == 6) = true := by simpa using h6
     repeat' (first | refine gos1 (jn @b9 (jn @b1 (jn @b8 @b6))) ?_ | (refine ops_here ?_; (fail_if_success (refine ops_case (B := true) rfl rfl rfl ?_ ?_)); (fail_if_success (refine ops_case (B := false) rfl rfl rfl ?_ ?_)); refine ops_case rfl rfl rfl (fun hB => ?_) (fun hB => ?_) <;> rw [hB]) | (refine runs_here ?_; refine runs_cond rfl (fun hc => ?_) (fun hc => ?_) <;> first | (cases hc; done) | skip))
     all_goals first | exact fin _ _ [a, b, c] rfl fin_push e1.symm | (exfalso; simp at *; done)
    ·have e1 : endsN ⟨op, a, b, c, k, u, n⟩ = [a, b] := by unfold endsN; rw [if_neg h9, if_neg h1, if_neg h6]
     have b6 : (op == 6) = false := by simpa using h6
     repeat' (first | refine gos1 (jn @b9 (jn @b1 (jn @b8 @b6))) ?_ | (refine ops_here ?_; (fail_if_success (refine ops_case (B := true) rfl rfl rfl ?_ ?_)); (fail_if_success (refine ops_case (B := false) rfl rfl rfl ?_ ?_)); refine ops_case rfl rfl rfl (fun hB => ?_) (fun hB => ?_) <;> rw [hB]) | (refine runs_here ?_; refine runs_cond rfl (fun hc => ?_) (fun hc => ?_) <;> first | (cases hc; done) | skip))
     all_goals first | exact fin _ _ [a, b] rfl fin_push e1.symm | (exfalso; simp at *; done)
  ·cases h
 ·cases h
end
section
attribute [local irreducible] Next Inside Runs Ops table
attribute [local go_sem] szStr szInt Option.getD_some isNil evStr loadStr loadInt mkInts0 mkInts1 mkInts2 mkInts3 rowsI_len rowsN_len fldOp ldOp ldNode zeroNode okNode newNode evMinMax evFoldI
theorem mapRow {x : Nd} : List.map argCell x.row = x.row := rfl
attribute [local go_sem] mapRow
theorem putRow {m : Mem} {x : Nd} : evStore Tryz.prog (m.push (nrow 0 0 0 0 0 0 0)) 102 (.ptr m.vars.length 0) (.agg x.row) = some (m.push x.row) := putNode (op2 := x.op) (a2 := x.a) (b2 := x.b) (c2 := x.c) (k2 := x.k) (u2 := x.u) (n2 := x.n)
attribute [local go_sem] putRow
theorem topRow {m : Mem} {x : Nd} : evLoad Tryz.prog (m.push x.row) 102 (.ptr m.vars.length 0) = some (.agg x.row) := topNode (op := x.op) (a := x.a) (b := x.b) (c := x.c) (k := x.k) (u := x.u) (n := x.n)
attribute [local go_sem] topRow
/-! ### folds -/
def lohi (p : Int × Int) (xs : List Int) : Int × Int := xs.foldl (fun p x => (mn p.1 x, mx p.2 x)) p
theorem lohi_app (p : Int × Int) (xs ys : List Int) : lohi p (xs ++ ys) = lohi (lohi p xs) ys := List.foldl_append
theorem lohi_spec : ∀ (xs : List Int) (p : Int × Int), ((lohi p xs).1 ≤ p.1 ∧ (∀ x ∈ xs, (lohi p xs).1 ≤ x) ∧ ((lohi p xs).1 = p.1 ∨ (lohi p xs).1 ∈ xs)) ∧ (p.2 ≤ (lohi p xs).2 ∧ (∀ x ∈ xs, x ≤ (lohi p xs).2) ∧ ((lohi p xs).2 = p.2 ∨ (lohi p xs).2 ∈ xs))
 | [], p => by simp [lohi]
 | x :: xs, p => by
  have h := lohi_spec xs (mn p.1 x, mx p.2 x)
  have e : lohi p (x :: xs) = lohi (mn p.1 x, mx p.2 x) xs := rfl
  rw [e]
  obtain ⟨⟨h1, h2, h3⟩, h4, h5, h6⟩ := h
  have a1 : mn p.1 x ≤ p.1 ∧ mn p.1 x ≤ x ∧ (mn p.1 x = p.1 ∨ mn p.1 x = x) := by unfold mn; split <;> omega
  have a2 : p.2 ≤ mx p.2 x ∧ x ≤ mx p.2 x ∧ (mx p.2 x = p.2 ∨ mx p.2 x = x) := by unfold mx; split <;> omega
  simp only at h1 h3 h4 h6
  refine ⟨⟨by omega, ?_, ?_⟩, by omega, ?_, ?_⟩
  ·intro y hy
   rcases List.mem_cons.1 hy with rfl | hy
   ·omega
   ·exact h2 y hy
  ·rcases h3 with h3 | h3
   ·rcases a1.2.2 with a | a
    ·left; omega
    ·right; rw [h3, a]; exact List.mem_cons_self ..
   ·right; exact List.mem_cons_of_mem _ h3
  ·intro y hy
   rcases List.mem_cons.1 hy with rfl | hy
   ·omega
   ·exact h5 y hy
  ·rcases h6 with h6 | h6
   ·rcases a2.2.2 with a | a
    ·left; omega
    ·right; rw [h6, a]; exact List.mem_cons_self ..
   ·right; exact List.mem_cons_of_mem _ h6
def endsL (l : List Nd) : Int × Int := if checkT l = 0 then lohi (4503599627370496, 0) (l.flatMap endsN) else (0, 0)
theorem flat_next {α β : Type} {d : α} {f : α → List β} {l : List α} {i : Nat} (hi : i < l.length) : (l.take (i + 1)).flatMap f = (l.take i).flatMap f ++ f (l.getD i d) := by
 rw [take_next (d := d) hi, List.flatMap_append]
 simp
theorem lohi_next {p : Int × Int} {xs : List Int} {j : Nat} (hj : j < xs.length) : lohi p (xs.take (j + 1)) = (mn (lohi p (xs.take j)).1 (xs.getD j 0), mx (lohi p (xs.take j)).2 (xs.getD j 0)) := by
 rw [take_next (d := 0) hj, lohi_app]
 rfl
def endsG : List AV → Mem → Option (AV × Mem)
 | [.lst _ 7 rows], m =>
  match unN rows with
  | some l => if l.length ≤ big40 then some (.tup [iv (endsL l).1, iv (endsL l).2], m) else none
  | none => none
 | _, _ => none
theorem endsG_eq {m : Mem} {g : Grow} {l : List Nd} (h : l.length ≤ big40) : endsG [.lst g 7 (rowsN l)] m = some (.tup [iv (endsL l).1, iv (endsL l).2], m) := by
 simp only [endsG, unN_rowsN]
 rw [if_pos h]
def kpEnds : Nat → Option (List Nat) := fun
 | 0 => some [0, 3]
 | 1 => some [0, 3, 10]
 | 2 => some [2, 3]
 | 3 => some [0, 2, 3]
 | 4 => some [2, 3, 11, 12, 13]
 | 5 => some [2, 3, 11, 12, 13, 14]
 | 6 => some [2, 3, 5, 11, 12, 13]
 | 7 => some [2, 3, 11, 12, 13, 18, 19, 20]
 | 8 => some [2, 3, 11, 12, 13, 18, 19, 20, 21]
 | 9 => some [2, 3, 7, 11, 12, 13, 18, 19, 20]
 | 10 => some [2, 3, 11, 12, 13, 18, 19, 20]
 | 11 => some [2, 3, 11, 12, 13, 18, 19, 20]
 | 12 => some [2, 3, 11, 12, 13]
 | 13 => some [2, 3]
 | _ => none
attribute [go_sem] kpEnds
def tab_ends_ok : List (FuncId × (List AV → Mem → Option (AV × Mem))) := [(107, checkTG), (149, endsNG)]
theorem ends_ok : FunOk Tryz.prog 114 endsG := by
 have hC := table_ok (P := Tryz.prog) (l := tab_ends_ok) (table_more checkT_ok (table_more endsN_ok table_nil))
 have t1 := fun args mm => table_at (l := tab_ends_ok) (f := 107) (args := args) (m := mm) rfl
 have t2 := fun args mm => table_at (l := tab_ends_ok) (f := 149) (args := args) (m := mm) rfl
 refine fun_ok mixed hC Tryz.func114 rfl kpEnds false rfl fun args m r h => ?_
 unfold endsG at h
 split at h
 ·rename_i g rows
  split at h
  ·rename_i l hl0
   obtain rfl := unN_some hl0
   split at h
   ·rename_i hlen
    simp only [Option.some.injEq] at h
    subst h
    refine ⟨Nat.le_of_ble_eq_true rfl, ?_⟩
    refine en ?_
    have f1 := fun mm => checkTG_eq (m := mm) (g := .no) hlen
    unfold big40 at hlen
    by_cases hc0 : checkT l = 0
    ·have b1 : (checkT l != 0) = false := by rw [hc0]; rfl
     have hE : endsL l = lohi (4503599627370496, 0) (l.flatMap endsN) := if_pos hc0
     refine go1 (jn @t1 (jn @f1 @b1)) ?_
     refine runs_cond rfl (fun hc => by cases hc) (fun hc => ?_)
     refine go0 ?_
     refine runs_loop (fun k e m' => ∃ (lo hi : Int) (i : Nat), i ≤ l.length ∧ (lo, hi) = lohi (4503599627370496, 0) ((l.take i).flatMap endsN) ∧ Above m m' ∧ k = l.length - i ∧
      e = [(2, .v (.int .i64 lo)), (3, .v (.int .i64 hi)), (11, .lst g 7 (rowsN l)), (12, .v (.int .i64 (l.length : Int))), (13, .v (.int .i64 (i : Int)))]) (k := l.length) ⟨_, _, 0, Nat.zero_le _, rfl, above_self _, rfl, rfl⟩ ?_
     rintro k e m' ⟨lo, hi, i, hi0, hL, hA, rfl, rfl⟩
     refine go0 ?_
     refine runs_cond rfl (fun hc => ?_) (fun hc => ?_)
     ·have hi1 : i < l.length := by have := of_decide_eq_true hc; omega
      have f2 := atNodes (g := g) (kk := .i64) hi1
      have f3 := endsNG_eq (l.getD i nd0)
      have h3 := endsN_len (l.getD i nd0)
      have hN := flat_next (f := endsN) (d := nd0) hi1
      generalize endsN (l.getD i nd0) = L at f3 h3 hN
      refine go1 (jn @f2 (jn @t2 @f3)) ?_
      refine runs_loop (fun k e m'' => ∃ (lo2 hi2 : Int) (j : Nat), j ≤ L.length ∧ (lo2, hi2) = lohi (lo, hi) (L.take j) ∧ Above m m'' ∧ k = L.length - j ∧
       e = [(2, .v (.int .i64 lo2)), (3, .v (.int .i64 hi2)), (11, .lst g 7 (rowsN l)), (12, .v (.int .i64 (l.length : Int))), (13, .v (.int .i64 (i : Int))), (18, .lst .no 1 (rowsI L)), (19, .v (.int .i64 (L.length : Int))), (20, .v (.int .i64 (j : Int)))]) (k := L.length)
       ⟨_, _, 0, Nat.zero_le _, rfl, above_push hA, rfl, rfl⟩ ?_
      rintro k e m'' ⟨lo2, hi2, j, hj0, hL2, hA2, rfl, rfl⟩
      refine go0 ?_
      refine runs_cond rfl (fun hc => ?_) (fun hc => ?_)
      ·have hj1 : j < L.length := by have := of_decide_eq_true hc; omega
       have f4 := atInts (g := .no) (kk := .i64) hj1
       have r6 := next_i64 (i := j) (by omega)
       refine go1 (jn @f4 @r6) ?_
       refine ⟨L.length - (j + 1), by omega, _, _, j + 1, hj1, ?_, hA2, rfl, rfl⟩
       rw [lohi_next hj1, ← hL2]
      ·have hj1 : j = L.length := by have := of_decide_eq_false hc; omega
       subst hj1
       have r6 := next_i64 (i := i) (by omega)
       refine go1 @r6 ?_
       refine ⟨l.length - (i + 1), by omega, _, _, i + 1, hi1, ?_, hA2, rfl, rfl⟩
       rw [hN, lohi_app, ← hL, hL2, List.take_length]
     ·have hi1 : i = l.length := by have := of_decide_eq_false hc; omega
      subst hi1
      rw [List.take_length, ← hE] at hL
      refine go0 ?_
      rw [← hL]
      exact leaves_two rfl rfl rfl (above_fin hA)
    ·have b1 : (checkT l != 0) = true := by rw [bne_iff_ne]; exact hc0
     rw [show endsL l = (0, 0) from if_neg hc0]
     refine go1 (jn @t1 (jn @f1 @b1)) ?_
     refine runs_cond rfl (fun hc => ?_) (fun hc => by cases hc)
     refine go0 ?_
     exact leaves_vv rfl rfl rfl
   ·cases h
  ·cases h
 ·cases h
/-! ### all numbers, the document's way -/
def numsN (x : Nd) : List Int := if x.op = 9 then [] else [x.a] ++ (if 2 ≤ x.op ∧ x.op ≤ 7 then [x.b] else []) ++ (if x.op = 6 then [x.c] else [])
theorem numsN_len (x : Nd) : (numsN x).length ≤ 3 := by
 unfold numsN
 split
 ·simp
 ·split <;> split <;> simp
theorem numsN_ends {x : Nd} (h : 1 ≤ x.op ∧ x.op ≤ 9) : numsN x = endsN x := by
 unfold numsN endsN
 by_cases h9 : x.op = 9
 ·rw [if_pos h9, if_pos h9]
 rw [if_neg h9, if_neg h9]
 by_cases h1 : x.op = 1 ∨ x.op = 8
 ·rw [if_pos h1, if_neg (by omega), if_neg (by omega)]; rfl
 rw [if_neg h1, if_pos (by omega)]
 by_cases h6 : x.op = 6
 ·rw [if_pos h6, if_pos h6]; rfl
 ·rw [if_neg h6, if_neg h6]; rfl
theorem numsL_len (l : List Nd) : (l.flatMap numsN).length ≤ 3 * l.length := by
 induction l with
 | nil => simp
 | cons x l ih =>
  have := numsN_len x
  simp only [List.flatMap_cons, List.length_append, List.length_cons]
  omega
def numsG : List AV → Mem → Option (AV × Mem)
 | [.lst _ 7 rows], m =>
  match unN rows with
  | some l => if l.length ≤ 1000 then some (.lst .no 1 (rowsI (l.flatMap numsN)), m) else none
  | none => none
 | _, _ => none
theorem numsG_eq {m : Mem} {g : Grow} {l : List Nd} (h : l.length ≤ 1000) : numsG [.lst g 7 (rowsN l)] m = some (.lst .no 1 (rowsI (l.flatMap numsN)), m) := by
 simp only [numsG, unN_rowsN]
 rw [if_pos h]
theorem fldA {x : Nd} : evFieldAddr Tryz.prog 102 (.eptr x.row) 1 = some (.eptr (x.row.drop 1)) := by kernel_rfl
theorem fldB {x : Nd} : evFieldAddr Tryz.prog 102 (.eptr x.row) 2 = some (.eptr (x.row.drop 2)) := by kernel_rfl
theorem fldC {x : Nd} : evFieldAddr Tryz.prog 102 (.eptr x.row) 3 = some (.eptr (x.row.drop 3)) := by kernel_rfl
theorem ldA {m : Mem} {x : Nd} : evLoad Tryz.prog m 3 (.eptr (x.row.drop 1)) = some (.v (.int .i64 x.a)) := loadInt
theorem ldB {m : Mem} {x : Nd} : evLoad Tryz.prog m 3 (.eptr (x.row.drop 2)) = some (.v (.int .i64 x.b)) := loadInt
theorem ldC {m : Mem} {x : Nd} : evLoad Tryz.prog m 3 (.eptr (x.row.drop 3)) = some (.v (.int .i64 x.c)) := loadInt
attribute [local go_sem] fldA fldB fldC ldA ldB ldC
def kpNums : Nat → Option (List Nat) := fun
 | 0 => some [0]
 | 1 => some [0, 3]
 | 2 => some [0, 3, 4]
 | 3 => some [0, 3, 4, 9]
 | 4 => some [0, 3, 4]
 | 5 => some [0, 3, 4, 17]
 | 6 => some [0, 3, 4]
 | 7 => some [0, 3, 4, 39]
 | 8 => some [0, 3, 4]
 | 9 => some [0, 3, 4, 53]
 | 10 => some [0, 3, 4]
 | 11 => some [2]
 | _ => none
attribute [go_sem] kpNums
theorem nums_ok : FunOk Tryz.prog 116 numsG := by
 have hC := table_ok (P := Tryz.prog) (l := []) table_nil
 refine fun_ok mixed hC Tryz.func116 rfl kpNums false rfl fun args m r h => ?_
 unfold numsG at h
 split at h
 ·rename_i g rows
  split at h
  ·rename_i l hl0
   obtain rfl := unN_some hl0
   split at h
   ·rename_i hlen
    simp only [Option.some.injEq] at h
    subst h
    refine ⟨Nat.le_of_ble_eq_true rfl, ?_⟩
    refine en ?_
    refine go0 ?_
    refine runs_loop (fun k e m' => ∃ (i : Nat) (gr : Grow), i ≤ l.length ∧ Grows m gr m' ∧ k = l.length - i ∧
     e = [(0, .lst g 7 (rowsN l)), (3, .lst gr 1 (rowsI ((l.take i).flatMap numsN))), (4, .v (.int .i64 (i : Int)))]) (k := l.length) ⟨0, _, Nat.zero_le _, grows_full, rfl, rfl⟩ ?_
    rintro k e m' ⟨i, gr, hi0, hG, rfl, rfl⟩
    refine go0 ?_
    refine runs_cond rfl (fun hc => ?_) (fun hc => ?_)
    ·have hi1 : i < l.length := by have := of_decide_eq_true hc; omega
     have f2 := atNodes (g := g) (kk := .i64) hi1
     have hN := flat_next (f := numsN) (d := nd0) hi1
     have hlen2 := numsL_len (l.take i)
     rw [List.length_take] at hlen2
     have r6 := next_i64 (i := i) (by omega)
     have hx : numsN (l.getD i nd0) = if (l.getD i nd0).op = 9 then [] else [(l.getD i nd0).a] ++ (if 2 ≤ (l.getD i nd0).op ∧ (l.getD i nd0).op ≤ 7 then [(l.getD i nd0).b] else []) ++ (if (l.getD i nd0).op = 6 then [(l.getD i nd0).c] else []) := rfl
     generalize l.getD i nd0 = x at f2 hN hx
     generalize (l.take i).flatMap numsN = acc at hN hlen2
     have done : ∀ (gr' : Grow) (m2 : Mem) (L : List Int), L = acc ++ numsN x → Grows m gr' m2 → ∃ k', k' < l.length - i ∧ ∃ (i' : Nat) (gr2 : Grow), i' ≤ l.length ∧ Grows m gr2 m2 ∧ k' = l.length - i' ∧
       [(0, AV.lst g 7 (rowsN l)), (3, .lst gr' 1 (rowsI L)), (4, .v (.int .i64 ((i + 1 : Nat) : Int)))] = [(0, .lst g 7 (rowsN l)), (3, .lst gr2 1 (rowsI ((l.take i').flatMap numsN))), (4, .v (.int .i64 (i' : Int)))] :=
      fun gr' m2 L hL hG' => ⟨l.length - (i + 1), by omega, i + 1, gr', hi1, hG', rfl, by rw [hL, hN]⟩
     by_cases h9 : x.op = 9
     ·have b9 : (x.op == 9) = true := by simpa using h9
      rw [if_pos h9] at hx
      refine go1 (jn @f2 @b9) ?_
      refine runs_cond rfl (fun hc => ?_) (fun hc => by cases hc)
      refine go1 @r6 ?_
      exact done _ _ _ (by rw [hx, List.append_nil]) hG
     ·have b9 : (x.op == 9) = false := by simpa using h9
      rw [if_neg h9] at hx
      obtain ⟨g1, m1, ha1, hG1⟩ := app_int (g2 := .full) appInts hG acc x.a (by unfold lim; omega)
      refine go1 (jn @f2 @b9) ?_
      refine runs_cond rfl (fun hc => by cases hc) (fun hc => ?_)
      by_cases h27 : 2 ≤ x.op ∧ x.op ≤ 7
      ·have b2 : decide (x.op ≥ 2) = true := decide_eq_true h27.1
       have b7 : decide (x.op ≤ 7) = true := decide_eq_true h27.2
       obtain ⟨g2, m2, ha2, hG2⟩ := app_int (g2 := .full) appInts hG1 (acc ++ [x.a]) x.b (by unfold lim; simp; omega)
       rw [if_pos h27] at hx
       refine go1 (jn @f2 (jn @ha1 (jn @b2 @b7))) ?_
       refine runs_cond rfl (fun hc => ?_) (fun hc => by cases hc)
       by_cases h6 : x.op = 6
       ·have b6 : (x.op == 6) = true := by simpa using h6
        obtain ⟨g3, m3, ha3, hG3⟩ := app_int (g2 := .full) appInts hG2 (acc ++ [x.a] ++ [x.b]) x.c (by unfold lim; simp; omega)
        rw [if_pos h6] at hx
        refine go1 (jn @f2 (jn @ha2 @b6)) ?_
        refine runs_cond rfl (fun hc => ?_) (fun hc => by cases hc)
        refine go1 (jn @f2 (jn @ha3 @r6)) ?_
        exact done _ _ _ (by rw [hx]; simp) hG3
       ·have b6 : (x.op == 6) = false := by simpa using h6
        rw [if_neg h6] at hx
        refine go1 (jn @f2 (jn @ha2 @b6)) ?_
        refine runs_cond rfl (fun hc => by cases hc) (fun hc => ?_)
        refine go1 @r6 ?_
        exact done _ _ _ (by rw [hx]; simp) hG2
      ·have h6 : x.op ≠ 6 := by omega
       have b6 : (x.op == 6) = false := by simpa using h6
       rw [if_neg h27, if_neg h6] at hx
       by_cases h2 : 2 ≤ x.op
       ·have b2 : decide (x.op ≥ 2) = true := decide_eq_true h2
        have b7 : decide (x.op ≤ 7) = false := decide_eq_false (by omega)
        refine go1 (jn @f2 (jn @ha1 (jn @b2 @b7))) ?_
        refine runs_cond rfl (fun hc => by cases hc) (fun hc => ?_)
        refine go1 (jn @f2 @b6) ?_
        refine runs_cond rfl (fun hc => by cases hc) (fun hc => ?_)
        refine go1 @r6 ?_
        exact done _ _ _ (by rw [hx]; simp) hG1
       ·have b2 : decide (x.op ≥ 2) = false := decide_eq_false (by omega)
        refine go1 (jn @f2 (jn @ha1 @b2)) ?_
        refine runs_cond rfl (fun hc => by cases hc) (fun hc => ?_)
        refine go1 (jn @f2 @b6) ?_
        refine runs_cond rfl (fun hc => by cases hc) (fun hc => ?_)
        refine go1 @r6 ?_
        exact done _ _ _ (by rw [hx]; simp) hG1
    ·have hi1 : i = l.length := by have := of_decide_eq_false hc; omega
     subst hi1
     rw [List.take_length]
     refine go0 ?_
     exact leaves_lst rfl rfl (fin_grows hG)
   ·cases h
  ·cases h
 ·cases h
end
end Go.Proofs.YtojaokhkbmiidaaGreat.Ev
