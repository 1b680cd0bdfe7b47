/- Small checks; between two numbers; powers; the wave. (Written out by wip/tools/gen_run1.py.) -/
import Derived.Test.YtmockbddhhmmeaaGreatMbmkl4
namespace Go.Proofs.YtmockbddhhmmeaaGreat.Ev
open Go Go.Proofs
set_option maxRecDepth 10000
set_option maxHeartbeats 8000000
set_option linter.unusedVariables false
set_option linter.unusedSimpArgs false
section
attribute [local irreducible] Next Inside Runs Ops table
attribute [local irreducible] XRuns XOps
attribute [local go_sem] szStr szInt Option.getD_some isNil evMinMax evFoldI mkP' ixP0 ixP1 zrP zoP znP newP cellsP niP eqP
def inB (x lo hi : Int) : Bool := decide (lo ≤ x ∧ x ≤ hi)
def inBG : List AV → Mem → Option (AV × Mem)
 | [.v (.int .i64 x), .v (.int .i64 lo), .v (.int .i64 hi)], m => some (.v (.bool (inB x lo hi)), m)
 | _, _ => none
theorem inB_eq (x lo hi : Int) (m : Mem) : inBG [.v (.int .i64 x), .v (.int .i64 lo), .v (.int .i64 hi)] m = some (.v (.bool (inB x lo hi)), m) := rfl
theorem inB_iff {x lo hi : Int} : inB x lo hi = true ↔ lo ≤ x ∧ x ≤ hi := by unfold inB; exact decide_eq_true_iff
def kpIn_plan : Nat → Option (List Nat) := fun
 | 0 => some [0, 1, 2]
 | 1 => some [6]
 | _ => none
attribute [go_sem] kpIn_plan
theorem planIn_ok : FunOk Tryz.prog 73 inBG := by
 have hC := table_ok (P := Tryz.prog) (l := []) table_nil
 refine fun_ok mixed hC Tryz.func73 rfl kpIn_plan false rfl fun args m r h => ?_
 unfold inBG at h
 split at h
 ·rename_i x lo hi
  simp only [Option.some.injEq] at h
  subst h
  refine ⟨Nat.le_of_ble_eq_true rfl, ?_⟩
  refine en ?_
  have fin : ∀ (e : Env) (b : Bool), Ev.get e 6 = .v (.bool b) → b = (inB x lo hi) → Leaves Tryz.prog false Tryz.f73 m (.v (.bool (inB x lo hi)), m) .ret e m := fun e b h1 h2 => by rw [← h2]; exact leaves_v rfl h1
  repeat' (first | refine gos0 ?_ | (refine ops_here ?_; (fail_if_success (refine ops_case (B := true) rfl rfl rfl ?_ ?_)); (fail_if_success (refine ops_case (B := false) rfl rfl rfl ?_ ?_)); refine ops_case rfl rfl rfl (fun hB => ?_) (fun hB => ?_) <;> rw [hB]) | (refine runs_here ?_; refine runs_cond rfl (fun hc => ?_) (fun hc => ?_) <;> first | (cases hc; done) | skip))
  all_goals exact fin _ _ rfl (by unfold inB; rw [Bool.eq_iff_iff]; simp only [decide_eq_true_eq, decide_eq_false_iff_not, Bool.false_eq_true, false_iff, true_iff, Bool.and_eq_true, Bool.or_eq_true] at *; omega)
 ·cases h
def kpIn_state : Nat → Option (List Nat) := fun
 | 0 => some [0, 1, 2]
 | 1 => some [6]
 | _ => none
attribute [go_sem] kpIn_state
theorem stateIn_ok : FunOk Tryz.prog 82 inBG := by
 have hC := table_ok (P := Tryz.prog) (l := []) table_nil
 refine fun_ok mixed hC Tryz.func82 rfl kpIn_state false rfl fun args m r h => ?_
 unfold inBG at h
 split at h
 ·rename_i x lo hi
  simp only [Option.some.injEq] at h
  subst h
  refine ⟨Nat.le_of_ble_eq_true rfl, ?_⟩
  refine en ?_
  have fin : ∀ (e : Env) (b : Bool), Ev.get e 6 = .v (.bool b) → b = (inB x lo hi) → Leaves Tryz.prog false Tryz.f82 m (.v (.bool (inB x lo hi)), m) .ret e m := fun e b h1 h2 => by rw [← h2]; exact leaves_v rfl h1
  repeat' (first | refine gos0 ?_ | (refine ops_here ?_; (fail_if_success (refine ops_case (B := true) rfl rfl rfl ?_ ?_)); (fail_if_success (refine ops_case (B := false) rfl rfl rfl ?_ ?_)); refine ops_case rfl rfl rfl (fun hB => ?_) (fun hB => ?_) <;> rw [hB]) | (refine runs_here ?_; refine runs_cond rfl (fun hc => ?_) (fun hc => ?_) <;> first | (cases hc; done) | skip))
  all_goals exact fin _ _ rfl (by unfold inB; rw [Bool.eq_iff_iff]; simp only [decide_eq_true_eq, decide_eq_false_iff_not, Bool.false_eq_true, false_iff, true_iff, Bool.and_eq_true, Bool.or_eq_true] at *; omega)
 ·cases h
def kpIn_segs : Nat → Option (List Nat) := fun
 | 0 => some [0, 1, 2]
 | 1 => some [6]
 | _ => none
attribute [go_sem] kpIn_segs
theorem segsIn_ok : FunOk Tryz.prog 142 inBG := by
 have hC := table_ok (P := Tryz.prog) (l := []) table_nil
 refine fun_ok mixed hC Tryz.func142 rfl kpIn_segs false rfl fun args m r h => ?_
 unfold inBG at h
 split at h
 ·rename_i x lo hi
  simp only [Option.some.injEq] at h
  subst h
  refine ⟨Nat.le_of_ble_eq_true rfl, ?_⟩
  refine en ?_
  have fin : ∀ (e : Env) (b : Bool), Ev.get e 6 = .v (.bool b) → b = (inB x lo hi) → Leaves Tryz.prog false Tryz.f142 m (.v (.bool (inB x lo hi)), m) .ret e m := fun e b h1 h2 => by rw [← h2]; exact leaves_v rfl h1
  repeat' (first | refine gos0 ?_ | (refine ops_here ?_; (fail_if_success (refine ops_case (B := true) rfl rfl rfl ?_ ?_)); (fail_if_success (refine ops_case (B := false) rfl rfl rfl ?_ ?_)); refine ops_case rfl rfl rfl (fun hB => ?_) (fun hB => ?_) <;> rw [hB]) | (refine runs_here ?_; refine runs_cond rfl (fun hc => ?_) (fun hc => ?_) <;> first | (cases hc; done) | skip))
  all_goals exact fin _ _ rfl (by unfold inB; rw [Bool.eq_iff_iff]; simp only [decide_eq_true_eq, decide_eq_false_iff_not, Bool.false_eq_true, false_iff, true_iff, Bool.and_eq_true, Bool.or_eq_true] at *; omega)
 ·cases h
def kpIn_curve : Nat → Option (List Nat) := fun
 | 0 => some [0, 1, 2]
 | 1 => some [6]
 | _ => none
attribute [go_sem] kpIn_curve
theorem curveIn_ok : FunOk Tryz.prog 157 inBG := by
 have hC := table_ok (P := Tryz.prog) (l := []) table_nil
 refine fun_ok mixed hC Tryz.func157 rfl kpIn_curve false rfl fun args m r h => ?_
 unfold inBG at h
 split at h
 ·rename_i x lo hi
  simp only [Option.some.injEq] at h
  subst h
  refine ⟨Nat.le_of_ble_eq_true rfl, ?_⟩
  refine en ?_
  have fin : ∀ (e : Env) (b : Bool), Ev.get e 6 = .v (.bool b) → b = (inB x lo hi) → Leaves Tryz.prog false Tryz.f157 m (.v (.bool (inB x lo hi)), m) .ret e m := fun e b h1 h2 => by rw [← h2]; exact leaves_v rfl h1
  repeat' (first | refine gos0 ?_ | (refine ops_here ?_; (fail_if_success (refine ops_case (B := true) rfl rfl rfl ?_ ?_)); (fail_if_success (refine ops_case (B := false) rfl rfl rfl ?_ ?_)); refine ops_case rfl rfl rfl (fun hB => ?_) (fun hB => ?_) <;> rw [hB]) | (refine runs_here ?_; refine runs_cond rfl (fun hc => ?_) (fun hc => ?_) <;> first | (cases hc; done) | skip))
  all_goals exact fin _ _ rfl (by unfold inB; rw [Bool.eq_iff_iff]; simp only [decide_eq_true_eq, decide_eq_false_iff_not, Bool.false_eq_true, false_iff, true_iff, Bool.and_eq_true, Bool.or_eq_true] at *; omega)
 ·cases h
def kpIn_cycle : Nat → Option (List Nat) := fun
 | 0 => some [0, 1, 2]
 | 1 => some [6]
 | _ => none
attribute [go_sem] kpIn_cycle
theorem cycleIn_ok : FunOk Tryz.prog 174 inBG := by
 have hC := table_ok (P := Tryz.prog) (l := []) table_nil
 refine fun_ok mixed hC Tryz.func174 rfl kpIn_cycle false rfl fun args m r h => ?_
 unfold inBG at h
 split at h
 ·rename_i x lo hi
  simp only [Option.some.injEq] at h
  subst h
  refine ⟨Nat.le_of_ble_eq_true rfl, ?_⟩
  refine en ?_
  have fin : ∀ (e : Env) (b : Bool), Ev.get e 6 = .v (.bool b) → b = (inB x lo hi) → Leaves Tryz.prog false Tryz.f174 m (.v (.bool (inB x lo hi)), m) .ret e m := fun e b h1 h2 => by rw [← h2]; exact leaves_v rfl h1
  repeat' (first | refine gos0 ?_ | (refine ops_here ?_; (fail_if_success (refine ops_case (B := true) rfl rfl rfl ?_ ?_)); (fail_if_success (refine ops_case (B := false) rfl rfl rfl ?_ ?_)); refine ops_case rfl rfl rfl (fun hB => ?_) (fun hB => ?_) <;> rw [hB]) | (refine runs_here ?_; refine runs_cond rfl (fun hc => ?_) (fun hc => ?_) <;> first | (cases hc; done) | skip))
  all_goals exact fin _ _ rfl (by unfold inB; rw [Bool.eq_iff_iff]; simp only [decide_eq_true_eq, decide_eq_false_iff_not, Bool.false_eq_true, false_iff, true_iff, Bool.and_eq_true, Bool.or_eq_true] at *; omega)
 ·cases h
def powMayG : List AV → Mem → Option (AV × Mem)
 | [.v (.int .i64 x)], m => some (.v (.bool (inB x 0 4294967296)), m)
 | _, _ => none
def kp_powMay : Nat → Option (List Nat) := fun
 | 0 => some [0]
 | 1 => some [2]
 | _ => none
attribute [go_sem] kp_powMay
theorem powMay_ok : FunOk Tryz.prog 179 powMayG := by
 have hC := table_ok (P := Tryz.prog) (l := []) table_nil
 refine fun_ok mixed hC Tryz.func179 rfl kp_powMay false rfl fun args m r h => ?_
 unfold powMayG at h
 split at h
 ·rename_i x
  simp only [Option.some.injEq] at h
  subst h
  refine ⟨Nat.le_of_ble_eq_true rfl, ?_⟩
  refine en ?_
  have fin : ∀ (e : Env) (b : Bool), Ev.get e 2 = .v (.bool b) → b = (inB x 0 4294967296) → Leaves Tryz.prog false Tryz.f179 m (.v (.bool (inB x 0 4294967296)), m) .ret e m := fun e b h1 h2 => by rw [← h2]; exact leaves_v rfl h1
  repeat' (first | refine gos0 ?_ | (refine ops_here ?_; (fail_if_success (refine ops_case (B := true) rfl rfl rfl ?_ ?_)); (fail_if_success (refine ops_case (B := false) rfl rfl rfl ?_ ?_)); refine ops_case rfl rfl rfl (fun hB => ?_) (fun hB => ?_) <;> rw [hB]) | (refine runs_here ?_; refine runs_cond rfl (fun hc => ?_) (fun hc => ?_) <;> first | (cases hc; done) | skip))
  all_goals exact fin _ _ rfl (by unfold inB; rw [Bool.eq_iff_iff]; simp only [decide_eq_true_eq, decide_eq_false_iff_not, Bool.false_eq_true, false_iff, true_iff, Bool.and_eq_true, Bool.or_eq_true] at *; omega)
 ·cases h
def waveMayG : List AV → Mem → Option (AV × Mem)
 | [.v (.int .i64 x)], m => some (.v (.bool (inB x 0 4294967296)), m)
 | _, _ => none
def kp_waveMay : Nat → Option (List Nat) := fun
 | 0 => some [0]
 | 1 => some [2]
 | _ => none
attribute [go_sem] kp_waveMay
theorem waveMay_ok : FunOk Tryz.prog 184 waveMayG := by
 have hC := table_ok (P := Tryz.prog) (l := []) table_nil
 refine fun_ok mixed hC Tryz.func184 rfl kp_waveMay false rfl fun args m r h => ?_
 unfold waveMayG at h
 split at h
 ·rename_i x
  simp only [Option.some.injEq] at h
  subst h
  refine ⟨Nat.le_of_ble_eq_true rfl, ?_⟩
  refine en ?_
  have fin : ∀ (e : Env) (b : Bool), Ev.get e 2 = .v (.bool b) → b = (inB x 0 4294967296) → Leaves Tryz.prog false Tryz.f184 m (.v (.bool (inB x 0 4294967296)), m) .ret e m := fun e b h1 h2 => by rw [← h2]; exact leaves_v rfl h1
  repeat' (first | refine gos0 ?_ | (refine ops_here ?_; (fail_if_success (refine ops_case (B := true) rfl rfl rfl ?_ ?_)); (fail_if_success (refine ops_case (B := false) rfl rfl rfl ?_ ?_)); refine ops_case rfl rfl rfl (fun hB => ?_) (fun hB => ?_) <;> rw [hB]) | (refine runs_here ?_; refine runs_cond rfl (fun hc => ?_) (fun hc => ?_) <;> first | (cases hc; done) | skip))
  all_goals exact fin _ _ rfl (by unfold inB; rw [Bool.eq_iff_iff]; simp only [decide_eq_true_eq, decide_eq_false_iff_not, Bool.false_eq_true, false_iff, true_iff, Bool.and_eq_true, Bool.or_eq_true] at *; omega)
 ·cases h
def planCountG : List AV → Mem → Option (AV × Mem)
 | [.v (.int .i64 x)], m => some (.v (.bool (inB x 1 1099511627776)), m)
 | _, _ => none
def kp_planCount : Nat → Option (List Nat) := fun
 | 0 => some [0]
 | 1 => some [2]
 | _ => none
attribute [go_sem] kp_planCount
def tab_planCount_ok : List (FuncId × (List AV → Mem → Option (AV × Mem))) := [(73, inBG)]
theorem planCount_ok : FunOk Tryz.prog 105 planCountG := by
 have hC := table_ok (P := Tryz.prog) (l := tab_planCount_ok) (table_more planIn_ok table_nil)
 have t1 := fun args mm => table_at (l := tab_planCount_ok) (f := 73) (args := args) (m := mm) rfl
 refine fun_ok mixed hC Tryz.func105 rfl kp_planCount false rfl fun args m r h => ?_
 unfold planCountG at h
 split at h
 ·rename_i x
  simp only [Option.some.injEq] at h
  subst h
  refine ⟨Nat.le_of_ble_eq_true rfl, ?_⟩
  refine en ?_
  have c1 := inB_eq x 1 1099511627776
  refine go1 (jn @t1 @c1) ?_
  exact leaves_v rfl rfl
 ·cases h
def planValueG : List AV → Mem → Option (AV × Mem)
 | [.v (.int .i64 x)], m => some (.v (.bool (inB x 0 4503599627370496)), m)
 | _, _ => none
def kp_planValue : Nat → Option (List Nat) := fun
 | 0 => some [0]
 | 1 => some [2]
 | _ => none
attribute [go_sem] kp_planValue
def tab_planValue_ok : List (FuncId × (List AV → Mem → Option (AV × Mem))) := [(73, inBG)]
theorem planValue_ok : FunOk Tryz.prog 106 planValueG := by
 have hC := table_ok (P := Tryz.prog) (l := tab_planValue_ok) (table_more planIn_ok table_nil)
 have t1 := fun args mm => table_at (l := tab_planValue_ok) (f := 73) (args := args) (m := mm) rfl
 refine fun_ok mixed hC Tryz.func106 rfl kp_planValue false rfl fun args m r h => ?_
 unfold planValueG at h
 split at h
 ·rename_i x
  simp only [Option.some.injEq] at h
  subst h
  refine ⟨Nat.le_of_ble_eq_true rfl, ?_⟩
  refine en ?_
  have c1 := inB_eq x 0 4503599627370496
  refine go1 (jn @t1 @c1) ?_
  exact leaves_v rfl rfl
 ·cases h
def platCountG : List AV → Mem → Option (AV × Mem)
 | [.v (.int .i64 x)], m => some (.v (.bool (inB x 0 1099511627776)), m)
 | _, _ => none
def kp_platCount : Nat → Option (List Nat) := fun
 | 0 => some [0]
 | 1 => some [2]
 | _ => none
attribute [go_sem] kp_platCount
theorem platCount_ok : FunOk Tryz.prog 107 platCountG := by
 have hC := table_ok (P := Tryz.prog) (l := []) table_nil
 refine fun_ok mixed hC Tryz.func107 rfl kp_platCount false rfl fun args m r h => ?_
 unfold platCountG at h
 split at h
 ·rename_i x
  simp only [Option.some.injEq] at h
  subst h
  refine ⟨Nat.le_of_ble_eq_true rfl, ?_⟩
  refine en ?_
  have fin : ∀ (e : Env) (b : Bool), Ev.get e 2 = .v (.bool b) → b = (inB x 0 1099511627776) → Leaves Tryz.prog false Tryz.f107 m (.v (.bool (inB x 0 1099511627776)), m) .ret e m := fun e b h1 h2 => by rw [← h2]; exact leaves_v rfl h1
  repeat' (first | refine gos0 ?_ | (refine ops_here ?_; (fail_if_success (refine ops_case (B := true) rfl rfl rfl ?_ ?_)); (fail_if_success (refine ops_case (B := false) rfl rfl rfl ?_ ?_)); refine ops_case rfl rfl rfl (fun hB => ?_) (fun hB => ?_) <;> rw [hB]) | (refine runs_here ?_; refine runs_cond rfl (fun hc => ?_) (fun hc => ?_) <;> first | (cases hc; done) | skip))
  all_goals exact fin _ _ rfl (by unfold inB; rw [Bool.eq_iff_iff]; simp only [decide_eq_true_eq, decide_eq_false_iff_not, Bool.false_eq_true, false_iff, true_iff, Bool.and_eq_true, Bool.or_eq_true] at *; omega)
 ·cases h
/-! ### products of parts -/
def tm (x y : Int) : Int := (mulV x y).1
def tmG : List AV → Mem → Option (AV × Mem)
 | [.v (.int .i64 x), .v (.int .i64 y)], m => if inI x ∧ inI y then some (iv (tm x y), m) else none
 | _, _ => none
theorem tmG_eq {x y : Int} (hx : inI x) (hy : inI y) (m : Mem) : tmG [.v (.int .i64 x), .v (.int .i64 y)] m = some (.v (.int .i64 (tm x y)), m) := if_pos ⟨hx, hy⟩
theorem mulG_eq {x y : Int} (hx : inI x) (hy : inI y) (m : Mem) : mulG [.v (.int .i64 x), .v (.int .i64 y)] m = some (.tup [.v (.int .i64 (mulV x y).1), .v (.int .i64 (mulV x y).2)], m) := if_pos ⟨hx, hy⟩
theorem tm_in {x y : Int} (hx : inI x) (hy : inI y) : inI (tm x y) := mulV_in hx hy
def kpTm_pow : Nat → Option (List Nat) := fun
 | 0 => some [0, 1]
 | 1 => some [5]
 | 2 => some [4]
 | _ => none
attribute [go_sem] kpTm_pow
def tab_powTm_ok : List (FuncId × (List AV → Mem → Option (AV × Mem))) := [(114, mulG)]
theorem powTm_ok : FunOk Tryz.prog 180 tmG := by
 have hC := table_ok (P := Tryz.prog) (l := tab_powTm_ok) (table_more mul_ok table_nil)
 have t1 := fun args mm => table_at (l := tab_powTm_ok) (f := 114) (args := args) (m := mm) rfl
 refine fun_ok mixed hC Tryz.func180 rfl kpTm_pow false rfl fun args m r h => ?_
 unfold tmG at h
 split at h
 ·rename_i x y
  split at h
  ·rename_i hyp
   simp only [Option.some.injEq] at h
   subst h
   refine ⟨Nat.le_of_ble_eq_true rfl, ?_⟩
   refine en ?_
   have c1 := mulG_eq hyp.1 hyp.2
   refine go1 (jn @t1 @c1) ?_
   exact leaves_v rfl rfl
  ·cases h
 ·cases h
def kpTm_wave : Nat → Option (List Nat) := fun
 | 0 => some [0, 1]
 | 1 => some [5]
 | 2 => some [4]
 | _ => none
attribute [go_sem] kpTm_wave
def tab_waveTm_ok : List (FuncId × (List AV → Mem → Option (AV × Mem))) := [(114, mulG)]
theorem waveTm_ok : FunOk Tryz.prog 188 tmG := by
 have hC := table_ok (P := Tryz.prog) (l := tab_waveTm_ok) (table_more mul_ok table_nil)
 have t1 := fun args mm => table_at (l := tab_waveTm_ok) (f := 114) (args := args) (m := mm) rfl
 refine fun_ok mixed hC Tryz.func188 rfl kpTm_wave false rfl fun args m r h => ?_
 unfold tmG at h
 split at h
 ·rename_i x y
  split at h
  ·rename_i hyp
   simp only [Option.some.injEq] at h
   subst h
   refine ⟨Nat.le_of_ble_eq_true rfl, ?_⟩
   refine en ?_
   have c1 := mulG_eq hyp.1 hyp.2
   refine go1 (jn @t1 @c1) ?_
   exact leaves_v rfl rfl
  ·cases h
 ·cases h
theorem wrapI_in (n : Int) : inI (IntKind.i64.wrap n) := by
 rw [wrapI]
 unfold inI
 split <;> omega
/-! ### pow.Of -/
def powN (r x : Int) (n : Nat) : Int := if h : n = 0 then r else powN (if n % 2 = 1 then tm r x else r) (tm x x) (n / 2)
termination_by n
decreasing_by omega
theorem powN_in : ∀ (n : Nat) (r x : Int), inI r → inI x → inI (powN r x n) := by
 intro n
 induction n using Nat.strongRecOn with
 | _ n ih =>
  intro r x hr hx
  rw [powN]
  split
  ·exact hr
  ·refine ih (n / 2) (by omega) _ _ ?_ (tm_in hx hx)
   split
   ·exact tm_in hr hx
   ·exact hr
def powV (x n : Int) : Int × Int := if inB x 0 4294967296 = true ∧ 0 ≤ n ∧ n ≤ 1099511627776 then (powN 4294967296 x n.toNat, 0) else (0, 1)
theorem powV_in {x : Int} (n : Int) (hx : inI x) : inI (powV x n).1 := by
 unfold powV
 split
 ·exact powN_in _ _ _ (by decide) hx
 ·exact (by decide : inI 0)
def powG : List AV → Mem → Option (AV × Mem)
 | [.v (.int .i64 x), .v (.int .i64 n)], m => if inI x then some (.tup [iv (powV x n).1, iv (powV x n).2], m) else none
 | _, _ => none
theorem evAnd1 (n : Nat) (h : n ≤ 1099511627776) : evInt .and .i64 (n : Int) .i64 1 = some (.v (.int .i64 ((n % 2 : Nat) : Int))) := by
 have e1 : (BitVec.ofInt 64 (n : Int)).toNat = n := by
  rw [BitVec.toNat_ofInt]; omega
 have e2 : (BitVec.ofInt 64 1).toNat = 2 ^ 1 - 1 := by decide
 have e3 : (BitVec.ofInt 64 (n : Int) &&& BitVec.ofInt 64 1).toNat = n % 2 := by rw [BitVec.toNat_and, e1, e2, Nat.and_two_pow_sub_one_eq_mod]
 have e4 : IntKind.i64.wrap ((BitVec.ofInt 64 (n : Int) &&& BitVec.ofInt 64 1).toNat : Int) = ((n % 2 : Nat) : Int) := by
  rw [e3, wrap_i64 (by omega) (by omega)]
 unfold evInt
 simp only [if_true]
 exact congrArg (fun z => some (AV.v (Value.int .i64 z))) e4
theorem lt1 : ((1 : Int) < 0) = False := by decide
theorem shr1 (x : Int) : x.fdiv (2 ^ min (Int.toNat 1) 64) = x / 2 := Int.fdiv_eq_ediv_of_nonneg _ (by decide)
def kpPow : Nat → Option (List Nat) := fun
 | 0 => some [0, 1]
 | 1 => some [0, 1, 17]
 | 2 => some [4, 5]
 | 3 => some [0, 1, 6]
 | 4 => some [0, 1, 6, 19]
 | 5 => some [0, 1, 6]
 | 6 => some [0, 1, 6, 24]
 | 7 => some [0, 1, 6]
 | 8 => some [0, 1, 6]
 | 9 => some [4, 5]
 | _ => none
attribute [go_sem] kpPow
def tab_pow_ok : List (FuncId × (List AV → Mem → Option (AV × Mem))) := [(179, powMayG), (180, tmG)]
theorem pow_ok : FunOk Tryz.prog 172 powG := by
 have hC := table_ok (P := Tryz.prog) (l := tab_pow_ok) (table_more powMay_ok (table_more powTm_ok table_nil))
 have t1 := fun args mm => table_at (l := tab_pow_ok) (f := 179) (args := args) (m := mm) rfl
 have t2 := fun args mm => table_at (l := tab_pow_ok) (f := 180) (args := args) (m := mm) rfl
 refine fun_ok mixed hC Tryz.func172 rfl kpPow false rfl fun args m r h => ?_
 unfold powG at h
 split at h
 ·rename_i x n
  split at h
  ·rename_i hx
   simp only [Option.some.injEq] at h
   subst h
   refine ⟨Nat.le_of_ble_eq_true rfl, ?_⟩
   refine en ?_
   have c1 : ∀ mm, powMayG [.v (.int .i64 x)] mm = some (.v (.bool (inB x 0 4294967296)), mm) := fun _ => rfl
   have k1 : (!true) = false := rfl
   have k2 : (!false) = true := rfl
   have bad : ∀ (e : Env), Ev.get e 4 = .v (.int .i64 0) → Ev.get e 5 = .v (.int .i64 1) → ¬ (inB x 0 4294967296 = true ∧ 0 ≤ n ∧ n ≤ 1099511627776) → Leaves Tryz.prog false Tryz.f172 m (.tup [iv (powV x n).1, iv (powV x n).2], m) .ret e m := fun e h1 h2 h3 => by
    unfold powV
    rw [if_neg h3]
    exact leaves_vv rfl h1 h2
   cases hm : inB x 0 4294967296 with
   | false =>
    rw [hm] at c1
    refine go1 (jn @t1 (jn @c1 @k2)) ?_
    refine runs_cond rfl (fun hc => ?_) (fun hc => by cases hc)
    refine go0 ?_
    exact bad _ rfl rfl (fun h => by rw [hm] at h; cases h.1)
   | true =>
    rw [hm] at c1
    cases q1 : decide (n < 0) with
    | true =>
     refine go1 (jn @t1 (jn @c1 (jn @k1 @q1))) ?_
     refine runs_cond rfl (fun hc => ?_) (fun hc => by cases hc)
     refine go0 ?_
     exact bad _ rfl rfl (fun h => by have := of_decide_eq_true q1; omega)
    | false =>
     cases q2 : decide (n > 1099511627776) with
     | true =>
      refine go1 (jn @t1 (jn @c1 (jn @k1 (jn @q1 @q2)))) ?_
      refine runs_cond rfl (fun hc => ?_) (fun hc => by cases hc)
      refine go0 ?_
      exact bad _ rfl rfl (fun h => by have := of_decide_eq_true q2; omega)
     | false =>
      have n0 := of_decide_eq_false q1
      have n1 := of_decide_eq_false q2
      refine go1 (jn @t1 (jn @c1 (jn @k1 (jn @q1 @q2)))) ?_
      refine runs_cond rfl (fun hc => by cases hc) (fun hc => ?_)
      unfold powV
      rw [if_pos ⟨hm, by omega, by omega⟩]
      obtain ⟨n, rfl⟩ := Int.eq_ofNat_of_zero_le (show 0 ≤ n by omega)
      rw [Int.toNat_natCast]
      refine go0 ?_
      refine runs_loop (fun k e m' => ∃ (y r : Int) (j : Nat), inI y ∧ inI r ∧ j ≤ 1099511627776 ∧ powN r y j = powN 4294967296 x n ∧ m = m' ∧ j = k ∧ e = [(0, .v (.int .i64 y)), (1, .v (.int .i64 (j : Int))), (6, .v (.int .i64 r))]) (k := n) ⟨x, 4294967296, n, hx, by decide, by omega, rfl, rfl, rfl, rfl⟩ ?_
      rintro k e m' ⟨y, r, j, hy, hr, hj, hpow, rfl, rfl, rfl⟩
      refine go0 ?_
      refine runs_cond rfl (fun hc => ?_) (fun hc => ?_)
      ·have hj0 : 0 < j := by have := of_decide_eq_true hc; omega
       have a1 := evAnd1 j hj
       have a2 := shr1 (j : Int)
       have a3 : (j : Int) / 2 = ((j / 2 : Nat) : Int) := by omega
       rw [a3] at a2
       have c3 := tmG_eq hy hy
       rw [powN, dif_neg (by omega)] at hpow
       simp only [go_sem, reduceIte, Nat.reduceEqDiff, reduceCtorEq, Int.reduceEq] at a1
       refine go1 @a1 ?_
       by_cases ho : j % 2 = 1
       ·rw [if_pos ho] at hpow
        have c2 := tmG_eq hr hy
        refine runs_cond rfl (fun hc => ?_) (fun hc => absurd hc (by rw [ho]; decide))
        refine go1 (jn @t2 (jn @c2 (jn @c3 (jn @lt1 @a2)))) ?_
        exact ⟨j / 2, by omega, tm y y, tm r y, j / 2, tm_in hy hy, tm_in hr hy, by omega, hpow, rfl, rfl, rfl⟩
       ·rw [if_neg ho] at hpow
        have ho2 : j % 2 = 0 := by omega
        refine runs_cond rfl (fun hc => absurd hc (by rw [ho2]; decide)) (fun hc => ?_)
        refine go1 (jn @t2 (jn @c3 (jn @lt1 @a2))) ?_
        exact ⟨j / 2, by omega, tm y y, r, j / 2, tm_in hy hy, hr, by omega, hpow, rfl, rfl, rfl⟩
      ·have hj0 : j = 0 := by have := of_decide_eq_false hc; omega
       subst hj0
       rw [powN, dif_pos rfl] at hpow
       refine go0 ?_
       rw [← hpow]
       exact leaves_vv rfl rfl rfl
  ·cases h
 ·cases h
end
section
attribute [local irreducible] Next Inside Runs Ops table
attribute [local irreducible] XRuns XOps
attribute [local go_sem] szStr szInt Option.getD_some isNil evMinMax evFoldI mkP' ixP0 ixP1 zrP zoP znP newP cellsP niP eqP
def farG : List AV → Mem → Option (AV × Mem)
 | [.v (.int .i64 x), .v (.int .i64 y)], m => if inI x ∧ inI y then some (uv ((y - x) % 18446744073709551616), m) else none
 | _, _ => none
def kpFar : Nat → Option (List Nat) := fun
 | 0 => some [0, 1]
 | 1 => some [4]
 | _ => none
attribute [go_sem] kpFar
theorem far_ok : FunOk Tryz.prog 154 farG := by
 have hC := table_ok (P := Tryz.prog) (l := []) table_nil
 refine fun_ok mixed hC Tryz.func154 rfl kpFar false rfl fun args m r h => ?_
 unfold farG at h
 split at h
 ·rename_i x y
  split at h
  ·rename_i hyp
   simp only [Option.some.injEq] at h
   subst h
   refine ⟨Nat.le_of_ble_eq_true rfl, ?_⟩
   refine en ?_
   have w1 := far64 hyp.2 hyp.1
   refine go1 @w1 ?_
   exact leaves_v rfl rfl
  ·cases h
 ·cases h
def sc (d t : Int) : Int := (nearV (d * t) 4294967296).1
def scaledG : List AV → Mem → Option (AV × Mem)
 | [.v (.int .u64 d), .v (.int .i64 t)], m => if 0 ≤ d ∧ d < 18446744073709551616 ∧ 0 ≤ t ∧ t ≤ 4294967296 then some (uv (sc d t), m) else none
 | _, _ => none
def kpScaled : Nat → Option (List Nat) := fun
 | 0 => some [0, 1]
 | 1 => some [5]
 | 2 => some [4]
 | _ => none
attribute [go_sem] kpScaled
def tab_scaled_ok : List (FuncId × (List AV → Mem → Option (AV × Mem))) := [(130, pmulG), (129, shiftG)]
theorem scaled_ok : FunOk Tryz.prog 153 scaledG := by
 have hC := table_ok (P := Tryz.prog) (l := tab_scaled_ok) (table_more pmul_ok (table_more shift_ok table_nil))
 have t1 := fun args mm => table_at (l := tab_scaled_ok) (f := 130) (args := args) (m := mm) rfl
 have t2 := fun args mm => table_at (l := tab_scaled_ok) (f := 129) (args := args) (m := mm) rfl
 refine fun_ok mixed hC Tryz.func153 rfl kpScaled false rfl fun args m r h => ?_
 unfold scaledG at h
 split at h
 ·rename_i d t
  split at h
  ·rename_i hyp
   obtain ⟨d0, d1, t0, t1'⟩ := hyp
   simp only [Option.some.injEq] at h
   subst h
   refine ⟨Nat.le_of_ble_eq_true rfl, ?_⟩
   refine en ?_
   have w1 : IntKind.u64.wrap t = t := w64 t0 (by omega)
   have c1 : ∀ mm, pmulG [.v (.int .u64 d), .v (.int .u64 t)] mm = some (.agg [.v (.int .u64 (d * t / 18446744073709551616)), .v (.int .u64 (d * t % 18446744073709551616))], mm) := fun mm => if_pos ⟨d0, d1, t0, by omega⟩
   have p0 : 0 ≤ d * t := Int.mul_nonneg d0 t0
   have p1 : d * t ≤ 18446744073709551615 * 4294967296 := Int.mul_le_mul (by omega) t1' t0 (by decide)
   unfold sc
   generalize d * t = p at *
   have c2 : ∀ mm, shiftG [.agg [.v (.int .u64 (p / 18446744073709551616)), .v (.int .u64 (p % 18446744073709551616))], .v (.int .i64 32)] mm = some (.tup [.v (.int .u64 (nearV p 4294967296).1), .v (.int .i64 (nearV p 4294967296).2)], mm) := fun mm => by
    have : p / 18446744073709551616 * 18446744073709551616 + p % 18446744073709551616 = p := by omega
    show (if _ then _ else _) = _
    rw [if_pos ⟨⟨by omega, by omega, by omega, by omega⟩, rfl⟩, this]
    rfl
   refine go1 (jn @w1 (jn @t1 (jn @c1 (jn @t2 @c2)))) ?_
   exact leaves_v rfl rfl
  ·cases h
 ·cases h
def lerpV (a b t : Int) : Int × Int := if t < 0 ∨ t > 4294967296 then (0, 1) else if a ≤ b then (IntKind.i64.wrap (a + sc (b - a) t), 0) else (IntKind.i64.wrap (a - sc (a - b) t), 0)
def lerpG : List AV → Mem → Option (AV × Mem)
 | [.v (.int .i64 a), .v (.int .i64 b), .v (.int .i64 t)], m => if inI a ∧ inI b then some (.tup [iv (lerpV a b t).1, iv (lerpV a b t).2], m) else none
 | _, _ => none
theorem lerpG_eq {a b t : Int} (ha : inI a) (hb : inI b) (m : Mem) : lerpG [.v (.int .i64 a), .v (.int .i64 b), .v (.int .i64 t)] m = some (.tup [.v (.int .i64 (lerpV a b t).1), .v (.int .i64 (lerpV a b t).2)], m) := if_pos ⟨ha, hb⟩
def kpLerp : Nat → Option (List Nat) := fun
 | 0 => some [0, 1, 2]
 | 1 => some [0, 1, 2, 8]
 | 2 => some [6, 7]
 | 3 => some [0, 1, 2, 15]
 | 4 => some [6, 7]
 | 5 => some [6, 7]
 | _ => none
attribute [go_sem] kpLerp
def tab_lerp_ok : List (FuncId × (List AV → Mem → Option (AV × Mem))) := [(154, farG), (153, scaledG)]
theorem lerp_ok : FunOk Tryz.prog 136 lerpG := by
 have hC := table_ok (P := Tryz.prog) (l := tab_lerp_ok) (table_more far_ok (table_more scaled_ok table_nil))
 have t1 := fun args mm => table_at (l := tab_lerp_ok) (f := 154) (args := args) (m := mm) rfl
 have t2 := fun args mm => table_at (l := tab_lerp_ok) (f := 153) (args := args) (m := mm) rfl
 refine fun_ok mixed hC Tryz.func136 rfl kpLerp false rfl fun args m r h => ?_
 unfold lerpG at h
 split at h
 ·rename_i a b t
  split at h
  ·rename_i hyp
   obtain ⟨ha, hb⟩ := hyp
   have ha2 := ha
   have hb2 := hb
   obtain ⟨a0, a1⟩ := ha2
   obtain ⟨b0, b1⟩ := hb2
   simp only [Option.some.injEq] at h
   subst h
   refine ⟨Nat.le_of_ble_eq_true rfl, ?_⟩
   refine en ?_
   unfold lerpV
   cases q1 : decide (t < 0) with
   | true =>
    have := of_decide_eq_true q1
    refine go1 @q1 ?_
    refine runs_cond rfl (fun hc => ?_) (fun hc => by cases hc)
    refine go0 ?_
    rw [if_pos (by omega)]
    exact leaves_vv rfl rfl rfl
   | false =>
    have t0 := of_decide_eq_false q1
    cases q2 : decide (t > 4294967296) with
    | true =>
     have := of_decide_eq_true q2
     refine go1 (jn @q1 @q2) ?_
     refine runs_cond rfl (fun hc => ?_) (fun hc => by cases hc)
     refine go0 ?_
     rw [if_pos (by omega)]
     exact leaves_vv rfl rfl rfl
    | false =>
     have t3 := of_decide_eq_false q2
     refine go1 (jn @q1 @q2) ?_
     refine runs_cond rfl (fun hc => by cases hc) (fun hc => ?_)
     rw [if_neg (by omega)]
     refine go0 ?_
     refine runs_cond rfl (fun hc => ?_) (fun hc => ?_)
     ·have hab := of_decide_eq_true hc
      have c1 : ∀ mm, farG [.v (.int .i64 a), .v (.int .i64 b)] mm = some (.v (.int .u64 (b - a)), mm) := fun mm => by
       show (if _ then _ else _) = _
       rw [if_pos ⟨ha, hb⟩, show (b - a) % 18446744073709551616 = b - a by omega]
       rfl
      have c2 : ∀ mm, scaledG [.v (.int .u64 (b - a)), .v (.int .i64 t)] mm = some (.v (.int .u64 (sc (b - a) t)), mm) := fun mm => if_pos ⟨by omega, by omega, by omega, by omega⟩
      have w1 : IntKind.i64.wrap (IntKind.u64.wrap (IntKind.u64.wrap a + sc (b - a) t)) = IntKind.i64.wrap (a + sc (b - a) t) := by
       rw [wrapI, wrapI, wrap64, wrap64, show (a % 18446744073709551616 + sc (b - a) t) % 18446744073709551616 % 18446744073709551616 = (a + sc (b - a) t) % 18446744073709551616 by omega]
      refine go1 (jn @t1 (jn @c1 (jn @t2 (jn @c2 @w1)))) ?_
      rw [if_pos hab]
      exact leaves_vv rfl rfl rfl
     ·have hab := of_decide_eq_false hc
      have c1 : ∀ mm, farG [.v (.int .i64 b), .v (.int .i64 a)] mm = some (.v (.int .u64 (a - b)), mm) := fun mm => by
       show (if _ then _ else _) = _
       rw [if_pos ⟨hb, ha⟩, show (a - b) % 18446744073709551616 = a - b by omega]
       rfl
      have c2 : ∀ mm, scaledG [.v (.int .u64 (a - b)), .v (.int .i64 t)] mm = some (.v (.int .u64 (sc (a - b) t)), mm) := fun mm => if_pos ⟨by omega, by omega, by omega, by omega⟩
      have w1 : IntKind.i64.wrap (IntKind.u64.wrap (IntKind.u64.wrap a - sc (a - b) t)) = IntKind.i64.wrap (a - sc (a - b) t) := by
       rw [wrapI, wrapI, wrap64, wrap64, show (a % 18446744073709551616 - sc (a - b) t) % 18446744073709551616 % 18446744073709551616 = (a - sc (a - b) t) % 18446744073709551616 by omega]
      refine go1 (jn @t1 (jn @c1 (jn @t2 (jn @c2 @w1)))) ?_
      rw [if_neg hab]
      exact leaves_vv rfl rfl rfl
  ·cases h
 ·cases h
/-- Which part one of some is (fewer than 2^32 of them). -/
def shareV (i n : Int) : Int × Int := if n < 1 ∨ n > 1099511627776 ∨ i < 0 ∨ i ≥ n then (0, 1) else if n = 1 then (0, 0) else (IntKind.i64.wrap (nearV (i * 4294967296) (n - 1)).1, (nearV (i * 4294967296) (n - 1)).2)
def shareG : List AV → Mem → Option (AV × Mem)
 | [.v (.int .i64 i), .v (.int .i64 n)], m => if 0 ≤ i ∧ i < n ∧ n ≤ 1048576 then some (.tup [iv (shareV i n).1, iv (shareV i n).2], m) else none
 | _, _ => none
def kpShare : Nat → Option (List Nat) := fun
 | 0 => some [0, 1]
 | 1 => some [0, 1, 24]
 | 2 => some [4, 5]
 | 3 => some [0, 1, 26]
 | 4 => some [4, 5]
 | 5 => some [1, 6]
 | 6 => some [8, 9]
 | 7 => some [4, 5]
 | _ => none
attribute [go_sem] kpShare
def tab_share_ok : List (FuncId × (List AV → Mem → Option (AV × Mem))) := [(151, shlG), (152, nearG)]
theorem share_ok : FunOk Tryz.prog 160 shareG := by
 have hC := table_ok (P := Tryz.prog) (l := tab_share_ok) (table_more shl_ok (table_more near_ok table_nil))
 have t1 := fun args mm => table_at (l := tab_share_ok) (f := 151) (args := args) (m := mm) rfl
 have t2 := fun args mm => table_at (l := tab_share_ok) (f := 152) (args := args) (m := mm) rfl
 refine fun_ok mixed hC Tryz.func160 rfl kpShare false rfl fun args m r h => ?_
 unfold shareG at h
 split at h
 ·rename_i i n
  split at h
  ·rename_i hyp
   obtain ⟨i0, i1, n1⟩ := hyp
   simp only [Option.some.injEq] at h
   subst h
   refine ⟨Nat.le_of_ble_eq_true rfl, ?_⟩
   refine en ?_
   have q1 : decide (n < 1) = false := decide_eq_false (by omega)
   have q2 : decide (n > 1099511627776) = false := decide_eq_false (by omega)
   have q3 : decide (i < 0) = false := decide_eq_false (by omega)
   have q4 : decide (i ≥ n) = false := decide_eq_false (by omega)
   unfold shareV
   rw [if_neg (by omega)]
   refine go1 (jn @q1 (jn @q2 (jn @q3 @q4))) ?_
   refine runs_cond rfl (fun hc => by cases hc) (fun hc => ?_)
   by_cases hn : n = 1
   ·subst hn
    refine go0 ?_
    refine runs_cond rfl (fun hc => ?_) (fun hc => absurd hc (by decide))
    refine go0 ?_
    rw [if_pos rfl]
    exact leaves_vv rfl rfl rfl
   ·have b1 : (n == 1) = false := by rw [beq_eq_false_iff_ne]; exact hn
    refine go1 @b1 ?_
    refine runs_cond rfl (fun hc => by cases hc) (fun hc => ?_)
    rw [if_neg hn]
    have w1 : IntKind.u64.wrap i = i := w64 i0 (by omega)
    have w2 : IntKind.i64.wrap (n - 1) = n - 1 := wrap_i64 (by omega) (by omega)
    have w3 : IntKind.u64.wrap (n - 1) = n - 1 := w64 (by omega) (by omega)
    have c1 : ∀ mm, shlG [.agg [.v (.int .u64 0), .v (.int .u64 i)], .v (.int .i64 32)] mm = some (.tup [.agg [.v (.int .u64 0), .v (.int .u64 (i * 4294967296))], .v (.bool true)], mm) := fun mm => if_pos ⟨rfl, rfl, i0, by omega⟩
    have c2 : ∀ mm, nearG [.agg [.v (.int .u64 0), .v (.int .u64 (i * 4294967296))], .v (.int .u64 (n - 1))] mm = some (.tup [.v (.int .u64 (nearV (i * 4294967296) (n - 1)).1), .v (.int .i64 (nearV (i * 4294967296) (n - 1)).2)], mm) := fun mm => by
     show (if _ then _ else _) = _
     rw [if_pos ⟨by decide, by decide, by omega, by omega, by omega, by omega, .inl rfl⟩, show (0 : Int) * 18446744073709551616 + i * 4294967296 = i * 4294967296 by omega]
     rfl
    have s1 : evStore Tryz.prog (m.push zeroP) 126 (.ptr m.vars.length 0) (.agg [.v (.int .u64 0), .v (.int .u64 (i * 4294967296))]) = some (m.push [.v (.int .u64 0), .v (.int .u64 (i * 4294967296))]) := by
     rw [stP (x0 := 0) (y0 := 0) (push_var (cs := zeroP)), setv_push]
    have l6 := vrP (push_var (m := m) (cs := [.v (.int .u64 0), .v (.int .u64 (i * 4294967296))]))
    refine go1 (jn @w1 (jn @t1 (jn @c1 (jn @s1 (jn @l6 (jn @w2 (jn @w3 (jn @t2 @c2)))))))) ?_
    exact leaves_all rfl (by decide) (.cons rfl rfl (.cons rfl rfl .nil)) fin_push
  ·cases h
 ·cases h
/-! ### the wave -/
def kkW (i : Nat) : Int := [2044063, 27198923, 245884610, 1372256329, 4014944880, 4294967296].getD i 0
def polyN (u : Int) : Nat → Int
 | 0 => 0
 | i + 1 => IntKind.i64.wrap (kkW i - tm u (polyN u i))
theorem polyN_in (u : Int) : ∀ i, inI (polyN u i)
 | 0 => by show inI 0; decide
 | i + 1 => wrapI_in _
def polyG : List AV → Mem → Option (AV × Mem)
 | [.v (.int .i64 u)], m => if inI u then some (iv (polyN u 6), m) else none
 | _, _ => none
def arrW : AV := .agg [.v (.int .i64 2044063), .v (.int .i64 27198923), .v (.int .i64 245884610), .v (.int .i64 1372256329), .v (.int .i64 4014944880), .v (.int .i64 4294967296)]
theorem ixW0 : evIndex Tryz.prog 221 arrW (.v (.int .i64 0)) = some (.v (.int .i64 (kkW 0))) := by kernel_rfl
theorem ixW1 : evIndex Tryz.prog 221 arrW (.v (.int .i64 1)) = some (.v (.int .i64 (kkW 1))) := by kernel_rfl
theorem ixW2 : evIndex Tryz.prog 221 arrW (.v (.int .i64 2)) = some (.v (.int .i64 (kkW 2))) := by kernel_rfl
theorem ixW3 : evIndex Tryz.prog 221 arrW (.v (.int .i64 3)) = some (.v (.int .i64 (kkW 3))) := by kernel_rfl
theorem ixW4 : evIndex Tryz.prog 221 arrW (.v (.int .i64 4)) = some (.v (.int .i64 (kkW 4))) := by kernel_rfl
theorem ixW5 : evIndex Tryz.prog 221 arrW (.v (.int .i64 5)) = some (.v (.int .i64 (kkW 5))) := by kernel_rfl
theorem ixW : ∀ {i : Nat}, i < 6 → evIndex Tryz.prog 221 arrW (.v (.int .i64 (i : Int))) = some (.v (.int .i64 (kkW i)))
 | 0, _ => ixW0
 | 1, _ => ixW1
 | 2, _ => ixW2
 | 3, _ => ixW3
 | 4, _ => ixW4
 | 5, _ => ixW5
 | n + 6, h => by omega
theorem mkW : evBuild Tryz.prog 221 [(0, .v (.int .i64 2044063)), (1, .v (.int .i64 27198923)), (2, .v (.int .i64 245884610)), (3, .v (.int .i64 1372256329)), (4, .v (.int .i64 4014944880)), (5, .v (.int .i64 4294967296))] = some arrW := by kernel_rfl
def kpPoly : Nat → Option (List Nat) := fun
 | 0 => some [0]
 | 1 => some [0, 3]
 | 2 => some [0, 3, 6, 7]
 | 3 => some [0, 3, 6, 7, 8]
 | 4 => some [0, 3, 5, 6, 7]
 | 5 => some [0, 3, 6, 7]
 | 6 => some [0, 3, 6, 7]
 | 7 => some [2]
 | _ => none
attribute [go_sem] kpPoly
def tab_poly_ok : List (FuncId × (List AV → Mem → Option (AV × Mem))) := [(188, tmG)]
theorem poly_ok : FunOk Tryz.prog 189 polyG := by
 have hC := table_ok (P := Tryz.prog) (l := tab_poly_ok) (table_more waveTm_ok table_nil)
 have t1 := fun args mm => table_at (l := tab_poly_ok) (f := 188) (args := args) (m := mm) rfl
 refine fun_ok mixed hC Tryz.func189 rfl kpPoly false rfl fun args m r h => ?_
 unfold polyG at h
 split at h
 ·rename_i u
  split at h
  ·rename_i hu
   simp only [Option.some.injEq] at h
   subst h
   refine ⟨Nat.le_of_ble_eq_true rfl, ?_⟩
   refine en ?_
   refine go1 @mkW ?_
   refine runs_loop (fun k e m' => ∃ i : Nat, i ≤ 6 ∧ m = m' ∧ k = 6 - i ∧ e = [(0, .v (.int .i64 u)), (3, .v (.int .i64 (polyN u i))), (6, arrW), (7, .v (.int .i64 (i : Int)))]) (k := 6) ⟨0, by decide, rfl, rfl, rfl⟩ ?_
   rintro k e m' ⟨i, hi, rfl, rfl, rfl⟩
   refine go0 ?_
   refine runs_cond rfl (fun hc => ?_) (fun hc => ?_)
   ·have hi1 : i < 6 := by have := of_decide_eq_true hc; omega
    have f1 := ixW hi1
    have c1 := tmG_eq hu (polyN_in u i)
    have f2 : IntKind.i64.wrap (kkW i - tm u (polyN u i)) = polyN u (i + 1) := rfl
    have r6 := next_i64 (i := i) (by omega)
    refine go1 (jn @f1 (jn @t1 (jn @c1 (jn @f2 @r6)))) ?_
    exact ⟨6 - (i + 1), by omega, i + 1, by omega, rfl, rfl, rfl⟩
   ·have hi1 : i = 6 := by have := of_decide_eq_false hc; omega
    subst hi1
    refine go0 ?_
    exact leaves_v rfl rfl
  ·cases h
 ·cases h
def cosV (t : Int) : Int := tm (IntKind.i64.wrap (4294967296 - IntKind.i64.wrap (tm t t * 4))) (polyN (tm t t) 6)
def cosG : List AV → Mem → Option (AV × Mem)
 | [.v (.int .i64 t)], m => if inI t then some (iv (cosV t), m) else none
 | _, _ => none
def kpCos : Nat → Option (List Nat) := fun
 | 0 => some [0]
 | 1 => some [3]
 | 2 => some [2]
 | _ => none
attribute [go_sem] kpCos
def tab_cos_ok : List (FuncId × (List AV → Mem → Option (AV × Mem))) := [(188, tmG), (189, polyG)]
theorem cos_ok : FunOk Tryz.prog 185 cosG := by
 have hC := table_ok (P := Tryz.prog) (l := tab_cos_ok) (table_more waveTm_ok (table_more poly_ok table_nil))
 have t1 := fun args mm => table_at (l := tab_cos_ok) (f := 188) (args := args) (m := mm) rfl
 have t2 := fun args mm => table_at (l := tab_cos_ok) (f := 189) (args := args) (m := mm) rfl
 refine fun_ok mixed hC Tryz.func185 rfl kpCos false rfl fun args m r h => ?_
 unfold cosG at h
 split at h
 ·rename_i t
  split at h
  ·rename_i ht
   simp only [Option.some.injEq] at h
   subst h
   refine ⟨Nat.le_of_ble_eq_true rfl, ?_⟩
   refine en ?_
   have c1 := tmG_eq ht ht
   have c2 : ∀ mm, polyG [.v (.int .i64 (tm t t))] mm = some (.v (.int .i64 (polyN (tm t t) 6)), mm) := fun mm => if_pos (tm_in ht ht)
   have c3 := tmG_eq (wrapI_in (4294967296 - IntKind.i64.wrap (tm t t * 4))) (polyN_in (tm t t) 6)
   have l2 : ((2 : Int) < 0) = False := by decide
   have s2 : IntKind.i64.wrap (tm t t * 2 ^ min (Int.toNat 2) 64) = IntKind.i64.wrap (tm t t * 4) := rfl
   refine go1 (jn @t1 (jn @c1 (jn @l2 (jn @s2 (jn @t2 (jn @c2 @c3)))))) ?_
   exact leaves_v rfl rfl
  ·cases h
 ·cases h
def cosAt (t : Int) : Int × Int := if inB t 0 4294967296 = false then (0, 1) else if t > 2147483648 then (IntKind.i64.wrap (0 - cosV (IntKind.i64.wrap (4294967296 - t))), 0) else (cosV t, 0)
def cosAtG : List AV → Mem → Option (AV × Mem)
 | [.v (.int .i64 t)], m => if inI t then some (.tup [iv (cosAt t).1, iv (cosAt t).2], m) else none
 | _, _ => none
def kpCosAt : Nat → Option (List Nat) := fun
 | 0 => some [0]
 | 1 => some [0, 4]
 | 2 => some [2, 3]
 | 3 => some [0, 8]
 | 4 => some [2, 3]
 | 5 => some [2, 3]
 | _ => none
attribute [go_sem] kpCosAt
def tab_cosAt_ok : List (FuncId × (List AV → Mem → Option (AV × Mem))) := [(184, waveMayG), (185, cosG)]
theorem cosAt_ok : FunOk Tryz.prog 181 cosAtG := by
 have hC := table_ok (P := Tryz.prog) (l := tab_cosAt_ok) (table_more waveMay_ok (table_more cos_ok table_nil))
 have t1 := fun args mm => table_at (l := tab_cosAt_ok) (f := 184) (args := args) (m := mm) rfl
 have t2 := fun args mm => table_at (l := tab_cosAt_ok) (f := 185) (args := args) (m := mm) rfl
 refine fun_ok mixed hC Tryz.func181 rfl kpCosAt false rfl fun args m r h => ?_
 unfold cosAtG at h
 split at h
 ·rename_i t
  split at h
  ·rename_i ht
   simp only [Option.some.injEq] at h
   subst h
   refine ⟨Nat.le_of_ble_eq_true rfl, ?_⟩
   refine en ?_
   have c1 : ∀ mm, waveMayG [.v (.int .i64 t)] mm = some (.v (.bool (inB t 0 4294967296)), mm) := fun _ => rfl
   have c2 : ∀ mm, cosG [.v (.int .i64 (IntKind.i64.wrap (4294967296 - t)))] mm = some (.v (.int .i64 (cosV (IntKind.i64.wrap (4294967296 - t)))), mm) := fun mm => if_pos (wrapI_in _)
   have c3 : ∀ mm, cosG [.v (.int .i64 t)] mm = some (.v (.int .i64 (cosV t)), mm) := fun mm => if_pos ht
   have k1 : (!true) = false := rfl
   have k2 : (!false) = true := rfl
   unfold cosAt
   cases hb : inB t 0 4294967296 with
   | false =>
    rw [hb] at c1
    refine go1 (jn @t1 (jn @c1 @k2)) ?_
    refine runs_cond rfl (fun hc => ?_) (fun hc => by cases hc)
    refine go0 ?_
    rw [if_pos rfl]
    exact leaves_vv rfl rfl rfl
   | true =>
    rw [hb] at c1
    refine go1 (jn @t1 (jn @c1 @k1)) ?_
    refine runs_cond rfl (fun hc => by cases hc) (fun hc => ?_)
    refine go0 ?_
    rw [if_neg (by decide)]
    refine runs_cond rfl (fun hc => ?_) (fun hc => ?_)
    ·rw [if_pos (of_decide_eq_true hc)]
     refine go1 (jn @t2 @c2) ?_
     exact leaves_vv rfl rfl rfl
    ·rw [if_neg (of_decide_eq_false hc)]
     refine go1 (jn @t2 @c3) ?_
     exact leaves_vv rfl rfl rfl
  ·cases h
 ·cases h
def waveV (t : Int) : Int × Int := if (cosAt t).2 ≠ 0 then (0, (cosAt t).2) else if (cosAt t).1 < 0 then (IntKind.i64.wrap (4294967296 - IntKind.i64.wrap (4294967296 - (cosAt t).1) / 2), 0) else (IntKind.i64.wrap (4294967296 + (cosAt t).1) / 2, 0)
def waveG : List AV → Mem → Option (AV × Mem)
 | [.v (.int .i64 t)], m => if inI t then some (.tup [iv (waveV t).1, iv (waveV t).2], m) else none
 | _, _ => none
def kpWave : Nat → Option (List Nat) := fun
 | 0 => some [0]
 | 1 => some [4, 5]
 | 2 => some [4, 5, 11]
 | 3 => some [2, 3]
 | 4 => some [4, 15]
 | 5 => some [2, 3]
 | 6 => some [2, 3]
 | _ => none
attribute [go_sem] kpWave
def tab_wave_ok : List (FuncId × (List AV → Mem → Option (AV × Mem))) := [(181, cosAtG)]
theorem wave_ok : FunOk Tryz.prog 173 waveG := by
 have hC := table_ok (P := Tryz.prog) (l := tab_wave_ok) (table_more cosAt_ok table_nil)
 have t1 := fun args mm => table_at (l := tab_wave_ok) (f := 181) (args := args) (m := mm) rfl
 refine fun_ok mixed hC Tryz.func173 rfl kpWave false rfl fun args m r h => ?_
 unfold waveG at h
 split at h
 ·rename_i t
  split at h
  ·rename_i ht
   simp only [Option.some.injEq] at h
   subst h
   refine ⟨Nat.le_of_ble_eq_true rfl, ?_⟩
   refine en ?_
   have c1 : ∀ mm, cosAtG [.v (.int .i64 t)] mm = some (.tup [.v (.int .i64 (cosAt t).1), .v (.int .i64 (cosAt t).2)], mm) := fun mm => if_pos ht
   unfold waveV
   generalize cosAt t = c at c1
   have s1 := shr1 (IntKind.i64.wrap (4294967296 - c.1))
   have s2 := shr1 (IntKind.i64.wrap (4294967296 + c.1))
   refine go1 (jn @t1 @c1) ?_
   by_cases he : c.2 = 0
   ·have q1 : (c.2 != 0) = false := by rw [he]; rfl
    refine runs_cond rfl (fun hc => by rw [q1] at hc; cases hc) (fun hc => ?_)
    rw [if_neg (by rw [he]; decide)]
    refine go0 ?_
    refine runs_cond rfl (fun hc => ?_) (fun hc => ?_)
    ·rw [if_pos (of_decide_eq_true hc)]
     refine go1 (jn @lt1 @s1) ?_
     exact leaves_vv rfl rfl rfl
    ·rw [if_neg (of_decide_eq_false hc)]
     refine go1 (jn @lt1 @s2) ?_
     exact leaves_vv rfl rfl rfl
   ·have q1 : (c.2 != 0) = true := by simpa using he
    refine runs_cond rfl (fun hc => ?_) (fun hc => by rw [q1] at hc; cases hc)
    rw [if_pos he]
    refine go0 ?_
    exact leaves_vv rfl rfl rfl
  ·cases h
 ·cases h
end
section
attribute [local irreducible] Next Inside Runs Ops table
attribute [local irreducible] XRuns XOps
attribute [local go_sem] szStr szInt Option.getD_some isNil evMinMax evFoldI iv mapCv cellsCv newCv fpCvKind fpCvA fpCvB fpCvK mapSp cellsSp newSp fpSpFrom_ fpSpTo_
def bentB (c : Cv) : Bool := if c.kind = 1 then (c.b == 0) && (c.k == 0) else if c.kind = 2 ∨ c.kind = 5 then inB c.b 0 4503599627370496 && (c.k == 0) else if c.kind = 3 then inB c.b 0 4503599627370496 && inB c.k 1 16 else if c.kind = 4 then inB c.b 0 c.a && inB c.k 0 4294967296 else false
def bentG : List AV → Mem → Option (AV × Mem)
 | [.agg cs], m =>
  match unCv cs with
  | some c => some (.v (.bool (bentB c)), m)
  | none => none
 | _, _ => none
def kpBent : Nat → Option (List Nat) := fun
 | 0 => some [1]
 | 1 => some [1, 4]
 | 2 => some [1, 4, 5]
 | 3 => some [2]
 | 4 => some [1, 4, 15]
 | 5 => some [1, 4, 15]
 | 6 => some [2]
 | 7 => some [1, 4, 26]
 | 8 => some [2]
 | 9 => some [1, 36]
 | 10 => some [2]
 | 11 => some [2]
 | _ => none
attribute [go_sem] kpBent
def tab_bent_ok : List (FuncId × (List AV → Mem → Option (AV × Mem))) := [(157, inBG)]
theorem bent_ok : FunOk Tryz.prog 158 bentG := by
 have hC := table_ok (P := Tryz.prog) (l := tab_bent_ok) (table_more curveIn_ok table_nil)
 have t1 := fun args mm => table_at (l := tab_bent_ok) (f := 157) (args := args) (m := mm) rfl
 refine fun_ok mixed hC Tryz.func158 rfl kpBent false rfl fun args m r h => ?_
 unfold bentG at h
 split at h
 ·rename_i cs
  split at h
  ·rename_i c hc0
   obtain rfl := unCv_some hc0
   simp only [Option.some.injEq] at h
   subst h
   refine ⟨Nat.le_of_ble_eq_true rfl, ?_⟩
   refine en ?_
   have v2 : (m.push c.row).var m.vars.length = some c.row := push_var
   have nr := newCv (m := m) (x := c)
   have hA := above_push (cs := c.row) (above_self m)
   refine go1 @nr ?_
   generalize m.push c.row = m2 at v2 hA
   generalize m.vars.length = r2 at v2
   have l0 := lpCvKind v2
   have l1 := lpCvA v2
   have l2 := lpCvB v2
   have l3 := lpCvK v2
   have c1 := inB_eq c.b 0 4503599627370496
   have c2 := inB_eq c.k 1 16
   have c3 := inB_eq c.b 0 c.a
   have c4 := inB_eq c.k 0 4294967296
   unfold bentB
   refine go1 @l0 ?_
   by_cases k1 : c.kind = 1
   ·refine runs_cond rfl (fun hc => ?_) (fun hc => absurd hc (by rw [k1]; decide))
    rw [if_pos k1]
    cases hb : (c.b == 0) with
    | false =>
     refine go1 (jn @l2 @hb) ?_
     exact leaves_fin rfl rfl (above_fin hA)
    | true =>
     refine go1 (jn @l2 (jn @hb @l3)) ?_
     exact leaves_fin rfl rfl (above_fin hA)
   ·have b1 : (c.kind == 1) = false := by rw [beq_eq_false_iff_ne]; exact k1
    refine runs_cond rfl (fun hc => by rw [b1] at hc; cases hc) (fun hc => ?_)
    rw [if_neg k1]
    refine go0 ?_
    by_cases k2 : c.kind = 2 ∨ c.kind = 5
    ·rw [if_pos k2]
     cases hb : inB c.b 0 4503599627370496 with
     | false =>
      rw [hb] at c1
      refine runs_cond rfl (fun hc => ?_) (fun hc => ?_)
      ·refine go0 ?_
       refine runs_cond rfl (fun hc => ?_) (fun hc2 => by rw [hc] at hc2; cases hc2)
       refine go1 (jn @l2 (jn @t1 @c1)) ?_
       exact leaves_fin rfl rfl (above_fin hA)
      ·refine go0 ?_
       have b5 : (c.kind == 5) = true := by
        rcases k2 with k2 | k2
        ·rw [k2] at hc; exact absurd hc (by decide)
        ·rw [k2]; rfl
       refine runs_cond rfl (fun hc => ?_) (fun hc2 => by rw [b5] at hc2; cases hc2)
       refine go1 (jn @l2 (jn @t1 @c1)) ?_
       exact leaves_fin rfl rfl (above_fin hA)
     | true =>
      rw [hb] at c1
      refine runs_cond rfl (fun hc => ?_) (fun hc => ?_)
      ·refine go0 ?_
       refine runs_cond rfl (fun hc => ?_) (fun hc2 => by rw [hc] at hc2; cases hc2)
       refine go1 (jn @l2 (jn @t1 (jn @c1 @l3))) ?_
       exact leaves_fin rfl rfl (above_fin hA)
      ·refine go0 ?_
       have b5 : (c.kind == 5) = true := by
        rcases k2 with k2 | k2
        ·rw [k2] at hc; exact absurd hc (by decide)
        ·rw [k2]; rfl
       refine runs_cond rfl (fun hc => ?_) (fun hc2 => by rw [b5] at hc2; cases hc2)
       refine go1 (jn @l2 (jn @t1 (jn @c1 @l3))) ?_
       exact leaves_fin rfl rfl (above_fin hA)
    ·have b2 : (c.kind == 2) = false := by rw [beq_eq_false_iff_ne]; exact fun h => k2 (.inl h)
     have b5 : (c.kind == 5) = false := by rw [beq_eq_false_iff_ne]; exact fun h => k2 (.inr h)
     rw [if_neg k2]
     refine runs_cond rfl (fun hc => by rw [b2] at hc; cases hc) (fun hc => ?_)
     refine go0 ?_
     refine runs_cond rfl (fun hc => by rw [b5] at hc; cases hc) (fun hc => ?_)
     refine go0 ?_
     by_cases k3 : c.kind = 3
     ·rw [if_pos k3]
      refine runs_cond rfl (fun hc => ?_) (fun hc => absurd hc (by rw [k3]; decide))
      cases hb : inB c.b 0 4503599627370496 with
      | false =>
       rw [hb] at c1
       refine go1 (jn @l2 (jn @t1 @c1)) ?_
       exact leaves_fin rfl rfl (above_fin hA)
      | true =>
       rw [hb] at c1
       refine go1 (jn @l2 (jn @t1 (jn @c1 (jn @l3 @c2)))) ?_
       exact leaves_fin rfl rfl (above_fin hA)
     ·rw [if_neg k3]
      have b3 : (c.kind == 3) = false := by rw [beq_eq_false_iff_ne]; exact k3
      refine runs_cond rfl (fun hc => by rw [b3] at hc; cases hc) (fun hc => ?_)
      refine go0 ?_
      by_cases k4 : c.kind = 4
      ·rw [if_pos k4]
       refine runs_cond rfl (fun hc => ?_) (fun hc => absurd hc (by rw [k4]; decide))
       cases hb : inB c.b 0 c.a with
       | false =>
        rw [hb] at c3
        refine go1 (jn @l1 (jn @l2 (jn @t1 @c3))) ?_
        exact leaves_fin rfl rfl (above_fin hA)
       | true =>
        rw [hb] at c3
        refine go1 (jn @l1 (jn @l2 (jn @t1 (jn @c3 (jn @l3 @c4))))) ?_
        exact leaves_fin rfl rfl (above_fin hA)
      ·rw [if_neg k4]
       have b4 : (c.kind == 4) = false := by rw [beq_eq_false_iff_ne]; exact k4
       refine runs_cond rfl (fun hc => by rw [b4] at hc; cases hc) (fun hc => ?_)
       refine go0 ?_
       exact leaves_fin rfl rfl (above_fin hA)
  ·cases h
 ·cases h
def curveOk (c : Cv) : Bool := inB c.a 0 4503599627370496 && bentB c
theorem curveOk_in {c : Cv} (h : curveOk c = true) : inI c.a ∧ inI c.b ∧ inI c.k := by
 unfold curveOk bentB at h
 rw [Bool.and_eq_true, inB_iff] at h
 obtain ⟨⟨a0, a1⟩, h⟩ := h
 have ha : inI c.a := ⟨by omega, by omega⟩
 refine ⟨ha, ?_⟩
 unfold inI
 split at h
 ·simp only [Bool.and_eq_true, beq_iff_eq] at h; omega
 ·split at h
  ·simp only [Bool.and_eq_true, beq_iff_eq, inB_iff] at h; omega
  ·split at h
   ·simp only [Bool.and_eq_true, inB_iff] at h; omega
   ·split at h
    ·simp only [Bool.and_eq_true, inB_iff] at h; omega
    ·cases h
def curveCheckG : List AV → Mem → Option (AV × Mem)
 | [.agg cs], m =>
  match unCv cs with
  | some c => some (iv (if curveOk c then 0 else 1), m)
  | none => none
 | _, _ => none
theorem curveCheck_eq (c : Cv) (m : Mem) : curveCheckG [.agg c.row] m = some (.v (.int .i64 (if curveOk c then 0 else 1)), m) := by
 simp only [curveCheckG, unCv_row]
 rfl
def kpCurveCheck : Nat → Option (List Nat) := fun
 | 0 => some [1]
 | 1 => some [11]
 | 2 => some [2]
 | 3 => some [2]
 | _ => none
attribute [go_sem] kpCurveCheck
def tab_curveCheck_ok : List (FuncId × (List AV → Mem → Option (AV × Mem))) := [(157, inBG), (158, bentG)]
theorem curveCheck_ok : FunOk Tryz.prog 143 curveCheckG := by
 have hC := table_ok (P := Tryz.prog) (l := tab_curveCheck_ok) (table_more curveIn_ok (table_more bent_ok table_nil))
 have t1 := fun args mm => table_at (l := tab_curveCheck_ok) (f := 157) (args := args) (m := mm) rfl
 have t2 := fun args mm => table_at (l := tab_curveCheck_ok) (f := 158) (args := args) (m := mm) rfl
 refine fun_ok mixed hC Tryz.func143 rfl kpCurveCheck false rfl fun args m r h => ?_
 unfold curveCheckG at h
 split at h
 ·rename_i cs
  split at h
  ·rename_i c hc0
   obtain rfl := unCv_some hc0
   simp only [Option.some.injEq] at h
   subst h
   refine ⟨Nat.le_of_ble_eq_true rfl, ?_⟩
   refine en ?_
   have v2 : (m.push c.row).var m.vars.length = some c.row := push_var
   have nr := newCv (m := m) (x := c)
   have hA := above_push (cs := c.row) (above_self m)
   refine go1 @nr ?_
   generalize m.push c.row = m2 at v2 hA
   generalize m.vars.length = r2 at v2
   have l1 := lpCvA v2
   have l0 := vrCv v2
   have c1 := inB_eq c.a 0 4503599627370496
   have c2 : ∀ mm, bentG [.agg c.row] mm = some (.v (.bool (bentB c)), mm) := fun mm => by simp only [bentG, unCv_row]
   have k1 : (!true) = false := rfl
   have k2 : (!false) = true := rfl
   unfold curveOk
   cases ha : inB c.a 0 4503599627370496 with
   | false =>
    rw [ha] at c1
    refine go1 (jn @l1 (jn @t1 (jn @c1 @k2))) ?_
    refine runs_cond rfl (fun hc => ?_) (fun hc => by cases hc)
    refine go0 ?_
    exact leaves_fin rfl rfl (above_fin hA)
   | true =>
    rw [ha] at c1
    cases hb : bentB c with
    | false =>
     rw [hb] at c2
     refine go1 (jn @l1 (jn @t1 (jn @c1 (jn @k1 (jn @k2 (jn @l0 (jn @t2 @c2))))))) ?_
     refine runs_cond rfl (fun hc => ?_) (fun hc => by cases hc)
     refine go0 ?_
     exact leaves_fin rfl rfl (above_fin hA)
    | true =>
     rw [hb] at c2
     refine go1 (jn @l1 (jn @t1 (jn @c1 (jn @k1 (jn @l0 (jn @t2 @c2)))))) ?_
     refine runs_cond rfl (fun hc => by cases hc) (fun hc => ?_)
     refine go0 ?_
     exact leaves_fin rfl rfl (above_fin hA)
  ·cases h
 ·cases h
def fadV (c : Cv) (i : Int) : Int := mx c.b (mulV c.a (powV c.k i).1).1
def fadG : List AV → Mem → Option (AV × Mem)
 | [.agg cs, .v (.int .i64 i)], m =>
  match unCv cs with
  | some c => if inI c.a ∧ inI c.k then some (iv (fadV c i), m) else none
  | none => none
 | _, _ => none
def kpFad : Nat → Option (List Nat) := fun
 | 0 => some [1, 2]
 | 1 => some [2, 5]
 | 2 => some [2, 7]
 | 3 => some [4]
 | _ => none
attribute [go_sem] kpFad
def tab_fad_ok : List (FuncId × (List AV → Mem → Option (AV × Mem))) := [(172, powG), (114, mulG)]
theorem fad_ok : FunOk Tryz.prog 161 fadG := by
 have hC := table_ok (P := Tryz.prog) (l := tab_fad_ok) (table_more pow_ok (table_more mul_ok table_nil))
 have t1 := fun args mm => table_at (l := tab_fad_ok) (f := 172) (args := args) (m := mm) rfl
 have t2 := fun args mm => table_at (l := tab_fad_ok) (f := 114) (args := args) (m := mm) rfl
 refine fun_ok mixed hC Tryz.func161 rfl kpFad false rfl fun args m r h => ?_
 unfold fadG at h
 split at h
 ·rename_i cs i
  split at h
  ·rename_i c hc0
   obtain rfl := unCv_some hc0
   split at h
   ·rename_i hyp
    obtain ⟨ha, hk⟩ := hyp
    simp only [Option.some.injEq] at h
    subst h
    refine ⟨Nat.le_of_ble_eq_true rfl, ?_⟩
    refine en ?_
    have v2 : (m.push c.row).var m.vars.length = some c.row := push_var
    have nr := newCv (m := m) (x := c)
    have hA := above_push (cs := c.row) (above_self m)
    refine go1 @nr ?_
    generalize m.push c.row = m2 at v2 hA
    generalize m.vars.length = r2 at v2
    have l1 := lpCvA v2
    have l2 := lpCvB v2
    have l3 := lpCvK v2
    have c1 : ∀ mm, powG [.v (.int .i64 c.k), .v (.int .i64 i)] mm = some (.tup [.v (.int .i64 (powV c.k i).1), .v (.int .i64 (powV c.k i).2)], mm) := fun mm => if_pos hk
    have c2 := mulG_eq ha (powV_in i hk)
    unfold fadV
    refine go1 (jn @l1 (jn @l2 (jn @l3 (jn @t1 (jn @c1 (jn @t2 @c2)))))) ?_
    exact leaves_fin rfl rfl (above_fin hA)
   ·cases h
  ·cases h
 ·cases h
def weightV (c : Cv) (t : Int) : Int := if c.kind = 3 then (powV (IntKind.i64.wrap (4294967296 - t)) c.k).1 else if c.kind = 5 then (waveV t).1 else 4294967296
def weightG : List AV → Mem → Option (AV × Mem)
 | [.agg cs, .v (.int .i64 t)], m =>
  match unCv cs with
  | some c => if inI t then some (iv (weightV c t), m) else none
  | none => none
 | _, _ => none
def kpWeight : Nat → Option (List Nat) := fun
 | 0 => some [1, 2]
 | 1 => some [1, 2, 10]
 | 2 => some [1, 2, 10, 11]
 | 3 => some [5]
 | 4 => some [4]
 | 5 => some [1, 22]
 | 6 => some [7]
 | 7 => some [4]
 | 8 => some [4]
 | _ => none
attribute [go_sem] kpWeight
def tab_weight_ok : List (FuncId × (List AV → Mem → Option (AV × Mem))) := [(172, powG), (173, waveG)]
theorem weight_ok : FunOk Tryz.prog 162 weightG := by
 have hC := table_ok (P := Tryz.prog) (l := tab_weight_ok) (table_more pow_ok (table_more wave_ok table_nil))
 have t1 := fun args mm => table_at (l := tab_weight_ok) (f := 172) (args := args) (m := mm) rfl
 have t2 := fun args mm => table_at (l := tab_weight_ok) (f := 173) (args := args) (m := mm) rfl
 refine fun_ok mixed hC Tryz.func162 rfl kpWeight false rfl fun args m r h => ?_
 unfold weightG at h
 split at h
 ·rename_i cs t
  split at h
  ·rename_i c hc0
   obtain rfl := unCv_some hc0
   split at h
   ·rename_i ht
    simp only [Option.some.injEq] at h
    subst h
    refine ⟨Nat.le_of_ble_eq_true rfl, ?_⟩
    refine en ?_
    have v2 : (m.push c.row).var m.vars.length = some c.row := push_var
    have nr := newCv (m := m) (x := c)
    have hA := above_push (cs := c.row) (above_self m)
    refine go1 @nr ?_
    generalize m.push c.row = m2 at v2 hA
    generalize m.vars.length = r2 at v2
    have l0 := lpCvKind v2
    have l3 := lpCvK v2
    have c1 : ∀ mm, powG [.v (.int .i64 (IntKind.i64.wrap (4294967296 - t))), .v (.int .i64 c.k)] mm = some (.tup [.v (.int .i64 (powV (IntKind.i64.wrap (4294967296 - t)) c.k).1), .v (.int .i64 (powV (IntKind.i64.wrap (4294967296 - t)) c.k).2)], mm) := fun mm => if_pos (wrapI_in _)
    have c2 : ∀ mm, waveG [.v (.int .i64 t)] mm = some (.tup [.v (.int .i64 (waveV t).1), .v (.int .i64 (waveV t).2)], mm) := fun mm => if_pos ht
    unfold weightV
    refine go1 @l0 ?_
    by_cases k3 : c.kind = 3
    ·rw [if_pos k3]
     refine runs_cond rfl (fun hc => ?_) (fun hc => absurd hc (by rw [k3]; decide))
     refine go1 (jn @l3 (jn @t1 @c1)) ?_
     exact leaves_fin rfl rfl (above_fin hA)
    ·rw [if_neg k3]
     have b3 : (c.kind == 3) = false := by rw [beq_eq_false_iff_ne]; exact k3
     refine runs_cond rfl (fun hc => by rw [b3] at hc; cases hc) (fun hc => ?_)
     refine go0 ?_
     by_cases k5 : c.kind = 5
     ·rw [if_pos k5]
      refine runs_cond rfl (fun hc => ?_) (fun hc => absurd hc (by rw [k5]; decide))
      refine go1 (jn @t2 @c2) ?_
      exact leaves_fin rfl rfl (above_fin hA)
     ·rw [if_neg k5]
      have b5 : (c.kind == 5) = false := by rw [beq_eq_false_iff_ne]; exact k5
      refine runs_cond rfl (fun hc => by rw [b5] at hc; cases hc) (fun hc => ?_)
      refine go0 ?_
      exact leaves_fin rfl rfl (above_fin hA)
   ·cases h
  ·cases h
 ·cases h
end
section
attribute [local irreducible] Next Inside Runs Ops table
attribute [local irreducible] XRuns XOps
attribute [local go_sem] szStr szInt Option.getD_some isNil evMinMax evFoldI iv mapCv cellsCv newCv fpCvKind fpCvA fpCvB fpCvK mapSp cellsSp newSp fpSpFrom_ fpSpTo_ zrSp zoSp znSp mk0Sp mzSp
theorem mkSp {a b : Int} : evBuild Tryz.prog 94 [(0, .v (.int .i64 a)), (1, .v (.int .i64 b))] = some (.agg [.v (.int .i64 a), .v (.int .i64 b)]) := by kernel_rfl
attribute [local go_sem] mkSp
theorem mkSp1 {b : Int} : evBuild Tryz.prog 94 [(1, .v (.int .i64 b))] = some (.agg [.v (.int .i64 0), .v (.int .i64 b)]) := by kernel_rfl
attribute [local go_sem] mkSp1
theorem shareV_in {i n : Int} : inI (shareV i n).1 := by
 unfold shareV
 split
 ·exact (by decide : inI 0)
 ·split
  ·exact (by decide : inI 0)
  ·exact wrapI_in _
def curveAtV (c : Cv) (i n : Int) : Int × Int :=
 if curveOk c = false ∨ inB n 1 1048576 = false ∨ inB i 0 (n - 1) = false then (0, 1) else if c.kind = 4 then (fadV c i, 0) else if c.kind = 2 then lerpV c.a c.b (shareV i n).1 else lerpV c.b c.a (weightV c (shareV i n).1)
def curveAtG : List AV → Mem → Option (AV × Mem)
 | [.agg cs, .v (.int .i64 i), .v (.int .i64 n)], m =>
  match unCv cs with
  | some c => some (.tup [iv (curveAtV c i n).1, iv (curveAtV c i n).2], m)
  | none => none
 | _, _ => none
theorem curveAt_eq (c : Cv) (i n : Int) (m : Mem) : curveAtG [.agg c.row, .v (.int .i64 i), .v (.int .i64 n)] m = some (.tup [.v (.int .i64 (curveAtV c i n).1), .v (.int .i64 (curveAtV c i n).2)], m) := by
 simp only [curveAtG, unCv_row]
 rfl
def kpCurveAt : Nat → Option (List Nat) := fun
 | 0 => some [1, 2, 3]
 | 1 => some [1, 2, 3, 24]
 | 2 => some [6, 7]
 | 3 => some [1, 3, 8]
 | 4 => some [1, 3, 8, 32]
 | 5 => some [1, 3, 8, 32, 33]
 | 6 => some [6, 7]
 | 7 => some [3, 8, 38]
 | 8 => some [6, 7]
 | 9 => some [6, 7]
 | _ => none
attribute [go_sem] kpCurveAt
def tabCurveAt : List (FuncId × (List AV → Mem → Option (AV × Mem))) := [(143, curveCheckG), (157, inBG), (160, shareG), (161, fadG), (136, lerpG), (162, weightG)]
theorem curveAt_ok : FunOk Tryz.prog 149 curveAtG := by
 have hC := table_ok (P := Tryz.prog) (l := tabCurveAt) (table_more curveCheck_ok (table_more curveIn_ok (table_more share_ok (table_more fad_ok (table_more lerp_ok (table_more weight_ok table_nil))))))
 have t1 := fun args mm => table_at (l := tabCurveAt) (f := 143) (args := args) (m := mm) rfl
 have t2 := fun args mm => table_at (l := tabCurveAt) (f := 157) (args := args) (m := mm) rfl
 have t3 := fun args mm => table_at (l := tabCurveAt) (f := 160) (args := args) (m := mm) rfl
 have t4 := fun args mm => table_at (l := tabCurveAt) (f := 161) (args := args) (m := mm) rfl
 have t5 := fun args mm => table_at (l := tabCurveAt) (f := 136) (args := args) (m := mm) rfl
 have t6 := fun args mm => table_at (l := tabCurveAt) (f := 162) (args := args) (m := mm) rfl
 refine fun_okX Tryz.func149 rfl false rfl fun args m r h => ?_
 unfold curveAtG at h
 split at h
 ·rename_i cs i n
  split at h
  ·rename_i c hc0
   obtain rfl := unCv_some hc0
   simp only [Option.some.injEq] at h
   subst h
   refine ⟨Nat.le_of_ble_eq_true rfl, fun φ wd => ?_⟩
   refine en ?_
   have v2 : (m.push c.row).var m.vars.length = some c.row := push_var
   have nr := newCv (m := m) (x := c)
   have hA := above_push (cs := c.row) (above_self m)
   refine xq ?_
   refine x_region (kp := kpCurveAt) mixed hC ?_
   refine go1 @nr ?_
   refine xq ?_
   generalize m.push c.row = m2 at v2 hA
   generalize m.vars.length = r2 at v2
   have l0 := vrCv v2
   have lk := lpCvKind v2
   have la := lpCvA v2
   have lb := lpCvB v2
   have c1 := curveCheck_eq c
   have c2 := inB_eq n 1 1048576
   have c3 := inB_eq i 0 (n - 1)
   have k1 : (!true) = false := rfl
   have k2 : (!false) = true := rfl
   have z0 : ((0 : Int) != 0) = false := rfl
   have z1 : ((1 : Int) != 0) = true := rfl
   have hres : ∀ (e : Env) (x y : Int), Ev.get e 6 = .v (.int .i64 x) → Ev.get e 7 = .v (.int .i64 y) → (x, y) = curveAtV c i n → XLeaves Tryz.prog false Tryz.f149 m (.tup [iv (curveAtV c i n).1, iv (curveAtV c i n).2], m) .ret e m2 [] := fun e x y h1 h2 h3 => by
    rw [← h3]
    exact x_leaves (leaves_all rfl (by decide) (.cons rfl (by rw [h1]; rfl) (.cons rfl (by rw [h2]; rfl) .nil)) (above_fin hA))
   refine x_region (kp := kpCurveAt) mixed hC ?_
   cases ho : curveOk c with
   | false =>
    rw [ho] at c1
    simp only [Bool.false_eq_true, if_false] at c1
    refine go1 (jn @l0 (jn @t1 (jn @c1 @z1))) ?_
    refine xq ?_
    refine x_cond rfl (fun hc => ?_) (fun hc => by cases hc)
    refine xq ?_
    refine x_region (kp := kpCurveAt) mixed hC ?_
    refine go0 ?_
    refine xq ?_
    exact hres _ _ _ rfl rfl (by unfold curveAtV; rw [if_pos (.inl ho)])
   | true =>
    rw [ho] at c1
    simp only [if_true] at c1
    cases hn : inB n 1 1048576 with
    | false =>
     rw [hn] at c2
     refine go1 (jn @l0 (jn @t1 (jn @c1 (jn @z0 (jn @t2 (jn @c2 @k2)))))) ?_
     refine xq ?_
     refine x_cond rfl (fun hc => ?_) (fun hc => by cases hc)
     refine xq ?_
     refine x_region (kp := kpCurveAt) mixed hC ?_
     refine go0 ?_
     refine xq ?_
     exact hres _ _ _ rfl rfl (by unfold curveAtV; rw [if_pos (.inr (.inl hn))])
    | true =>
     have hn2 := inB_iff.1 hn
     have w1 : IntKind.i64.wrap (n - 1) = n - 1 := wrap_i64 (by omega) (by omega)
     rw [hn] at c2
     cases hi : inB i 0 (n - 1) with
     | false =>
      rw [hi] at c3
      refine go1 (jn @l0 (jn @t1 (jn @c1 (jn @z0 (jn @t2 (jn @c2 (jn @k1 (jn @k2 (jn @w1 @c3))))))))) ?_
      refine xq ?_
      refine x_cond rfl (fun hc => ?_) (fun hc => by cases hc)
      refine xq ?_
      refine x_region (kp := kpCurveAt) mixed hC ?_
      refine go0 ?_
      refine xq ?_
      exact hres _ _ _ rfl rfl (by unfold curveAtV; rw [if_pos (.inr (.inr hi))])
     | true =>
      have hi2 := inB_iff.1 hi
      rw [hi] at c3
      refine go1 (jn @l0 (jn @t1 (jn @c1 (jn @z0 (jn @t2 (jn @c2 (jn @k1 (jn @w1 @c3)))))))) ?_
      refine xq ?_
      refine x_cond rfl (fun hc => by cases hc) (fun hc => ?_)
      have e0 : curveAtV c i n = if c.kind = 4 then (fadV c i, 0) else if c.kind = 2 then lerpV c.a c.b (shareV i n).1 else lerpV c.b c.a (weightV c (shareV i n).1) := by unfold curveAtV; rw [if_neg (by rw [ho, hn, hi]; simp)]
      rw [e0] at hres ⊢
      refine xq ?_
      have c4 : ∀ mm, shareG [.v (.int .i64 i), .v (.int .i64 n)] mm = some (.tup [.v (.int .i64 (shareV i n).1), .v (.int .i64 (shareV i n).2)], mm) := fun mm => if_pos ⟨by omega, by omega, by omega⟩
      obtain ⟨ha, hb, hk⟩ := curveOk_in ho
      have c5 : ∀ mm, fadG [.agg c.row, .v (.int .i64 i)] mm = some (.v (.int .i64 (fadV c i)), mm) := fun mm => by
       simp only [fadG, unCv_row]
       exact if_pos ⟨ha, hk⟩
      have ht := shareV_in (i := i) (n := n)
      generalize (shareV i n).1 = t at *
      have c6 := lerpG_eq (t := t) ha hb
      have c7 : ∀ mm, weightG [.agg c.row, .v (.int .i64 t)] mm = some (.v (.int .i64 (weightV c t)), mm) := fun mm => by
       simp only [weightG, unCv_row]
       exact if_pos ht
      have c8 := lerpG_eq (t := weightV c t) hb ha
      refine x_region (kp := kpCurveAt) mixed hC ?_
      refine go1 (jn @t3 @c4) ?_
      refine xq ?_
      refine x_region (kp := kpCurveAt) mixed hC ?_
      refine go1 @lk ?_
      refine xq ?_
      refine x_region (kp := kpCurveAt) mixed hC ?_
      refine go0 ?_
      refine xq ?_
      by_cases k4 : c.kind = 4
      ·rw [if_pos k4] at hres ⊢
       refine x_cond rfl (fun hc => ?_) (fun hc => absurd hc (by rw [k4]; decide))
       refine xq ?_
       refine x_region (kp := kpCurveAt) mixed hC ?_
       refine go1 (jn @l0 (jn @t4 @c5)) ?_
       refine xq ?_
       exact hres _ _ _ rfl rfl rfl
      ·rw [if_neg k4] at hres ⊢
       refine x_cond rfl (fun hc => absurd (eq_of_beq hc) k4) (fun hc => ?_)
       refine xq ?_
       refine x_region (kp := kpCurveAt) mixed hC ?_
       refine go0 ?_
       refine xq ?_
       by_cases kk2 : c.kind = 2
       ·rw [if_pos kk2] at hres ⊢
        refine x_cond rfl (fun hc => ?_) (fun hc => absurd hc (by rw [kk2]; decide))
        refine xq ?_
        refine x_region (kp := kpCurveAt) mixed hC ?_
        refine go1 (jn @la (jn @lb (jn @t5 @c6))) ?_
        refine xq ?_
        exact hres _ _ _ rfl rfl rfl
       ·rw [if_neg kk2] at hres ⊢
        refine x_cond rfl (fun hc => absurd (eq_of_beq hc) kk2) (fun hc => ?_)
        refine xq ?_
        refine x_walk0 (l2 := kpCurveAt 9) mixed hC (by kernel_rfl) ?_
        refine gof1 (jn @la (jn @lb (jn @l0 (jn @t6 (jn @c7 (jn @t5 @c8)))))) ?_
        refine xq ?_
        exact hres _ _ _ rfl rfl rfl
  ·cases h
 ·cases h
/-! ### cycles -/
def cycMay (a b c : Int) : Bool := inB a 1 1048576 && inB b 1 16 && inB c 0 1048576
def cycMayG : List AV → Mem → Option (AV × Mem)
 | [.v (.int .i64 a), .v (.int .i64 b), .v (.int .i64 c)], m => some (.v (.bool (cycMay a b c)), m)
 | _, _ => none
def kpCycMay : Nat → Option (List Nat) := fun
 | 0 => some [0, 1, 2]
 | 1 => some [6]
 | _ => none
attribute [go_sem] kpCycMay
def tab_cycMay_ok : List (FuncId × (List AV → Mem → Option (AV × Mem))) := [(174, inBG)]
theorem cycMay_ok : FunOk Tryz.prog 163 cycMayG := by
 have hC := table_ok (P := Tryz.prog) (l := tab_cycMay_ok) (table_more cycleIn_ok table_nil)
 have t1 := fun args mm => table_at (l := tab_cycMay_ok) (f := 174) (args := args) (m := mm) rfl
 refine fun_ok mixed hC Tryz.func163 rfl kpCycMay false rfl fun args m r h => ?_
 unfold cycMayG at h
 split at h
 ·rename_i a b c
  simp only [Option.some.injEq] at h
  subst h
  refine ⟨Nat.le_of_ble_eq_true rfl, ?_⟩
  refine en ?_
  have c1 := inB_eq a 1 1048576
  have c2 := inB_eq b 1 16
  have c3 := inB_eq c 0 1048576
  unfold cycMay
  cases h1 : inB a 1 1048576 with
  | false =>
   rw [h1] at c1
   refine go1 (jn @t1 @c1) ?_
   exact leaves_v rfl rfl
  | true =>
   rw [h1] at c1
   cases h2 : inB b 1 16 with
   | false =>
    rw [h2] at c2
    refine go1 (jn @t1 (jn @c1 @c2)) ?_
    exact leaves_v rfl rfl
   | true =>
    rw [h2] at c2
    refine go1 (jn @t1 (jn @c1 (jn @c2 @c3))) ?_
    exact leaves_v rfl rfl
 ·cases h
def nextS (times : Int) (s : Sp) : Sp := ⟨s.to_, s.to_ + mn ((s.to_ - s.from_) * times) 1048576⟩
def spOk (s : Sp) : Prop := 0 ≤ s.from_ ∧ s.from_ < s.to_ ∧ s.to_ ≤ 4194304
instance (s : Sp) : Decidable (spOk s) := by unfold spOk; exact inferInstance
theorem mulT {d t : Int} (h0 : 0 < d) (h1 : d ≤ 4194304) (t1 : 1 ≤ t) (t2 : t ≤ 16) : d ≤ d * t ∧ d * t ≤ 67108864 := by
 constructor
 ·have := Int.mul_le_mul_of_nonneg_left t1 (show 0 ≤ d by omega)
  omega
 ·exact Int.mul_le_mul h1 t2 (by omega) (by decide)
def nextG : List AV → Mem → Option (AV × Mem)
 | [.agg cs, .v (.int .i64 t)], m =>
  match unSp cs with
  | some s => if spOk s ∧ 1 ≤ t ∧ t ≤ 16 then some (.agg (nextS t s).row, m) else none
  | none => none
 | _, _ => none
def kpNext : Nat → Option (List Nat) := fun
 | 0 => some [1, 2, 4]
 | 1 => some [4]
 | _ => none
attribute [go_sem] kpNext
theorem next_ok : FunOk Tryz.prog 175 nextG := by
 have hC := table_ok (P := Tryz.prog) (l := []) table_nil
 refine fun_ok mixed hC Tryz.func175 rfl kpNext false rfl fun args m r h => ?_
 unfold nextG at h
 split at h
 ·rename_i cs t
  split at h
  ·rename_i s hs0
   obtain rfl := unSp_some hs0
   split at h
   ·rename_i hyp
    obtain ⟨⟨f0, f1, f2⟩, t1, t2⟩ := hyp
    simp only [Option.some.injEq] at h
    subst h
    refine ⟨Nat.le_of_ble_eq_true rfl, ?_⟩
    refine en ?_
    have v2 : ((m.push s.row).push zeroSp).var m.vars.length = some s.row := push_old push_var
    have v4 : ((m.push s.row).push zeroSp).var (m.push s.row).vars.length = some zeroSp := push_var
    have nr := newSp (m := m) (x := s)
    have nz := znSp (m := m.push s.row)
    have hA := above_push (cs := zeroSp) (above_push (cs := s.row) (above_self m))
    have hge : m.vars.length ≤ (m.push s.row).vars.length := by rw [push_len]; omega
    refine go1 (jn @nr @nz) ?_
    generalize (m.push s.row).push zeroSp = m2 at v2 v4 hA
    generalize (m.push s.row).vars.length = r4 at v4 hge
    generalize m.vars.length = r2 at v2
    have l0 := lpSpFrom_ v2
    have l1 := lpSpTo_ v2
    obtain ⟨p0, p1⟩ := mulT (d := s.to_ - s.from_) (t := t) (by omega) (by omega) t1 t2
    have w1 : IntKind.i64.wrap (s.to_ - s.from_) = s.to_ - s.from_ := wrap_i64 (by omega) (by omega)
    have w2 : IntKind.i64.wrap ((s.to_ - s.from_) * t) = (s.to_ - s.from_) * t := wrap_i64 (by omega) (by omega)
    have hm : 0 ≤ mn ((s.to_ - s.from_) * t) 1048576 ∧ mn ((s.to_ - s.from_) * t) 1048576 ≤ 1048576 := by unfold mn; split <;> omega
    have w3 : IntKind.i64.wrap (s.to_ + mn ((s.to_ - s.from_) * t) 1048576) = s.to_ + mn ((s.to_ - s.from_) * t) 1048576 := wrap_i64 (by omega) (by omega)
    have st : evStore Tryz.prog m2 94 (.ptr r4 0) (.agg [.v (.int .i64 s.to_), .v (.int .i64 (s.to_ + mn ((s.to_ - s.from_) * t) 1048576))]) = some (setv m2 r4 (nextS t s).row) := store_part v4 szSp rfl rfl (Nat.le_refl _) rfl rfl
    refine go1 (jn @l0 (jn @l1 (jn @w1 (jn @w2 (jn @w3 @st))))) ?_
    exact leaves_cell1 rfl (vrSp (setv_var v4)) rfl (above_fin (above_setv hA hge))
   ·cases h
  ·cases h
 ·cases h
end
end Go.Proofs.YtmockbddhhmmeaaGreat.Ev
