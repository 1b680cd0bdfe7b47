/- Nodes: the document's test, some kinds. -/
import Derived.Test.YtojaokhkbmiidaaGreatMbcia3
import Derived.Test.YtojaokhkbmiidaaGreatMbcia10
import Derived.Test.YtojaokhkbmiidaaGreatMbcia5
import Derived.Test.YtojaokhkbmiidaaGreatMbcia9
import Derived.Test.YtojaokhkbmiidaaGreatMbcia1
import Derived.Test.YtojaokhkbmiidaaGreatMbcia2
namespace Go.Proofs.YtojaokhkbmiidaaGreat.Ev
open Go Go.Proofs
set_option maxRecDepth 10000
set_option maxHeartbeats 8000000
set_option linter.unusedVariables false
set_option linter.unusedSimpArgs false
section
set_option maxHeartbeats 16000000
set_option linter.unusedVariables false
set_option linter.unusedSimpArgs false
attribute [local irreducible] Next Inside Runs Ops table nrow
attribute [local go_sem] szStr szInt Option.getD_some isNil evStr loadOne newNode cellsNode nf0 nf1 nf2 nf3 nf4 nf5 lf0 nh0 nh1 nh2 nh3 nh4 nh5 loadNodeLen zeroLen niLen eqLen Nat.zero_add
theorem refMay_at2 : FunOk Tryz.prog 96 (mayAt fun op => decide (op = 2)) := by
  have hC := table_ok (P := Tryz.prog) (l := tabRefMay) (table_more refQ_ok (table_more refLenMay_ok table_nil))
  have t1 := fun args mm => table_at (l := tabRefMay) (f := 136) (args := args) (m := mm) rfl
  have t2 := fun args mm => table_at (l := tabRefMay) (f := 43) (args := args) (m := mm) rfl
  refine fun_ok mixed hC Tryz.func96 rfl kpRefMay false rfl fun args m r h => ?_
  unfold mayAt at h
  split at h
  · rename_i cs
    split at h
    · rename_i x hx
      split at h
      · rename_i hop
        obtain rfl := unNd_row hx
        obtain ⟨op, a, b, c, k, u, n⟩ := x
        have hop := of_decide_eq_true hop
        simp only at hop
        simp only [Option.some.injEq] at h
        subst h
        refine ⟨Nat.le_of_ble_eq_true rfl, ?_⟩
        refine en ?_
        have fin : ∀ (e : Env) (m' : Mem) (z : Bool), Ev.get e 2 = .v (.bool z) → finMem m m' = m → (z = true ↔ mayN ⟨op, a, b, c, k, u, n⟩) → Leaves Tryz.prog false Tryz.f96 m (.v (.bool (decide (mayN ⟨op, a, b, c, k, u, n⟩))), m) .ret e m' := fun e m' z h1 h2 h3 => by
          have : z = decide (mayN ⟨op, a, b, c, k, u, n⟩) := by rw [Bool.eq_iff_iff, decide_eq_true_eq]; exact h3
          rw [← this]
          exact leaves_fin rfl h1 h2
        subst hop
        repeat' (first | refine gos1 (jn @t1 (jn @q_eq (jn @t2 @lm_eq))) ?_ | (refine ops_here ?_; (fail_if_success (refine ops_case (B := true) rfl rfl rfl ?_ ?_)); (fail_if_success (refine ops_case (B := false) rfl rfl rfl ?_ ?_)); refine ops_case rfl rfl rfl (fun hB => ?_) (fun hB => ?_) <;> rw [hB]) | (refine runs_here ?_; refine runs_cond rfl (fun hc => ?_) (fun hc => ?_) <;> first | (cases hc; done) | skip))
        all_goals exact fin _ _ _ rfl fin_push (by clear fin hx t1 t2 hC; simp only [Bool.not_eq_true', Bool.not_eq_false', Bool.not_true, Bool.not_false, Bool.and_true, Bool.and_eq_true, Bool.and_eq_false_iff, decide_eq_true_eq, decide_eq_false_iff_not, Bool.false_eq_true, reduceCtorEq, false_iff, true_iff, beq_iff_eq, bne_iff_ne, beq_eq_false_iff_ne, bne_eq_false_iff_eq, ne_eq, not_false_eq_true, not_true_eq_false, true_or, or_true, true_implies, false_implies, implies_true, and_self, true_and, false_and, or_false, false_or, and_true, and_false] at *; simp only [mayN, inQ, lenMay, not_false_eq_true, not_true_eq_false, true_or, or_true, true_implies, false_implies, implies_true, and_self, true_and, false_and, or_false, false_or, and_true, and_false] at *; omega)
      · cases h
    · cases h
  · cases h
theorem refMay_at3 : FunOk Tryz.prog 96 (mayAt fun op => decide (op = 3)) := by
  have hC := table_ok (P := Tryz.prog) (l := tabRefMay) (table_more refQ_ok (table_more refLenMay_ok table_nil))
  have t1 := fun args mm => table_at (l := tabRefMay) (f := 136) (args := args) (m := mm) rfl
  have t2 := fun args mm => table_at (l := tabRefMay) (f := 43) (args := args) (m := mm) rfl
  refine fun_ok mixed hC Tryz.func96 rfl kpRefMay false rfl fun args m r h => ?_
  unfold mayAt at h
  split at h
  · rename_i cs
    split at h
    · rename_i x hx
      split at h
      · rename_i hop
        obtain rfl := unNd_row hx
        obtain ⟨op, a, b, c, k, u, n⟩ := x
        have hop := of_decide_eq_true hop
        simp only at hop
        simp only [Option.some.injEq] at h
        subst h
        refine ⟨Nat.le_of_ble_eq_true rfl, ?_⟩
        refine en ?_
        have fin : ∀ (e : Env) (m' : Mem) (z : Bool), Ev.get e 2 = .v (.bool z) → finMem m m' = m → (z = true ↔ mayN ⟨op, a, b, c, k, u, n⟩) → Leaves Tryz.prog false Tryz.f96 m (.v (.bool (decide (mayN ⟨op, a, b, c, k, u, n⟩))), m) .ret e m' := fun e m' z h1 h2 h3 => by
          have : z = decide (mayN ⟨op, a, b, c, k, u, n⟩) := by rw [Bool.eq_iff_iff, decide_eq_true_eq]; exact h3
          rw [← this]
          exact leaves_fin rfl h1 h2
        subst hop
        repeat' (first | refine gos1 (jn @t1 (jn @q_eq (jn @t2 @lm_eq))) ?_ | (refine ops_here ?_; (fail_if_success (refine ops_case (B := true) rfl rfl rfl ?_ ?_)); (fail_if_success (refine ops_case (B := false) rfl rfl rfl ?_ ?_)); refine ops_case rfl rfl rfl (fun hB => ?_) (fun hB => ?_) <;> rw [hB]) | (refine runs_here ?_; refine runs_cond rfl (fun hc => ?_) (fun hc => ?_) <;> first | (cases hc; done) | skip))
        all_goals exact fin _ _ _ rfl fin_push (by clear fin hx t1 t2 hC; simp only [Bool.not_eq_true', Bool.not_eq_false', Bool.not_true, Bool.not_false, Bool.and_true, Bool.and_eq_true, Bool.and_eq_false_iff, decide_eq_true_eq, decide_eq_false_iff_not, Bool.false_eq_true, reduceCtorEq, false_iff, true_iff, beq_iff_eq, bne_iff_ne, beq_eq_false_iff_ne, bne_eq_false_iff_eq, ne_eq, not_false_eq_true, not_true_eq_false, true_or, or_true, true_implies, false_implies, implies_true, and_self, true_and, false_and, or_false, false_or, and_true, and_false] at *; simp only [mayN, inQ, lenMay, not_false_eq_true, not_true_eq_false, true_or, or_true, true_implies, false_implies, implies_true, and_self, true_and, false_and, or_false, false_or, and_true, and_false] at *; omega)
      · cases h
    · cases h
  · cases h
theorem refMay_at4 : FunOk Tryz.prog 96 (mayAt fun op => decide (op = 4)) := by
  have hC := table_ok (P := Tryz.prog) (l := tabRefMay) (table_more refQ_ok (table_more refLenMay_ok table_nil))
  have t1 := fun args mm => table_at (l := tabRefMay) (f := 136) (args := args) (m := mm) rfl
  have t2 := fun args mm => table_at (l := tabRefMay) (f := 43) (args := args) (m := mm) rfl
  refine fun_ok mixed hC Tryz.func96 rfl kpRefMay false rfl fun args m r h => ?_
  unfold mayAt at h
  split at h
  · rename_i cs
    split at h
    · rename_i x hx
      split at h
      · rename_i hop
        obtain rfl := unNd_row hx
        obtain ⟨op, a, b, c, k, u, n⟩ := x
        have hop := of_decide_eq_true hop
        simp only at hop
        simp only [Option.some.injEq] at h
        subst h
        refine ⟨Nat.le_of_ble_eq_true rfl, ?_⟩
        refine en ?_
        have fin : ∀ (e : Env) (m' : Mem) (z : Bool), Ev.get e 2 = .v (.bool z) → finMem m m' = m → (z = true ↔ mayN ⟨op, a, b, c, k, u, n⟩) → Leaves Tryz.prog false Tryz.f96 m (.v (.bool (decide (mayN ⟨op, a, b, c, k, u, n⟩))), m) .ret e m' := fun e m' z h1 h2 h3 => by
          have : z = decide (mayN ⟨op, a, b, c, k, u, n⟩) := by rw [Bool.eq_iff_iff, decide_eq_true_eq]; exact h3
          rw [← this]
          exact leaves_fin rfl h1 h2
        subst hop
        repeat' (first | refine gos1 (jn @t1 (jn @q_eq (jn @t2 @lm_eq))) ?_ | (refine ops_here ?_; (fail_if_success (refine ops_case (B := true) rfl rfl rfl ?_ ?_)); (fail_if_success (refine ops_case (B := false) rfl rfl rfl ?_ ?_)); refine ops_case rfl rfl rfl (fun hB => ?_) (fun hB => ?_) <;> rw [hB]) | (refine runs_here ?_; refine runs_cond rfl (fun hc => ?_) (fun hc => ?_) <;> first | (cases hc; done) | skip))
        all_goals exact fin _ _ _ rfl fin_push (by clear fin hx t1 t2 hC; simp only [Bool.not_eq_true', Bool.not_eq_false', Bool.not_true, Bool.not_false, Bool.and_true, Bool.and_eq_true, Bool.and_eq_false_iff, decide_eq_true_eq, decide_eq_false_iff_not, Bool.false_eq_true, reduceCtorEq, false_iff, true_iff, beq_iff_eq, bne_iff_ne, beq_eq_false_iff_ne, bne_eq_false_iff_eq, ne_eq, not_false_eq_true, not_true_eq_false, true_or, or_true, true_implies, false_implies, implies_true, and_self, true_and, false_and, or_false, false_or, and_true, and_false] at *; simp only [mayN, inQ, lenMay, not_false_eq_true, not_true_eq_false, true_or, or_true, true_implies, false_implies, implies_true, and_self, true_and, false_and, or_false, false_or, and_true, and_false] at *; omega)
      · cases h
    · cases h
  · cases h
end
section
set_option maxHeartbeats 16000000
set_option linter.unusedVariables false
set_option linter.unusedSimpArgs false
attribute [local irreducible] Next Inside Runs Ops table nrow
attribute [local go_sem] szStr szInt Option.getD_some isNil evStr loadOne newNode cellsNode nf0 nf1 nf2 nf3 nf4 nf5 lf0 nh0 nh1 nh2 nh3 nh4 nh5 loadNodeLen zeroLen niLen eqLen Nat.zero_add
theorem refMay_at5 : FunOk Tryz.prog 96 (mayAt fun op => decide (op = 5)) := by
  have hC := table_ok (P := Tryz.prog) (l := tabRefMay) (table_more refQ_ok (table_more refLenMay_ok table_nil))
  have t1 := fun args mm => table_at (l := tabRefMay) (f := 136) (args := args) (m := mm) rfl
  have t2 := fun args mm => table_at (l := tabRefMay) (f := 43) (args := args) (m := mm) rfl
  refine fun_ok mixed hC Tryz.func96 rfl kpRefMay false rfl fun args m r h => ?_
  unfold mayAt at h
  split at h
  · rename_i cs
    split at h
    · rename_i x hx
      split at h
      · rename_i hop
        obtain rfl := unNd_row hx
        obtain ⟨op, a, b, c, k, u, n⟩ := x
        have hop := of_decide_eq_true hop
        simp only at hop
        simp only [Option.some.injEq] at h
        subst h
        refine ⟨Nat.le_of_ble_eq_true rfl, ?_⟩
        refine en ?_
        have fin : ∀ (e : Env) (m' : Mem) (z : Bool), Ev.get e 2 = .v (.bool z) → finMem m m' = m → (z = true ↔ mayN ⟨op, a, b, c, k, u, n⟩) → Leaves Tryz.prog false Tryz.f96 m (.v (.bool (decide (mayN ⟨op, a, b, c, k, u, n⟩))), m) .ret e m' := fun e m' z h1 h2 h3 => by
          have : z = decide (mayN ⟨op, a, b, c, k, u, n⟩) := by rw [Bool.eq_iff_iff, decide_eq_true_eq]; exact h3
          rw [← this]
          exact leaves_fin rfl h1 h2
        subst hop
        repeat' (first | refine gos1 (jn @t1 (jn @q_eq (jn @t2 @lm_eq))) ?_ | (refine ops_here ?_; (fail_if_success (refine ops_case (B := true) rfl rfl rfl ?_ ?_)); (fail_if_success (refine ops_case (B := false) rfl rfl rfl ?_ ?_)); refine ops_case rfl rfl rfl (fun hB => ?_) (fun hB => ?_) <;> rw [hB]) | (refine runs_here ?_; refine runs_cond rfl (fun hc => ?_) (fun hc => ?_) <;> first | (cases hc; done) | skip))
        all_goals exact fin _ _ _ rfl fin_push (by clear fin hx t1 t2 hC; simp only [Bool.not_eq_true', Bool.not_eq_false', Bool.not_true, Bool.not_false, Bool.and_true, Bool.and_eq_true, Bool.and_eq_false_iff, decide_eq_true_eq, decide_eq_false_iff_not, Bool.false_eq_true, reduceCtorEq, false_iff, true_iff, beq_iff_eq, bne_iff_ne, beq_eq_false_iff_ne, bne_eq_false_iff_eq, ne_eq, not_false_eq_true, not_true_eq_false, true_or, or_true, true_implies, false_implies, implies_true, and_self, true_and, false_and, or_false, false_or, and_true, and_false] at *; simp only [mayN, inQ, lenMay, not_false_eq_true, not_true_eq_false, true_or, or_true, true_implies, false_implies, implies_true, and_self, true_and, false_and, or_false, false_or, and_true, and_false] at *; omega)
      · cases h
    · cases h
  · cases h
theorem refMay_at6 : FunOk Tryz.prog 96 (mayAt fun op => decide (op = 6)) := by
  have hC := table_ok (P := Tryz.prog) (l := tabRefMay) (table_more refQ_ok (table_more refLenMay_ok table_nil))
  have t1 := fun args mm => table_at (l := tabRefMay) (f := 136) (args := args) (m := mm) rfl
  have t2 := fun args mm => table_at (l := tabRefMay) (f := 43) (args := args) (m := mm) rfl
  refine fun_ok mixed hC Tryz.func96 rfl kpRefMay false rfl fun args m r h => ?_
  unfold mayAt at h
  split at h
  · rename_i cs
    split at h
    · rename_i x hx
      split at h
      · rename_i hop
        obtain rfl := unNd_row hx
        obtain ⟨op, a, b, c, k, u, n⟩ := x
        have hop := of_decide_eq_true hop
        simp only at hop
        simp only [Option.some.injEq] at h
        subst h
        refine ⟨Nat.le_of_ble_eq_true rfl, ?_⟩
        refine en ?_
        have fin : ∀ (e : Env) (m' : Mem) (z : Bool), Ev.get e 2 = .v (.bool z) → finMem m m' = m → (z = true ↔ mayN ⟨op, a, b, c, k, u, n⟩) → Leaves Tryz.prog false Tryz.f96 m (.v (.bool (decide (mayN ⟨op, a, b, c, k, u, n⟩))), m) .ret e m' := fun e m' z h1 h2 h3 => by
          have : z = decide (mayN ⟨op, a, b, c, k, u, n⟩) := by rw [Bool.eq_iff_iff, decide_eq_true_eq]; exact h3
          rw [← this]
          exact leaves_fin rfl h1 h2
        subst hop
        repeat' (first | refine gos1 (jn @t1 (jn @q_eq (jn @t2 @lm_eq))) ?_ | (refine ops_here ?_; (fail_if_success (refine ops_case (B := true) rfl rfl rfl ?_ ?_)); (fail_if_success (refine ops_case (B := false) rfl rfl rfl ?_ ?_)); refine ops_case rfl rfl rfl (fun hB => ?_) (fun hB => ?_) <;> rw [hB]) | (refine runs_here ?_; refine runs_cond rfl (fun hc => ?_) (fun hc => ?_) <;> first | (cases hc; done) | skip))
        all_goals exact fin _ _ _ rfl fin_push (by clear fin hx t1 t2 hC; simp only [Bool.not_eq_true', Bool.not_eq_false', Bool.not_true, Bool.not_false, Bool.and_true, Bool.and_eq_true, Bool.and_eq_false_iff, decide_eq_true_eq, decide_eq_false_iff_not, Bool.false_eq_true, reduceCtorEq, false_iff, true_iff, beq_iff_eq, bne_iff_ne, beq_eq_false_iff_ne, bne_eq_false_iff_eq, ne_eq, not_false_eq_true, not_true_eq_false, true_or, or_true, true_implies, false_implies, implies_true, and_self, true_and, false_and, or_false, false_or, and_true, and_false] at *; simp only [mayN, inQ, lenMay, not_false_eq_true, not_true_eq_false, true_or, or_true, true_implies, false_implies, implies_true, and_self, true_and, false_and, or_false, false_or, and_true, and_false] at *; omega)
      · cases h
    · cases h
  · cases h
end
section
set_option maxHeartbeats 16000000
set_option linter.unusedVariables false
set_option linter.unusedSimpArgs false
attribute [local irreducible] Next Inside Runs Ops table nrow
attribute [local go_sem] szStr szInt Option.getD_some isNil evStr loadOne newNode cellsNode nf0 nf1 nf2 nf3 nf4 nf5 lf0 nh0 nh1 nh2 nh3 nh4 nh5 loadNodeLen zeroLen niLen eqLen Nat.zero_add
theorem refMay_at7 : FunOk Tryz.prog 96 (mayAt fun op => decide (op = 7)) := by
  have hC := table_ok (P := Tryz.prog) (l := tabRefMay) (table_more refQ_ok (table_more refLenMay_ok table_nil))
  have t1 := fun args mm => table_at (l := tabRefMay) (f := 136) (args := args) (m := mm) rfl
  have t2 := fun args mm => table_at (l := tabRefMay) (f := 43) (args := args) (m := mm) rfl
  refine fun_ok mixed hC Tryz.func96 rfl kpRefMay false rfl fun args m r h => ?_
  unfold mayAt at h
  split at h
  · rename_i cs
    split at h
    · rename_i x hx
      split at h
      · rename_i hop
        obtain rfl := unNd_row hx
        obtain ⟨op, a, b, c, k, u, n⟩ := x
        have hop := of_decide_eq_true hop
        simp only at hop
        simp only [Option.some.injEq] at h
        subst h
        refine ⟨Nat.le_of_ble_eq_true rfl, ?_⟩
        refine en ?_
        have fin : ∀ (e : Env) (m' : Mem) (z : Bool), Ev.get e 2 = .v (.bool z) → finMem m m' = m → (z = true ↔ mayN ⟨op, a, b, c, k, u, n⟩) → Leaves Tryz.prog false Tryz.f96 m (.v (.bool (decide (mayN ⟨op, a, b, c, k, u, n⟩))), m) .ret e m' := fun e m' z h1 h2 h3 => by
          have : z = decide (mayN ⟨op, a, b, c, k, u, n⟩) := by rw [Bool.eq_iff_iff, decide_eq_true_eq]; exact h3
          rw [← this]
          exact leaves_fin rfl h1 h2
        subst hop
        repeat' (first | refine gos1 (jn @t1 (jn @q_eq (jn @t2 @lm_eq))) ?_ | (refine ops_here ?_; (fail_if_success (refine ops_case (B := true) rfl rfl rfl ?_ ?_)); (fail_if_success (refine ops_case (B := false) rfl rfl rfl ?_ ?_)); refine ops_case rfl rfl rfl (fun hB => ?_) (fun hB => ?_) <;> rw [hB]) | (refine runs_here ?_; refine runs_cond rfl (fun hc => ?_) (fun hc => ?_) <;> first | (cases hc; done) | skip))
        all_goals exact fin _ _ _ rfl fin_push (by clear fin hx t1 t2 hC; simp only [Bool.not_eq_true', Bool.not_eq_false', Bool.not_true, Bool.not_false, Bool.and_true, Bool.and_eq_true, Bool.and_eq_false_iff, decide_eq_true_eq, decide_eq_false_iff_not, Bool.false_eq_true, reduceCtorEq, false_iff, true_iff, beq_iff_eq, bne_iff_ne, beq_eq_false_iff_ne, bne_eq_false_iff_eq, ne_eq, not_false_eq_true, not_true_eq_false, true_or, or_true, true_implies, false_implies, implies_true, and_self, true_and, false_and, or_false, false_or, and_true, and_false] at *; simp only [mayN, inQ, lenMay, not_false_eq_true, not_true_eq_false, true_or, or_true, true_implies, false_implies, implies_true, and_self, true_and, false_and, or_false, false_or, and_true, and_false] at *; omega)
      · cases h
    · cases h
  · cases h
theorem refMay_at8 : FunOk Tryz.prog 96 (mayAt fun op => decide (op = 8)) := by
  have hC := table_ok (P := Tryz.prog) (l := tabRefMay) (table_more refQ_ok (table_more refLenMay_ok table_nil))
  have t1 := fun args mm => table_at (l := tabRefMay) (f := 136) (args := args) (m := mm) rfl
  have t2 := fun args mm => table_at (l := tabRefMay) (f := 43) (args := args) (m := mm) rfl
  refine fun_ok mixed hC Tryz.func96 rfl kpRefMay false rfl fun args m r h => ?_
  unfold mayAt at h
  split at h
  · rename_i cs
    split at h
    · rename_i x hx
      split at h
      · rename_i hop
        obtain rfl := unNd_row hx
        obtain ⟨op, a, b, c, k, u, n⟩ := x
        have hop := of_decide_eq_true hop
        simp only at hop
        simp only [Option.some.injEq] at h
        subst h
        refine ⟨Nat.le_of_ble_eq_true rfl, ?_⟩
        refine en ?_
        have fin : ∀ (e : Env) (m' : Mem) (z : Bool), Ev.get e 2 = .v (.bool z) → finMem m m' = m → (z = true ↔ mayN ⟨op, a, b, c, k, u, n⟩) → Leaves Tryz.prog false Tryz.f96 m (.v (.bool (decide (mayN ⟨op, a, b, c, k, u, n⟩))), m) .ret e m' := fun e m' z h1 h2 h3 => by
          have : z = decide (mayN ⟨op, a, b, c, k, u, n⟩) := by rw [Bool.eq_iff_iff, decide_eq_true_eq]; exact h3
          rw [← this]
          exact leaves_fin rfl h1 h2
        subst hop
        repeat' (first | refine gos1 (jn @t1 (jn @q_eq (jn @t2 @lm_eq))) ?_ | (refine ops_here ?_; (fail_if_success (refine ops_case (B := true) rfl rfl rfl ?_ ?_)); (fail_if_success (refine ops_case (B := false) rfl rfl rfl ?_ ?_)); refine ops_case rfl rfl rfl (fun hB => ?_) (fun hB => ?_) <;> rw [hB]) | (refine runs_here ?_; refine runs_cond rfl (fun hc => ?_) (fun hc => ?_) <;> first | (cases hc; done) | skip))
        all_goals exact fin _ _ _ rfl fin_push (by clear fin hx t1 t2 hC; simp only [Bool.not_eq_true', Bool.not_eq_false', Bool.not_true, Bool.not_false, Bool.and_true, Bool.and_eq_true, Bool.and_eq_false_iff, decide_eq_true_eq, decide_eq_false_iff_not, Bool.false_eq_true, reduceCtorEq, false_iff, true_iff, beq_iff_eq, bne_iff_ne, beq_eq_false_iff_ne, bne_eq_false_iff_eq, ne_eq, not_false_eq_true, not_true_eq_false, true_or, or_true, true_implies, false_implies, implies_true, and_self, true_and, false_and, or_false, false_or, and_true, and_false] at *; simp only [mayN, inQ, lenMay, not_false_eq_true, not_true_eq_false, true_or, or_true, true_implies, false_implies, implies_true, and_self, true_and, false_and, or_false, false_or, and_true, and_false] at *; omega)
      · cases h
    · cases h
  · cases h
theorem refMay_at9 : FunOk Tryz.prog 96 (mayAt fun op => decide (op = 9)) := by
  have hC := table_ok (P := Tryz.prog) (l := tabRefMay) (table_more refQ_ok (table_more refLenMay_ok table_nil))
  have t1 := fun args mm => table_at (l := tabRefMay) (f := 136) (args := args) (m := mm) rfl
  have t2 := fun args mm => table_at (l := tabRefMay) (f := 43) (args := args) (m := mm) rfl
  refine fun_ok mixed hC Tryz.func96 rfl kpRefMay false rfl fun args m r h => ?_
  unfold mayAt at h
  split at h
  · rename_i cs
    split at h
    · rename_i x hx
      split at h
      · rename_i hop
        obtain rfl := unNd_row hx
        obtain ⟨op, a, b, c, k, u, n⟩ := x
        have hop := of_decide_eq_true hop
        simp only at hop
        simp only [Option.some.injEq] at h
        subst h
        refine ⟨Nat.le_of_ble_eq_true rfl, ?_⟩
        refine en ?_
        have fin : ∀ (e : Env) (m' : Mem) (z : Bool), Ev.get e 2 = .v (.bool z) → finMem m m' = m → (z = true ↔ mayN ⟨op, a, b, c, k, u, n⟩) → Leaves Tryz.prog false Tryz.f96 m (.v (.bool (decide (mayN ⟨op, a, b, c, k, u, n⟩))), m) .ret e m' := fun e m' z h1 h2 h3 => by
          have : z = decide (mayN ⟨op, a, b, c, k, u, n⟩) := by rw [Bool.eq_iff_iff, decide_eq_true_eq]; exact h3
          rw [← this]
          exact leaves_fin rfl h1 h2
        subst hop
        repeat' (first | refine gos1 (jn @t1 (jn @q_eq (jn @t2 @lm_eq))) ?_ | (refine ops_here ?_; (fail_if_success (refine ops_case (B := true) rfl rfl rfl ?_ ?_)); (fail_if_success (refine ops_case (B := false) rfl rfl rfl ?_ ?_)); refine ops_case rfl rfl rfl (fun hB => ?_) (fun hB => ?_) <;> rw [hB]) | (refine runs_here ?_; refine runs_cond rfl (fun hc => ?_) (fun hc => ?_) <;> first | (cases hc; done) | skip))
        all_goals exact fin _ _ _ rfl fin_push (by clear fin hx t1 t2 hC; simp only [Bool.not_eq_true', Bool.not_eq_false', Bool.not_true, Bool.not_false, Bool.and_true, Bool.and_eq_true, Bool.and_eq_false_iff, decide_eq_true_eq, decide_eq_false_iff_not, Bool.false_eq_true, reduceCtorEq, false_iff, true_iff, beq_iff_eq, bne_iff_ne, beq_eq_false_iff_ne, bne_eq_false_iff_eq, ne_eq, not_false_eq_true, not_true_eq_false, true_or, or_true, true_implies, false_implies, implies_true, and_self, true_and, false_and, or_false, false_or, and_true, and_false] at *; simp only [mayN, inQ, lenMay, not_false_eq_true, not_true_eq_false, true_or, or_true, true_implies, false_implies, implies_true, and_self, true_and, false_and, or_false, false_or, and_true, and_false] at *; omega)
      · cases h
    · cases h
  · cases h
end
section
theorem refMay_ok : FunOk Tryz.prog 96 mayG := may_all fun op => by
  rcases (by omega : op < 1 ∨ 9 < op ∨ op = 1 ∨ op = 2 ∨ op = 3 ∨ op = 4 ∨ op = 5 ∨ op = 6 ∨ op = 7 ∨ op = 8 ∨ op = 9) with h | h | h | h | h | h | h | h | h | h | h
  · exact ⟨_, decide_eq_true h, refMay_low⟩
  · exact ⟨_, decide_eq_true h, refMay_high⟩
  · exact ⟨_, decide_eq_true h, refMay_at1⟩
  · exact ⟨_, decide_eq_true h, refMay_at2⟩
  · exact ⟨_, decide_eq_true h, refMay_at3⟩
  · exact ⟨_, decide_eq_true h, refMay_at4⟩
  · exact ⟨_, decide_eq_true h, refMay_at5⟩
  · exact ⟨_, decide_eq_true h, refMay_at6⟩
  · exact ⟨_, decide_eq_true h, refMay_at7⟩
  · exact ⟨_, decide_eq_true h, refMay_at8⟩
  · exact ⟨_, decide_eq_true h, refMay_at9⟩
end
section
attribute [local irreducible] Next Inside Runs Ops table
attribute [local go_sem] szStr szInt Option.getD_some isNil loadStr loadInt rowsS_len rowsI_len rowsN_len evStr fldOp ldOp ldNode
theorem anyN_no {p : Nd → Bool} {l : List Nd} {i : Nat} (hi : i < l.length) (h : (l.take i).any p = false) (hp : p (l.getD i nd0) = false) : (l.take (i + 1)).any p = false := by
  rw [take_next (d := nd0) hi, List.any_append, h, List.any_cons, hp]
  rfl
theorem anyN_yes {p : Nd → Bool} {l : List Nd} {i : Nat} (hi : i < l.length) (hp : p (l.getD i nd0) = true) : l.any p = true :=
  List.any_eq_true.2 ⟨_, by simp [List.getD, List.getElem?_eq_getElem hi], hp⟩
def kpRefCheckT : Nat → Option (List Nat) := fun _ => some [0, 2, 3, 6, 9, 13, 21, 24]
attribute [go_sem] kpRefCheckT
def tabRefCheckT : List (FuncId × (List AV → Mem → Option (AV × Mem))) := [(95, wholeG), (96, mayG), (97, refDepthG)]
theorem refCheckT_ok : FunOk Tryz.prog 44 checkTG := by
  have hC := table_ok (P := Tryz.prog) (l := tabRefCheckT) (table_more refWhole_ok (table_more refMay_ok (table_more refDepth_ok table_nil)))
  have t1 := fun args mm => table_at (l := tabRefCheckT) (f := 95) (args := args) (m := mm) rfl
  have t2 := fun args mm => table_at (l := tabRefCheckT) (f := 96) (args := args) (m := mm) rfl
  have t3 := fun args mm => table_at (l := tabRefCheckT) (f := 97) (args := args) (m := mm) rfl
  refine fun_ok mixed hC Tryz.func44 rfl kpRefCheckT false rfl fun args m r h => ?_
  unfold checkTG at h
  split at h
  · rename_i g rows
    split at h
    · rename_i l hl0
      obtain rfl := unN_some hl0
      split at h
      · rename_i hlen
        simp only [Option.some.injEq] at h
        subst h
        refine ⟨Nat.le_of_ble_eq_true rfl, ?_⟩
        refine en ?_
        have f1 := fun mm => wholeG_eq (m := mm) (g := .no) hlen
        refine go0 ?_
        refine runs_cond rfl (fun hc => ?_) (fun hc => ?_)
        · have := of_decide_eq_true hc
          rw [show checkT l = 9 from if_pos (by omega)]
          refine go0 ?_
          exact leaves_v rfl rfl
        · have h64 := of_decide_eq_false hc
          have e : checkT l = if wholeB l = false ∨ l.any badN = true then 1 else if 32 < depthOf l then 7 else 0 := if_neg (by omega)
          cases hw : wholeB l with
          | false =>
            rw [hw] at f1
            have b1 : (!false) = true := rfl
            rw [e, if_pos (.inl hw)]
            refine go1 (jn @t1 (jn @f1 @b1)) ?_
            refine runs_cond rfl (fun hc => ?_) (fun hc => by cases hc)
            refine go0 ?_
            exact leaves_v rfl rfl
          | true =>
            rw [hw] at f1
            have b1 : (!true) = false := rfl
            refine go1 (jn @t1 (jn @f1 @b1)) ?_
            refine runs_cond rfl (fun hc => by cases hc) (fun hc => ?_)
            refine go0 ?_
            refine runs_loop (fun k e m' => ∃ (i : Nat) (x13 x21 : AV), i ≤ l.length ∧ (l.take i).any badN = false ∧ m = m' ∧ k = l.length - i ∧
              e = [(0, AV.lst g 7 (rowsN l)), (2, .v (.int .i64 0)), (3, .v (.int .i64 (i : Int))), (6, .v (.bool (decide ((l.length : Int) > 64)))), (9, .v (.bool false)), (13, x13), (21, x21), (24, .junk)])
              (k := l.length) ⟨0, _, _, Nat.zero_le _, rfl, rfl, rfl, rfl⟩ ?_
            rintro k e m' ⟨i, x13, x21, hi, hno, rfl, rfl, rfl⟩
            refine go0 ?_
            refine runs_cond rfl (fun hc => ?_) (fun hc => ?_)
            · have hi1 : i < l.length := by have := of_decide_eq_true hc; omega
              have f2 := atNodes (g := g) (kk := .i64) hi1
              have f3 := mayG_eq (l.getD i nd0)
              refine go1 (jn @f2 (jn @t2 @f3)) ?_
              refine runs_cond rfl (fun hc => ?_) (fun hc => ?_)
              · rw [e, if_pos (.inr (anyN_yes (p := badN) hi1 hc))]
                refine go0 ?_
                exact leaves_v rfl rfl
              · have r6 := next_i64 (i := i) (by omega)
                refine go1 @r6 ?_
                exact ⟨l.length - (i + 1), by omega, i + 1, _, _, hi1, anyN_no (p := badN) hi1 hno hc, rfl, rfl, rfl⟩
            · have hi1 : i = l.length := by have := of_decide_eq_false hc; omega
              subst hi1
              rw [List.take_length] at hno
              have hn : ¬ (wholeB l = false ∨ l.any badN = true) := by rw [hw, hno]; simp
              rw [e, if_neg hn]
              have hd : depthOf l = depthD l 0 := by unfold depthOf; rw [hw]; rfl
              unfold wholeB at hw
              simp only [Bool.and_eq_true, decide_eq_true_eq] at hw
              have f4 := fun mm => refDepthG_eq (m := mm) (g := .no) (at_ := 0) hlen (Int.le_refl _) (by omega)
              rw [hd]
              refine go1 (jn @t3 @f4) ?_
              refine runs_cond rfl (fun hc => ?_) (fun hc => ?_)
              · have := of_decide_eq_true hc
                rw [if_pos (by omega)]
                refine go0 ?_
                exact leaves_v rfl rfl
              · have := of_decide_eq_false hc
                rw [if_neg (by omega)]
                refine go0 ?_
                exact leaves_v rfl rfl
      · cases h
    · cases h
  · cases h
end
section
attribute [local irreducible] Next Inside Runs Ops table
attribute [local go_sem] szStr szInt Option.getD_some isNil evStr iv loadStr loadInt rowsS_len rowsGs_len rowsPh_len mapRc cellsRc newRc mkInts1 mkInts2 mkInts3 fpRcStop fpRcStopOn fpRcStopMetric fpRcStopPatience fpRcStopDelta fpRcPlateau fpRcPlateauOn fpRcPlateauMetric fpRcPlateauFactor fpRcPlateauPatience fpRcPlateauCooldown fpRcPlateauFloor fpRcPlateauDelta fpRcKeep fpRcKeepOn fpRcKeepMetric fpRcKeepCount fpRcEma fpRcEmaOn fpRcEmaDecay fpRcSwa fpRcSwaOn fpRcSwaFrom fpRcSwaFromU fpRcSwaEvery mk0Tp niTp eqTp' mk0Pt niPt eqPt' mk0Kp niKp eqKp' mk0Em niEm eqEm' mk0Sw niSw eqSw'
theorem mkInts4 {a b c d : Int} : evBuildSlice Tryz.prog 77 4 [(0, .v (.int .i64 a)), (1, .v (.int .i64 b)), (2, .v (.int .i64 c)), (3, .v (.int .i64 d))] = some (.lst .full 1 [[.v (.int .i64 a)], [.v (.int .i64 b)], [.v (.int .i64 c)], [.v (.int .i64 d)]]) := build_rows appInts rfl rfl (by decide)
attribute [local go_sem] mkInts4
theorem notnot (a : Bool) : (!(!a || false)) = a := by cases a <;> rfl
theorem counts1 (a : Int) (m : Mem) : rcountsG [.lst .no 1 [[.v (.int .i64 a)]]] m = some (.v (.bool (countB a)), m) := by
  have := rcountsG_at (m := m) (g := .no) (l := [a]) (Nat.le_of_ble_eq_true rfl)
  rw [show (!([a].any rcountsNot)) = countB a from notnot _] at this
  exact this
theorem values1 (a : Int) (m : Mem) : rvaluesG [.lst .no 1 [[.v (.int .i64 a)]]] m = some (.v (.bool (valueB a)), m) := by
  have := rvaluesG_at (m := m) (g := .no) (l := [a]) (Nat.le_of_ble_eq_true rfl)
  rw [show (!([a].any rvaluesNot)) = valueB a from notnot _] at this
  exact this
theorem counts2 (a b : Int) (m : Mem) : rcountsG [.lst .no 1 [[.v (.int .i64 a)], [.v (.int .i64 b)]]] m = some (.v (.bool (countB a && countB b)), m) := by
  have := rcountsG_at (m := m) (g := .no) (l := [a, b]) (Nat.le_of_ble_eq_true rfl)
  rw [show (!([a, b].any rcountsNot)) = (countB a && countB b) from by show (!(!countB a || (!countB b || false))) = _; cases countB a <;> cases countB b <;> rfl] at this
  exact this
theorem values3 (a b c : Int) (m : Mem) : rvaluesG [.lst .no 1 [[.v (.int .i64 a)], [.v (.int .i64 b)], [.v (.int .i64 c)]]] m = some (.v (.bool (valueB a && (valueB b && valueB c))), m) := by
  have := rvaluesG_at (m := m) (g := .no) (l := [a, b, c]) (Nat.le_of_ble_eq_true rfl)
  rw [show (!([a, b, c].any rvaluesNot)) = (valueB a && (valueB b && valueB c)) from by show (!(!valueB a || (!valueB b || (!valueB c || false)))) = _; cases valueB a <;> cases valueB b <;> cases valueB c <;> rfl] at this
  exact this
theorem counts4 (a b c d : Int) (m : Mem) : rcountsG [.lst .no 1 [[.v (.int .i64 a)], [.v (.int .i64 b)], [.v (.int .i64 c)], [.v (.int .i64 d)]]] m = some (.v (.bool (countB a && (countB b && (countB c && countB d)))), m) := by
  have := rcountsG_at (m := m) (g := .no) (l := [a, b, c, d]) (Nat.le_of_ble_eq_true rfl)
  rw [show (!([a, b, c, d].any rcountsNot)) = (countB a && (countB b && (countB c && countB d))) from by show (!(!countB a || (!countB b || (!countB c || (!countB d || false))))) = _; cases countB a <;> cases countB b <;> cases countB c <;> cases countB d <;> rfl] at this
  exact this
def rendsG : List AV → Mem → Option (AV × Mem)
  | [.agg cs], m =>
    match unRc cs with
    | some R => if R.fit then some (.v (.bool R.endsMay), m) else none
    | none => none
  | _, _ => none
theorem rendsG_at {R : Rc} {m : Mem} (h : R.fit) : rendsG [.agg R.row] m = some (.v (.bool R.endsMay), m) := by
  simp only [rendsG, unRc_row]
  rw [if_pos h]
def kpEnds18 : Nat → Option (List Nat) := fun
  | 0 => some [1]
  | 1 => some [1, 28]
  | 2 => some [2]
  | 3 => some [1, 63]
  | 4 => some [2]
  | 5 => some [1, 81]
  | 6 => some [2]
  | 7 => some [1, 119]
  | 8 => some [2]
  | 9 => some [2]
  | _ => none
attribute [go_sem] kpEnds18
def tab_ends18_ok : List (FuncId × (List AV → Mem → Option (AV × Mem))) := [(42, isNameG), (40, rcountsG), (98, rvaluesG), (43, lenMayG)]
theorem ends18_ok : FunOk Tryz.prog 45 rendsG := by
  have hC := table_ok (P := Tryz.prog) (l := tab_ends18_ok) (table_more refIs_ok (table_more rcounts_ok (table_more rvalues_ok (table_more refLenMay_ok table_nil))))
  have t1 := fun args mm => table_at (l := tab_ends18_ok) (f := 42) (args := args) (m := mm) rfl
  have t2 := fun args mm => table_at (l := tab_ends18_ok) (f := 40) (args := args) (m := mm) rfl
  have t3 := fun args mm => table_at (l := tab_ends18_ok) (f := 98) (args := args) (m := mm) rfl
  have t4 := fun args mm => table_at (l := tab_ends18_ok) (f := 43) (args := args) (m := mm) rfl
  refine fun_ok mixed hC Tryz.func45 rfl kpEnds18 false rfl fun args m r h => ?_
  unfold rendsG at h
  split at h
  · rename_i cs
    split at h
    · rename_i R hR
      obtain rfl := unRc_some hR
      split at h
      · rename_i hfit
        simp only [Option.some.injEq] at h
        subst h
        refine ⟨Nat.le_of_ble_eq_true rfl, ?_⟩
        refine en ?_
        obtain ⟨_, _, _, _, hs1, hs2, hs3⟩ := hfit
        have hA := above_push (cs := R.row) (above_self m)
        have hv : (m.push R.row).var m.vars.length = some R.row := push_var
        have nr := newRc (m := m) (x := R)
        generalize m.push R.row = m1 at hA hv nr
        have fin : ∀ (e : Env) (b : Bool), Ev.get e 2 = .v (.bool b) → R.endsMay = b → Leaves Tryz.prog false Tryz.f45 m (.v (.bool R.endsMay), m) .ret e m1 := fun e b h1 h2 => by rw [h2]; exact leaves_fin rfl h1 (above_fin hA)
        have lc : ∀ u n mm, lenMayG [.agg [.v (.int .i64 u), .v (.int .i64 n)]] mm = some (.v (.bool (decide (lenMay u n))), mm) := fun _ _ _ => rfl
        have i1 := fun mm => isNameG_eq (s := R.stopMetric) (m := mm) hs1
        have i2 := fun mm => isNameG_eq (s := R.plateauMetric) (m := mm) hs2
        have i3 := fun mm => isNameG_eq (s := R.keepMetric) (m := mm) hs3
        have a1 := lpRcStopOn hv
        have a2 := lpRcStopMetric hv
        have a3 := lpRcStopPatience hv
        have a4 := lpRcStopDelta hv
        have a5 : evLoad Tryz.prog m1 25 (.ptr m.vars.length 8) = some (.agg R.tp.row) := lpRcStop hv
        have b1 := lpRcPlateauOn hv
        have b2 := lpRcPlateauMetric hv
        have b3 := lpRcPlateauFactor hv
        have b4 := lpRcPlateauPatience hv
        have b5 := lpRcPlateauCooldown hv
        have b6 := lpRcPlateauFloor hv
        have b7 := lpRcPlateauDelta hv
        have b8 : evLoad Tryz.prog m1 27 (.ptr m.vars.length 14) = some (.agg R.pt.row) := lpRcPlateau hv
        have c1 := lpRcKeepOn hv
        have c2 := lpRcKeepMetric hv
        have c3 := lpRcKeepCount hv
        have c4 : evLoad Tryz.prog m1 29 (.ptr m.vars.length 22) = some (.agg R.kp.row) := lpRcKeep hv
        have d1 := lpRcEmaOn hv
        have d2 := lpRcEmaDecay hv
        have d3 : evLoad Tryz.prog m1 31 (.ptr m.vars.length 26) = some (.agg R.em.row) := lpRcEma hv
        have f1 := lpRcSwaOn hv
        have f2 := lpRcSwaFrom hv
        have f3 := lpRcSwaFromU hv
        have f4 := lpRcSwaEvery hv
        have f5 : evLoad Tryz.prog m1 35 (.ptr m.vars.length 28) = some (.agg R.sw.row) := lpRcSwa hv
        refine go1 @nr ?_
        refine ops_rcut [(1, .ptr m.vars.length 0), (28, .v (.bool R.tp.bad))] m1 ?_ ?_
        · repeat' (first | refine gos1 (jn @a1 (jn @a2 (jn @a3 (jn @a4 (jn @t1 (jn @t2 (jn @t3 (jn @i1 (jn @counts1 @values1))))))))) ?_ | (refine ops_here ?_; (fail_if_success (refine ops_case (B := true) rfl rfl rfl ?_ ?_)); (fail_if_success (refine ops_case (B := false) rfl rfl rfl ?_ ?_)); refine ops_case rfl rfl rfl (fun hB => ?_) (fun hB => ?_) <;> rw [hB]) | (refine runs_here ?_; refine runs_cond rfl (fun hc => ?_) (fun hc => ?_) <;> first | (cases hc; done) | skip))
          all_goals refine ⟨?_, rfl⟩
          all_goals simp_all [Tp.bad, Rc.tp]
        repeat (first | refine next_normal ?_ | refine runs_seq ?_)
        refine runs_cond rfl (fun hc => ?_) (fun hc => ?_)
        · have e1 : R.endsMay = false := by simp [Rc.endsMay, Tp.may, hc]
          refine go0 ?_
          exact fin _ _ rfl e1
        have z1 := hc
        refine go0 ?_
        refine ops_rcut [(1, .ptr m.vars.length 0), (63, .v (.bool R.pt.bad))] m1 ?_ ?_
        · repeat' (first | refine gos1 (jn @b1 (jn @b2 (jn @b3 (jn @b4 (jn @b5 (jn @b6 (jn @b7 (jn @t1 (jn @t2 (jn @t3 (jn @i2 (jn @counts2 @values3)))))))))))) ?_ | (refine ops_here ?_; (fail_if_success (refine ops_case (B := true) rfl rfl rfl ?_ ?_)); (fail_if_success (refine ops_case (B := false) rfl rfl rfl ?_ ?_)); refine ops_case rfl rfl rfl (fun hB => ?_) (fun hB => ?_) <;> rw [hB]) | (refine runs_here ?_; refine runs_cond rfl (fun hc => ?_) (fun hc => ?_) <;> first | (cases hc; done) | skip))
          all_goals refine ⟨?_, rfl⟩
          all_goals simp_all [Pt.bad, Rc.pt]
          all_goals (generalize countB R.plateauPatience = x1 at *; generalize countB R.plateauCooldown = x2 at *; generalize valueB R.plateauFactor = x3 at *; generalize valueB R.plateauFloor = x4 at *; generalize valueB R.plateauDelta = x5 at *; revert x1 x2 x3 x4 x5; decide)
        repeat (first | refine next_normal ?_ | refine runs_seq ?_)
        refine runs_cond rfl (fun hc => ?_) (fun hc => ?_)
        · have e1 : R.endsMay = false := by simp [Rc.endsMay, Pt.may, hc]
          refine go0 ?_
          exact fin _ _ rfl e1
        have z2 := hc
        refine go0 ?_
        refine ops_rcut [(1, .ptr m.vars.length 0), (81, .v (.bool R.kp.bad))] m1 ?_ ?_
        · repeat' (first | refine gos1 (jn @c1 (jn @c2 (jn @c3 (jn @t1 (jn @t2 (jn @t3 (jn @i3 @counts1))))))) ?_ | (refine ops_here ?_; (fail_if_success (refine ops_case (B := true) rfl rfl rfl ?_ ?_)); (fail_if_success (refine ops_case (B := false) rfl rfl rfl ?_ ?_)); refine ops_case rfl rfl rfl (fun hB => ?_) (fun hB => ?_) <;> rw [hB]) | (refine runs_here ?_; refine runs_cond rfl (fun hc => ?_) (fun hc => ?_) <;> first | (cases hc; done) | skip))
          all_goals refine ⟨?_, rfl⟩
          all_goals simp_all [Kp.bad, Rc.kp]
        repeat (first | refine next_normal ?_ | refine runs_seq ?_)
        refine runs_cond rfl (fun hc => ?_) (fun hc => ?_)
        · have e1 : R.endsMay = false := by simp [Rc.endsMay, Kp.may, hc]
          refine go0 ?_
          exact fin _ _ rfl e1
        have z3 := hc
        refine go0 ?_
        refine ops_rcut [(1, .ptr m.vars.length 0), (119, .v (.bool (R.em.bad || R.sw.bad)))] m1 ?_ ?_
        · repeat' (first | refine gos1 (jn @d1 (jn @d2 (jn @t1 (jn @t2 (jn @t3 (jn @t4 (jn @counts1 (jn @values1 (jn @f1 (jn @f2 (jn @f3 (jn @f4 @lc)))))))))))) ?_ | (refine ops_here ?_; (fail_if_success (refine ops_case (B := true) rfl rfl rfl ?_ ?_)); (fail_if_success (refine ops_case (B := false) rfl rfl rfl ?_ ?_)); refine ops_case rfl rfl rfl (fun hB => ?_) (fun hB => ?_) <;> rw [hB]) | (refine runs_here ?_; refine runs_cond rfl (fun hc => ?_) (fun hc => ?_) <;> first | (cases hc; done) | skip))
          all_goals refine ⟨?_, rfl⟩
          all_goals simp_all [Em.bad, Rc.em, Sw.bad, Rc.sw]
        repeat (first | refine next_normal ?_ | refine runs_seq ?_)
        refine runs_cond rfl (fun hc => ?_) (fun hc => ?_)
        · have e1 : R.endsMay = false := by
            simp only [Rc.endsMay, Em.may, Sw.may]
            revert hc
            cases R.em.bad <;> cases R.sw.bad <;> simp
          refine go0 ?_
          exact fin _ _ rfl e1
        have z4 := hc
        obtain ⟨z4, z5⟩ := Bool.or_eq_false_iff.1 z4
        have eE : R.endsMay = ((R.stopOn || tpEq R.tp tp0) && ((R.plateauOn || ptEq R.pt pt0) && ((R.keepOn || kpEq R.kp kp0) && ((R.emaOn || emEq R.em em0) && (R.swaOn || swEq R.sw sw0))))) := by
          unfold Rc.endsMay Tp.may Pt.may Kp.may Em.may Sw.may
          rw [z1, z2, z3, z4, z5]
          rfl
        repeat' (first | refine gos1 (jn @a1 (jn @a5 (jn @b1 (jn @b8 (jn @c1 (jn @c4 (jn @d1 (jn @d3 (jn @f1 @f5))))))))) ?_ | (refine ops_here ?_; (fail_if_success (refine ops_case (B := true) rfl rfl rfl ?_ ?_)); (fail_if_success (refine ops_case (B := false) rfl rfl rfl ?_ ?_)); refine ops_case rfl rfl rfl (fun hB => ?_) (fun hB => ?_) <;> rw [hB]) | (refine runs_here ?_; refine runs_cond rfl (fun hc => ?_) (fun hc => ?_) <;> first | (cases hc; done) | skip))
        all_goals refine fin _ _ rfl (eE.trans ?_)
        all_goals simp_all
      · cases h
    · cases h
  · cases h
end
section
attribute [local irreducible] Next Inside Runs Ops table
attribute [local go_sem] szStr szInt Option.getD_some isNil evStr iv loadStr loadInt rowsS_len rowsGs_len rowsPh_len rowsN_len mapRc mapPh mapGs cellsRc newRc cellsPh cellsGs ldPh ldGs zrPh zoPh znPh zsPh zrGs zoGs znGs zsGs mkInts4 fpRcName fpRcSteps fpRcEpoch fpRcWeights fpRcEval fpRcMetrics fpRcGroups fpRcPhases fpPhName fpPhLen fpPhFrozen fpPhSets fpGsGroup fpGsParam fpGsNodes
def Rc.lite (R : Rc) : Prop := R.fit ∧ R.metrics.length ≤ 1000 ∧ R.groups.length ≤ 1000 ∧ R.phases.length ≤ 1000 ∧ ∀ p ∈ R.phases, p.frozen.length ≤ 1000 ∧ p.sets.length ≤ 1000
instance (R : Rc) : Decidable R.lite := by unfold Rc.lite; exact inferInstance
def mayBG : List AV → Mem → Option (AV × Mem)
  | [.agg cs], m =>
    match unRc cs with
    | some R => if R.lite then some (.v (.bool R.may), m) else none
    | none => none
  | _, _ => none
theorem mayBG_at {R : Rc} {m : Mem} (h : R.lite) : mayBG [.agg R.row] m = some (.v (.bool R.may), m) := by
  simp only [mayBG, unRc_row]
  rw [if_pos h]
def phHead (p : Ph) : Bool := !isName p.name || (!decide (lenMay p.lenU p.lenN) || (!namedB p.frozen 8 || decide ((p.sets.length : Int) > 24)))
theorem phNot_head (p : Ph) : phNot p = (phHead p || p.sets.any setNot) := by
  unfold phNot phMay phHead
  rw [show decide ((p.sets.length : Int) > 24) = !decide ((p.sets.length : Int) ≤ 24) from by rw [Bool.eq_iff_iff]; simp]
  cases isName p.name <;> cases decide (lenMay p.lenU p.lenN) <;> cases namedB p.frozen 8 <;> cases decide ((p.sets.length : Int) ≤ 24) <;> cases p.sets.any setNot <;> rfl
theorem setNot_ops (s : Gs) : setNot s = (!isName s.group || (decide (s.param < 0) || (decide (s.param > 2) || (checkT s.nodes != 0)))) := by
  unfold setNot setMay
  rw [show decide (s.param < 0) = !decide (0 ≤ s.param) from by rw [Bool.eq_iff_iff]; simp]
  rw [show decide (s.param > 2) = !decide (s.param < 3) from by rw [Bool.eq_iff_iff]; simp only [decide_eq_true_eq, Bool.not_eq_true', decide_eq_false_iff_not]; omega]
  rw [show (checkT s.nodes != 0) = !(checkT s.nodes == 0) from rfl]
  cases isName s.group <;> cases decide (0 ≤ s.param) <;> cases decide (s.param < 3) <;> cases (checkT s.nodes == 0) <;> rfl
theorem may_head {R : Rc} : R.may = (!(R.headBad || (R.listBad || decide ((R.phases.length : Int) > 16))) && (!(R.phases.any phNot) && R.endsMay)) := by
  unfold Rc.may Rc.phBad
  cases R.headBad <;> cases R.listBad <;> cases decide ((R.phases.length : Int) > 16) <;> cases R.phases.any phNot <;> cases R.endsMay <;> rfl
def kpMay18 : Nat → Option (List Nat) := fun
  | 0 => some [1]
  | 1 => some [1, 47]
  | 2 => some [2]
  | 3 => some [1, 3]
  | 4 => some [1, 3, 52]
  | 5 => some [1, 3]
  | 6 => some [1, 3, 4]
  | 7 => some [1, 3, 4, 81]
  | 8 => some [2]
  | 9 => some [1, 3, 4, 5]
  | 10 => some [1, 3, 4, 5, 86]
  | 11 => some [1, 3, 4, 5]
  | 12 => some [1, 3, 4, 5, 6]
  | 13 => some [1, 3, 4, 5, 113]
  | 14 => some [2]
  | 15 => some [2]
  | _ => none
attribute [go_sem] kpMay18
def tab_may18_ok : List (FuncId × (List AV → Mem → Option (AV × Mem))) := [(40, rcountsG), (41, rnamedG), (42, isNameG), (43, lenMayG), (44, checkTG), (45, rendsG)]
theorem may18_ok : FunOk Tryz.prog 14 mayBG := by
  have hC := table_ok (P := Tryz.prog) (l := tab_may18_ok) (table_more rcounts_ok (table_more rnamed_ok (table_more refIs_ok (table_more refLenMay_ok (table_more refCheckT_ok (table_more ends18_ok table_nil))))))
  have t1 := fun args mm => table_at (l := tab_may18_ok) (f := 40) (args := args) (m := mm) rfl
  have t2 := fun args mm => table_at (l := tab_may18_ok) (f := 41) (args := args) (m := mm) rfl
  have t3 := fun args mm => table_at (l := tab_may18_ok) (f := 42) (args := args) (m := mm) rfl
  have t4 := fun args mm => table_at (l := tab_may18_ok) (f := 43) (args := args) (m := mm) rfl
  have t5 := fun args mm => table_at (l := tab_may18_ok) (f := 44) (args := args) (m := mm) rfl
  have t6 := fun args mm => table_at (l := tab_may18_ok) (f := 45) (args := args) (m := mm) rfl
  refine fun_ok mixed hC Tryz.func14 rfl kpMay18 false rfl fun args m r h => ?_
  unfold mayBG at h
  split at h
  · rename_i cs
    split at h
    · rename_i R hR
      obtain rfl := unRc_some hR
      split at h
      · rename_i hl
        simp only [Option.some.injEq] at h
        subst h
        refine ⟨Nat.le_of_ble_eq_true rfl, ?_⟩
        refine en ?_
        obtain ⟨hfit, hM, hG, hP, hph⟩ := hl
        have hA := above_push (cs := R.row) (above_self m)
        have hv : (m.push R.row).var m.vars.length = some R.row := push_var
        have nr := newRc (m := m) (x := R)
        generalize m.push R.row = m1 at hA hv nr
        have fin : ∀ (e : Env) (m' : Mem) (b : Bool), Above m m' → Ev.get e 2 = .v (.bool b) → R.may = b → Leaves Tryz.prog false Tryz.f14 m (.v (.bool R.may), m) .ret e m' := fun e m' b hA' h1 h2 => by rw [h2]; exact leaves_fin rfl h1 (above_fin hA')
        have lc : ∀ u n mm, lenMayG [.agg [.v (.int .i64 u), .v (.int .i64 n)]] mm = some (.v (.bool (decide (lenMay u n))), mm) := fun _ _ _ => rfl
        have n1 := fun mm => rnamedG_at (m := mm) (g := .no) (l := R.metrics) (n := 4) ⟨hM, hfit.2.1.2⟩
        have n2 := fun mm => rnamedG_at (m := mm) (g := .no) (l := R.groups) (n := 8) ⟨hG, hfit.2.2.1.2⟩
        have a1 := lpRcName hv
        have a2 := lpRcSteps hv
        have a3 := lpRcEpoch hv
        have a4 := lpRcWeights hv
        have a5 := lpRcEval hv
        have a6 := lpRcMetrics hv
        have a7 := lpRcGroups hv
        have a8 := lpRcPhases hv
        have d0 : decide ((R.groups.length : Int) < 1) = decide (R.groups.length = 0) := by rw [Bool.eq_iff_iff]; simp only [decide_eq_true_eq]; omega
        refine go1 @nr ?_
        refine ops_rcut [(1, .ptr m.vars.length 0), (47, .v (.bool (R.headBad || (R.listBad || decide ((R.phases.length : Int) > 16)))))] m1 ?_ ?_
        · unfold Rc.headBad Rc.listBad
          generalize namedB R.metrics 4 = q1 at n1
          generalize namedB R.groups 8 = q2 at n2
          have c4 := counts4 R.steps R.epoch R.weights R.eval
          rw [show (!countB R.steps || (!countB R.epoch || (!countB R.weights || !countB R.eval))) = !(countB R.steps && (countB R.epoch && (countB R.weights && countB R.eval))) from by cases countB R.steps <;> cases countB R.epoch <;> cases countB R.weights <;> cases countB R.eval <;> rfl]
          generalize (countB R.steps && (countB R.epoch && (countB R.weights && countB R.eval))) = q3 at c4
          generalize decide (R.groups.length = 0) = q4 at d0
          repeat' (first | refine gos1 (jn @a1 (jn @a2 (jn @a3 (jn @a4 (jn @a5 (jn @a6 (jn @a7 (jn @a8 (jn @t1 (jn @t2 (jn @c4 (jn @n1 (jn @n2 @d0))))))))))))) ?_ | (refine ops_here ?_; (fail_if_success (refine ops_case (B := true) rfl rfl rfl ?_ ?_)); (fail_if_success (refine ops_case (B := false) rfl rfl rfl ?_ ?_)); refine ops_case rfl rfl rfl (fun hB => ?_) (fun hB => ?_) <;> rw [hB]) | (refine runs_here ?_; refine runs_cond rfl (fun hc => ?_) (fun hc => ?_) <;> first | (cases hc; done) | skip))
          all_goals refine ⟨?_, rfl⟩
          all_goals simp_all
        repeat (first | refine next_normal ?_ | refine runs_seq ?_)
        refine runs_cond rfl (fun hc => ?_) (fun hc => ?_)
        · have e1 : R.may = false := by rw [may_head, hc]; rfl
          refine go0 ?_
          exact fin _ _ _ hA rfl e1
        have z0 := hc
        refine go0 ?_
        refine runs_loop (fun k e m' => ∃ (i : Nat), i ≤ R.phases.length ∧ firstBy phNot (R.phases.drop i) i = firstBy phNot R.phases 0 ∧ Above m m' ∧ m'.var m.vars.length = some R.row ∧ k = R.phases.length - i ∧
          e = [(1, AV.ptr m.vars.length 0), (3, .v (.int .i64 (i : Int)))]) (k := R.phases.length) ⟨0, Nat.zero_le _, rfl, hA, hv, rfl, rfl⟩ ?_
        rintro k e m2 ⟨i, hi0, hf, hA2, hv2, rfl, rfl⟩
        have l1 := lpRcPhases hv2
        refine go1 @l1 ?_
        refine runs_cond rfl (fun hc => ?_) (fun hc => ?_)
        · have hi1 : i < R.phases.length := by have := of_decide_eq_true hc; omega
          have f1 := atPh (g := .no) (kk := .i64) hi1
          have hp1 := hph _ (phase_mem hi1)
          have hp2 := hfit.2.2.2.1.2 _ (phase_mem hi1)
          have hyes := fun hp => firstBy_yes (d := ph0) (p := phNot) hi1 hp
          have hno := fun hp => by_no (d := ph0) hi1 hp hf
          have r6 := next_i64 (i := i) (by omega)
          generalize R.phases.getD i ph0 = p at f1 hp1 hp2 hyes hno
          have z1 := zsPh (m := m2) (x := p)
          have hA3 := above_push (cs := p.row) hA2
          have hv3 := push_old (cs' := p.row) hv2
          have hp3 : (m2.push p.row).var m2.vars.length = some p.row := push_var
          generalize m2.push p.row = m3 at z1 hA3 hv3 hp3
          have bad : ∀ e m', Above m m' → Ev.get e 2 = .v (.bool false) → phNot p = true → Leaves Tryz.prog false Tryz.f14 m (.v (.bool R.may), m) .ret e m' := fun e m' hA' hg hb => fin e m' false hA' hg (by rw [may_head, hyes hb]; simp)
          refine go1 (jn @l1 (jn @f1 @z1)) ?_
          generalize m2.vars.length = n4 at hp3 ⊢
          have y1 := lpPhName hp3
          have y2 := lpPhLen hp3
          have y3 := lpPhFrozen hp3
          have y4 := lpPhSets hp3
          have j1 := fun mm => isNameG_eq (s := p.name) (m := mm) hp2.1
          have n3 := fun mm => rnamedG_at (m := mm) (g := .no) (l := p.frozen) (n := 8) ⟨hp1.1, hp2.2.2.1⟩
          refine ops_rcut [(1, .ptr m.vars.length 0), (3, .v (.int .i64 (i : Int))), (4, .ptr n4 0), (81, .v (.bool (phHead p)))] m3 ?_ ?_
          · unfold phHead
            generalize namedB p.frozen 8 = q1 at n3
            generalize isName p.name = q2 at j1
            repeat' (first | refine gos1 (jn @y1 (jn @y2 (jn @y3 (jn @y4 (jn @t2 (jn @t3 (jn @t4 (jn @j1 (jn @n3 @lc))))))))) ?_ | (refine ops_here ?_; (fail_if_success (refine ops_case (B := true) rfl rfl rfl ?_ ?_)); (fail_if_success (refine ops_case (B := false) rfl rfl rfl ?_ ?_)); refine ops_case rfl rfl rfl (fun hB => ?_) (fun hB => ?_) <;> rw [hB]) | (refine runs_here ?_; refine runs_cond rfl (fun hc => ?_) (fun hc => ?_) <;> first | (cases hc; done) | skip))
            all_goals refine ⟨?_, rfl⟩
            all_goals simp_all
          repeat (first | refine next_normal ?_ | refine runs_seq ?_)
          refine runs_cond rfl (fun hc => ?_) (fun hc => ?_)
          · refine go0 ?_
            exact bad _ _ hA3 rfl (by rw [phNot_head, hc]; rfl)
          have zh := hc
          refine go0 ?_
          refine runs_loop (fun k e m' => ∃ (j : Nat), j ≤ p.sets.length ∧ firstBy setNot (p.sets.drop j) j = firstBy setNot p.sets 0 ∧ Above m m' ∧ m'.var m.vars.length = some R.row ∧ m'.var n4 = some p.row ∧ k = p.sets.length - j ∧
            e = [(1, AV.ptr m.vars.length 0), (3, .v (.int .i64 (i : Int))), (4, .ptr n4 0), (5, .v (.int .i64 (j : Int)))]) (k := p.sets.length) ⟨0, Nat.zero_le _, rfl, hA3, hv3, hp3, rfl, rfl⟩ ?_
          rintro k e m4 ⟨j, hj0, hg, hA4, hv4, hp4, rfl, rfl⟩
          have l2 := lpPhSets hp4
          refine go1 @l2 ?_
          refine runs_cond rfl (fun hc => ?_) (fun hc => ?_)
          · have hj1 : j < p.sets.length := by have := of_decide_eq_true hc; omega
            have f2 := atGs (g := .no) (kk := .i64) hj1
            have hs2 := hp2.2.2.2.2 _ (set_mem hj1)
            have syes := fun hp => firstBy_yes (d := gs0) (p := setNot) hj1 hp
            have sno := fun hp => by_no (d := gs0) hj1 hp hg
            have r7 := next_i64 (i := j) (by have := hp1.2; omega)
            generalize p.sets.getD j gs0 = s at f2 hs2 syes sno
            have z2 := zsGs (m := m4) (x := s)
            have hA5 := above_push (cs := s.row) hA4
            have hv5 := push_old (cs' := s.row) hv4
            have hp5 := push_old (cs' := s.row) hp4
            have hs5 : (m4.push s.row).var m4.vars.length = some s.row := push_var
            generalize m4.push s.row = m5 at z2 hA5 hv5 hp5 hs5
            refine go1 (jn @l2 (jn @f2 @z2)) ?_
            generalize m4.vars.length = n6 at hs5 ⊢
            have x1 := lpGsGroup hs5
            have x2 := lpGsParam hs5
            have x3 := lpGsNodes hs5
            have j2 := fun mm => isNameG_eq (s := s.group) (m := mm) hs2.1
            have c5 := fun mm => checkTG_eq (m := mm) (g := .no) hs2.2
            have hops := setNot_ops s
            refine ops_rcut [(1, .ptr m.vars.length 0), (3, .v (.int .i64 (i : Int))), (4, .ptr n4 0), (5, .v (.int .i64 (j : Int))), (113, .v (.bool (setNot s)))] m5 ?_ ?_
            · rw [hops]
              generalize isName s.group = q1 at j2
              generalize checkT s.nodes = q2 at c5
              repeat' (first | refine gos1 (jn @x1 (jn @x2 (jn @x3 (jn @t3 (jn @t5 (jn @j2 @c5)))))) ?_ | (refine ops_here ?_; (fail_if_success (refine ops_case (B := true) rfl rfl rfl ?_ ?_)); (fail_if_success (refine ops_case (B := false) rfl rfl rfl ?_ ?_)); refine ops_case rfl rfl rfl (fun hB => ?_) (fun hB => ?_) <;> rw [hB]) | (refine runs_here ?_; refine runs_cond rfl (fun hc => ?_) (fun hc => ?_) <;> first | (cases hc; done) | skip))
              all_goals refine ⟨?_, rfl⟩
              all_goals simp_all
            repeat (first | refine next_normal ?_ | refine runs_seq ?_)
            refine runs_cond rfl (fun hc => ?_) (fun hc => ?_)
            · refine go0 ?_
              exact bad _ _ hA5 rfl (by rw [phNot_head, syes hc, Bool.or_true])
            · refine go1 @r7 ?_
              exact ⟨p.sets.length - (j + 1), by omega, j + 1, hj1, sno hc, hA5, hv5, hp5, rfl, rfl⟩
          · have hj1 : j = p.sets.length := by have := of_decide_eq_false hc; omega
            subst hj1
            have hn := hno (by rw [phNot_head, zh, firstBy_no hg]; rfl)
            refine go1 @r6 ?_
            exact ⟨R.phases.length - (i + 1), by omega, i + 1, hi1, hn, hA4, hv4, rfl, rfl⟩
        · have hi1 : i = R.phases.length := by have := of_decide_eq_false hc; omega
          subst hi1
          have e1 : R.may = R.endsMay := by rw [may_head, z0, firstBy_no hf]; rfl
          have l0 := vrRc hv2
          have c6 := fun mm => rendsG_at (m := mm) hfit
          refine go1 (jn @l0 (jn @t6 @c6)) ?_
          exact fin _ _ _ hA2 rfl e1
      · cases h
    · cases h
  · cases h
end
section
attribute [local irreducible] Next Inside Runs Ops table
attribute [local go_sem] szStr szInt Option.getD_some isNil evStr iv mapRc cellsRc newRc rowsFl_len mkFl0
def kpOf21 : Nat → Option (List Nat) := fun
  | 0 => some [1]
  | 1 => some [1, 3]
  | 2 => some [1, 3, 4]
  | 3 => some [1, 3, 4, 7]
  | 4 => some [1, 3, 4]
  | 5 => some [1, 3, 4]
  | 6 => some [2]
  | _ => none
attribute [go_sem] kpOf21
/-! ### Sound -/
def allKept (R : Rc) : Nat → Bool
  | 0 => true
  | n + 1 => R.kept ((n + 1 : Nat) : Int) && allKept R n
theorem allKept_no {R : Rc} {i : Nat} (h0 : 1 ≤ i) (h : R.kept (i : Int) = false) : ∀ {n : Nat}, i ≤ n → allKept R n = false
  | 0, hn => by omega
  | n + 1, hn => by
    by_cases e : i = n + 1
    · subst e; rw [allKept, h]; rfl
    · rw [allKept, allKept_no h0 h (by omega), Bool.and_false]
theorem allKept_flaws (R : Rc) : ∀ n : Nat, ((((flawsTo R n).length : Nat) : Int) == 0) = allKept R n
  | 0 => rfl
  | n + 1 => by
    have hN : flawsTo R (n + 1) = flawsTo R n ++ brkL R ((n + 1 : Nat) : Int) := upto_next
    have ih := allKept_flaws R n
    have hk : R.kept ((n + 1 : Nat) : Int) = ((((brkL R ((n + 1 : Nat) : Int)).length : Nat) : Int) == 0) := rfl
    rw [allKept, hk, ← ih, hN, List.length_append, Bool.eq_iff_iff]
    simp only [Bool.and_eq_true, beq_iff_eq]
    omega
theorem sound_kept (R : Rc) : R.sound = (R.may && allKept R 19) := by
  unfold Rc.sound Rc.flaws
  cases R.may with
  | false => rfl
  | true => rw [if_pos rfl, allKept_flaws]
def rsoundG : List AV → Mem → Option (AV × Mem)
  | [.agg cs], m =>
    match unRc cs with
    | some R => if R.lite then some (.v (.bool R.sound), m) else none
    | none => none
  | _, _ => none
theorem rsoundG_at {R : Rc} {m : Mem} (h : R.lite) : rsoundG [.agg R.row] m = some (.v (.bool R.sound), m) := by
  simp only [rsoundG, unRc_row]
  rw [if_pos h]
def kpSound21 : Nat → Option (List Nat) := fun
  | 0 => some [1]
  | 1 => some [1, 6]
  | 2 => some [2]
  | 3 => some [1, 3]
  | 4 => some [1, 3, 8]
  | 5 => some [1, 3]
  | 6 => some [1, 3, 14]
  | 7 => some [2]
  | 8 => some [2]
  | _ => none
attribute [go_sem] kpSound21
def tab_sound21_ok : List (FuncId × (List AV → Mem → Option (AV × Mem))) := [(14, mayBG), (39, (keptRG true))]
theorem sound21_ok : FunOk Tryz.prog 13 rsoundG := by
  have hC := table_ok (P := Tryz.prog) (l := tab_sound21_ok) (table_more may18_ok (table_more kept20_1 table_nil))
  have t1 := fun args mm => table_at (l := tab_sound21_ok) (f := 14) (args := args) (m := mm) rfl
  have t2 := fun args mm => table_at (l := tab_sound21_ok) (f := 39) (args := args) (m := mm) rfl
  refine fun_ok mixed hC Tryz.func13 rfl kpSound21 false rfl fun args m r h => ?_
  unfold rsoundG at h
  split at h
  · rename_i cs
    split at h
    · rename_i R hR
      obtain rfl := unRc_some hR
      split at h
      · rename_i hlite
        simp only [Option.some.injEq] at h
        subst h
        refine ⟨Nat.le_of_ble_eq_true rfl, ?_⟩
        refine en ?_
        have hA := above_push (cs := R.row) (above_self m)
        have hv : (m.push R.row).var m.vars.length = some R.row := push_var
        have nr := newRc (m := m) (x := R)
        generalize m.push R.row = m1 at hA hv nr
        have l0 := vrRc hv
        have c1 := fun mm => mayBG_at (m := mm) hlite
        rw [sound_kept]
        cases hmay : R.may with
        | false =>
          rw [hmay] at c1
          refine go1 (jn @nr (jn @l0 (jn @t1 @c1))) ?_
          refine runs_cond rfl (fun hc => ?_) (fun hc => by cases hc)
          refine go0 ?_
          exact leaves_fin rfl rfl (above_fin hA)
        | true =>
          rw [hmay] at c1
          rw [Bool.true_and]
          refine go1 (jn @nr (jn @l0 (jn @t1 @c1))) ?_
          refine runs_cond rfl (fun hc => by cases hc) (fun hc => ?_)
          refine go0 ?_
          refine runs_loop (fun k e m' => ∃ (i : Nat), i ≤ 19 ∧ allKept R i = allKept R 19 ∧ m1 = m' ∧ k = 0 + i ∧
            e = [(1, AV.ptr m.vars.length 0), (3, .v (.int .i64 (i : Int)))]) (k := 19) ⟨19, Nat.le_refl _, rfl, rfl, rfl, rfl⟩ ?_
          rintro k e m' ⟨i, hi0, hf, rfl, rfl, rfl⟩
          refine go0 ?_
          refine runs_cond rfl (fun hc => ?_) (fun hc => ?_)
          · have hi1 : 1 ≤ i := by have := of_decide_eq_true hc; omega
            obtain ⟨j, rfl⟩ : ∃ j, i = j + 1 := ⟨i - 1, by omega⟩
            have c2 := fun mm => keptRG_at (m := mm) (R := R) (b := true) (rule := ((j + 1 : Nat) : Int)) hmay hlite.1 (by unfold isRule; omega) (.inl rfl)
            have r6 : IntKind.i64.wrap (((j + 1 : Nat) : Int) - 1) = (j : Int) := by rw [i64_wrap (by omega) (by omega)]; omega
            have hk : allKept R (j + 1) = (R.kept ((j + 1 : Nat) : Int) && allKept R j) := rfl
            cases hq : R.kept ((j + 1 : Nat) : Int) with
            | false =>
              rw [hq] at c2
              rw [allKept_no hi1 hq hi0]
              refine go1 (jn @l0 (jn @t2 @c2)) ?_
              refine runs_cond rfl (fun hc => ?_) (fun hc => by cases hc)
              refine go0 ?_
              exact leaves_fin rfl rfl (above_fin hA)
            | true =>
              rw [hq] at c2 hk
              rw [Bool.true_and] at hk
              refine go1 (jn @l0 (jn @t2 @c2)) ?_
              refine runs_cond rfl (fun hc => by cases hc) (fun hc => ?_)
              refine go1 @r6 ?_
              exact ⟨0 + j, by omega, j, by omega, by rw [← hk, hf], rfl, rfl, rfl⟩
          · have hi1 : i = 0 := by have := of_decide_eq_false hc; omega
            subst hi1
            rw [← hf]
            refine go0 ?_
            exact leaves_fin rfl rfl (above_fin hA)
      · cases h
    · cases h
  · cases h
end
section
attribute [local irreducible] Next Inside Runs Ops table
attribute [local go_sem] szStr szInt Option.getD_some isNil evStr iv loadInt rowsSp_len fpSpFrom_ fpSpTo_ feSpFrom_ feSpTo_ leSpFrom_ leSpTo_ ldSp newSp cellsSp mapSp List.cons_append
def spanHas (step : Int) (s : Sp) : Bool := decide (s.from_ ≤ step) && decide (step < s.to_)
def spanHasG : List AV → Mem → Option (AV × Mem)
  | [.agg cs, .ptr r 0], m =>
    match unSp cs, m.var r with
    | some s, some [.v (.int .i64 step)] => some (.v (.bool (spanHas step s)), m)
    | _, _ => none
  | _, _ => none
theorem lpInt1 {m : Mem} {r : Nat} {n : Int} (hv : m.var r = some [.v (.int .i64 n)]) : evLoad Tryz.prog m 3 (.ptr r 0) = some (.v (.int .i64 n)) := by
  unfold evLoad
  simp only [ptrCells, hv, Option.map_some, szInt, agInt]
  rfl
def kpSpanHas : Nat → Option (List Nat) := fun
  | 0 => some [1, 2]
  | 1 => some [3]
  | _ => none
attribute [go_sem] kpSpanHas
theorem spanHas_ok : FunOk Tryz.prog 51 spanHasG := by
  have hC := table_ok (P := Tryz.prog) (l := []) table_nil
  refine fun_ok mixed hC Tryz.func51 rfl kpSpanHas false rfl fun args m r h => ?_
  unfold spanHasG at h
  split at h
  · rename_i cs r0
    split at h
    · rename_i s step hs hv
      obtain rfl := unSp_some hs
      simp only [Option.some.injEq] at h
      subst h
      refine ⟨Nat.le_of_ble_eq_true rfl, ?_⟩
      refine en ?_
      have hp : (m.push s.row).var m.vars.length = some s.row := push_var
      have f1 := lpSpFrom_ hp
      have f2 := lpSpTo_ hp
      have f3 := lpInt1 (push_old (cs' := s.row) hv)
      have fin : ∀ (e : Env) (b : Bool), Ev.get e 3 = .v (.bool b) → b = spanHas step s → Leaves Tryz.prog false Tryz.f51 m (.v (.bool (spanHas step s)), m) .ret e (m.push s.row) := fun e b h1 h2 => by
        rw [← h2]; exact leaves_fin rfl h1 fin_push
      repeat' (first | refine gos1 (jn @f1 (jn @f2 @f3)) ?_ | (refine ops_here ?_; (fail_if_success (refine ops_case (B := true) rfl rfl rfl ?_ ?_)); (fail_if_success (refine ops_case (B := false) rfl rfl rfl ?_ ?_)); refine ops_case rfl rfl rfl (fun hB => ?_) (fun hB => ?_) <;> rw [hB]) | (refine runs_here ?_; refine runs_cond rfl (fun hc => ?_) (fun hc => ?_) <;> first | (cases hc; done) | skip))
      all_goals exact fin _ _ rfl (by first | (simp_all [spanHas]; done) | (simp_all [spanHas]; omega))
    · cases h
  · cases h
def spanFindG : List AV → Mem → Option (AV × Mem)
  | [.lst _ 2 rows, .fn (.func 51) [] [.ptr r 0]], m =>
    match unsSp rows, m.var r with
    | some l, some [.v (.int .i64 step)] => if l.length ≤ big40 then some (.v (.int .i64 (firstBy (spanHas step) l 0)), m) else none
    | _, _ => none
  | _, _ => none
def kpSpanFind : Nat → Option (List Nat) := fun
  | 0 => some [0, 1]
  | 1 => some [0, 1, 7, 8]
  | 2 => some [0, 1, 7, 8, 9]
  | 3 => some [0, 1, 5, 7, 8]
  | 4 => some [0, 1, 5, 7, 8, 16]
  | 5 => some [4]
  | 6 => some [0, 1, 7, 8]
  | 7 => some [4]
  | _ => none
attribute [go_sem] kpSpanFind
def tab_spanFind_ok : List (FuncId × (List AV → Mem → Option (AV × Mem))) := [(51, spanHasG)]
theorem spanFind_ok : FunOk Tryz.prog 50 spanFindG := by
  have hC := table_ok (P := Tryz.prog) (l := tab_spanFind_ok) (table_more spanHas_ok table_nil)
  have t1 := fun args mm => table_at (l := tab_spanFind_ok) (f := 51) (args := args) (m := mm) rfl
  refine fun_ok mixed hC Tryz.func50 rfl kpSpanFind false rfl fun args m r h => ?_
  unfold spanFindG at h
  split at h
  · rename_i g rows r0
    split at h
    · rename_i l step hl0 hv
      obtain rfl := unsSp_some hl0
      split at h
      · rename_i hlen
        simp only [Option.some.injEq] at h
        subst h
        unfold big40 at hlen
        refine ⟨Nat.le_of_ble_eq_true rfl, ?_⟩
        refine en ?_
        refine go0 ?_
        refine runs_loop (fun k e m' => ∃ (i : Nat), i ≤ l.length ∧ firstBy (spanHas step) (l.drop i) i = firstBy (spanHas step) l 0 ∧ m = m' ∧ k = l.length - i ∧
          e = [(0, AV.lst g 2 (rowsSp l)), (1, .fn (.func 51) [] [.ptr r0 0]), (7, .v (.int .i64 l.length)), (8, .v (.int .i64 (i : Int)))]) (k := l.length) ⟨0, Nat.zero_le _, rfl, rfl, rfl, rfl⟩ ?_
        rintro k e m' ⟨i, hi, hf, rfl, rfl, rfl⟩
        refine go0 ?_
        refine runs_cond rfl (fun hc => ?_) (fun hc => ?_)
        · have hi1 : i < l.length := by have := of_decide_eq_true hc; omega
          have f1 := atSp (g := g) (kk := .i64) hi1
          have f2 : spanHasG [.agg (l.getD i sp0).row, .ptr r0 0] m = some (.v (.bool (spanHas step (l.getD i sp0))), m) := by
            simp only [spanHasG, hv]
            rfl
          refine go1 (jn @f1 (jn @t1 @f2)) ?_
          refine runs_cond rfl (fun hc => ?_) (fun hc => ?_)
          · rw [by_yes hi1 hc hf]
            refine go0 ?_
            exact leaves_v rfl rfl
          · have r6 := next_i64 (i := i) (by omega)
            refine go1 @r6 ?_
            exact ⟨l.length - (i + 1), by omega, i + 1, hi1, by_no hi1 hc hf, rfl, rfl, rfl⟩
        · have hi1 : i = l.length := by have := of_decide_eq_false hc; omega
          subst hi1
          rw [by_end hf]
          refine go0 ?_
          exact leaves_v rfl rfl
      · cases h
    · cases h
  · cases h
def spanAtG : List AV → Mem → Option (AV × Mem)
  | [.lst _ 2 rows, .v (.int .i64 step)], m =>
    match unsSp rows with
    | some l => if l.length ≤ big40 then some (.v (.int .i64 (firstBy (spanHas step) l 0)), m) else none
    | none => none
  | _, _ => none
theorem spanAtG_eq {m : Mem} {g : Grow} {l : List Sp} {step : Int} (h : l.length ≤ big40) : spanAtG [.lst g 2 (rowsSp l), .v (.int .i64 step)] m = some (.v (.int .i64 (firstBy (spanHas step) l 0)), m) := by
  simp only [spanAtG, unsSp_rowsSp]
  rw [if_pos h]
def kpSpanAt : Nat → Option (List Nat) := fun
  | 0 => some [0, 3]
  | 1 => some [4]
  | _ => none
attribute [go_sem] kpSpanAt
theorem newInt1 {m : Mem} {n : Int} : newVar m m.vars.length [.v (.int .i64 n)] = some (m.push [.v (.int .i64 n)]) := newVar_push rfl
theorem cellsInt1 {n : Int} : cellsOf (.v (.int .i64 n)) = some [.v (.int .i64 n)] := rfl
attribute [local go_sem] newInt1 cellsInt1
def tab_spanAt_ok : List (FuncId × (List AV → Mem → Option (AV × Mem))) := [(50, spanFindG)]
theorem spanAt_ok : FunOk Tryz.prog 20 spanAtG := by
  have hC := table_ok (P := Tryz.prog) (l := tab_spanAt_ok) (table_more spanFind_ok table_nil)
  have t1 := fun args mm => table_at (l := tab_spanAt_ok) (f := 50) (args := args) (m := mm) rfl
  refine fun_ok mixed hC Tryz.func20 rfl kpSpanAt false rfl fun args m r h => ?_
  unfold spanAtG at h
  split at h
  · rename_i g rows step
    split at h
    · rename_i l hl0
      obtain rfl := unsSp_some hl0
      split at h
      · rename_i hlen
        simp only [Option.some.injEq] at h
        subst h
        refine ⟨Nat.le_of_ble_eq_true rfl, ?_⟩
        refine en ?_
        have f1 : spanFindG [.lst .no 2 (rowsSp l), .fn (.func 51) [] [.ptr m.vars.length 0]] (m.push [.v (.int .i64 step)]) = some (.v (.int .i64 (firstBy (spanHas step) l 0)), m.push [.v (.int .i64 step)]) := by
          simp only [spanFindG, unsSp_rowsSp, push_var]
          rw [if_pos hlen]
        refine go1 (jn @t1 @f1) ?_
        exact leaves_fin rfl rfl fin_push
      · cases h
    · cases h
  · cases h
end
end Go.Proofs.YtojaokhkbmiidaaGreat.Ev
