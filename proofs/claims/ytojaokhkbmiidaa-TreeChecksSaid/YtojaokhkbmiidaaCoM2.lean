/- Nodes: the program's test, some kinds. -/
import Derived.Test.YtojaokhkbmiidaaCoM
namespace Go.Proofs.Ytojaokhkbmiidaa.Ev
open Go Go.Proofs
set_option maxRecDepth 10000
set_option maxHeartbeats 16000000
set_option linter.unusedVariables false
set_option linter.unusedSimpArgs false
attribute [local irreducible] Next Inside Runs Ops table nrow
theorem may_at4 : FunOk Try.prog 40 (mayAt fun op => decide (op = 4)) := by
  have hC := table_ok (P := Try.prog) (l := tabMay) (table_more number_ok (table_more lasts_ok (table_more count_ok table_nil)))
  have t1 := fun args mm => table_at (l := tabMay) (f := 57) (args := args) (m := mm) rfl
  have t2 := fun args mm => table_at (l := tabMay) (f := 58) (args := args) (m := mm) rfl
  have t3 := fun args mm => table_at (l := tabMay) (f := 59) (args := args) (m := mm) rfl
  refine fun_ok mixed hC Try.func40 rfl kpMay false rfl fun args m r h => ?_
  unfold mayAt at h
  split at h
  · rename_i cs
    split at h
    · rename_i x hx
      split at h
      · rename_i hop
        obtain rfl := unNd_row hx
        obtain ⟨op, a, b, c, k, u, n⟩ := x
        have hop := of_decide_eq_true hop
        simp only at hop
        simp only [Option.some.injEq] at h
        subst h
        refine ⟨Nat.le_of_ble_eq_true rfl, ?_⟩
        simp only [entry, List.length_cons, List.length_nil, List.range, List.range.loop, List.zip_cons_cons, List.zip_nil_right]
        have fin : ∀ (e : Env) (m' : Mem) (z : Bool), Ev.get e 2 = .v (.bool z) → finMem m m' = m → (z = true ↔ mayN ⟨op, a, b, c, k, u, n⟩) → Leaves Try.prog false Try.f40 m (.v (.bool (decide (mayN ⟨op, a, b, c, k, u, n⟩))), m) .ret e m' := fun e m' z h1 h2 h3 => by
          have : z = decide (mayN ⟨op, a, b, c, k, u, n⟩) := by rw [Bool.eq_iff_iff, decide_eq_true_eq]; exact h3
          rw [← this]
          exact leaves_fin rfl h1 h2
        subst hop
        repeat' (first
          | (first | refine runs_seq ?_ | refine runs_block ?_ | refine next_normal ?_ | refine inside_normal ?_ | refine next_exit ?_ | refine inside_exit ?_ | refine inside_other (by decide) ?_ | refine next_ret ?_ | refine inside_ret ?_ | refine runs_ops_kept ?_ | refine runs_skip ?_ | refine runs_exit ?_ | refine runs_ret ?_ | ((first | refine' ops_op rfl rfl (by decide) ?_ ?_ ?_ | refine' ops_yes rfl rfl (by simp only [Ev.get, reduceIte, Nat.reduceEqDiff, szStr, szInt, Option.getD_some, isNil, evStr, loadOne, newNode, cellsNode, nf0, nf1, nf2, nf3, nf4, nf5, nh0, nh1, nh2, nh3, nh4, nh5, loadNodeLen, underInt, underLen, underNode, topNode, zeroNode, okNode, putNode, putC, putLen, mkKept, mkA, mkAB, mkAL, mkL, niNode, eqNode, Nat.zero_add, t1, q_eq, t2, ll_eq, t3]; first | done | rfl) rfl (by decide) ?_ ?_ ?_ | refine' ops_op0 rfl rfl ?_ ?_ ?_); rotate_left 2; (focus (simp only [evOp, opd, constAV, constCell, Ev.get, reduceIte, Nat.reduceEqDiff, reduceCtorEq, evBinN, nilCmp, evBin, evInt, evUn, evConvert, evBuiltin, evLen, evField, evPart, tStr, tInt, tElem, tArr, tBool, tAgg, tField, Try.underlying9, Try.underlying3, Try.underlying4, Try.underlying5, Try.underlying21, Try.underlying121, Try.underlying38, Try.underlying25, Try.underlying135, Try.underlying33, Try.underlying2, Try.underlying147, Try.underlying22, Try.underlying56, Try.underlying54, List.zipWith, Option.map_some, Option.map_none, List.length_cons, List.length_nil, ne_eq, Int.reduceEq, not_false_eq_true, and_self, and_true, true_and, szStr, szInt, Option.getD_some, isNil, evStr, loadOne, newNode, cellsNode, nf0, nf1, nf2, nf3, nf4, nf5, nh0, nh1, nh2, nh3, nh4, nh5, loadNodeLen, underInt, underLen, underNode, topNode, zeroNode, okNode, putNode, putC, putLen, mkKept, mkA, mkAB, mkAL, mkL, niNode, eqNode, Nat.zero_add, evCall, List.size_toArray, List.append_nil, List.nil_append, List.map_cons, List.map_nil, argAV, argCell, List.toList_toArray, fieldTy, t1, q_eq, t2, ll_eq, t3]; first | done | rfl)); exact (fun h => by first | rfl | (simp at h; done) | exact absurd (Bool.and_eq_true_iff.mp h).2 (by decide))) | refine ops_no rfl rfl (by simp only [Ev.get, reduceIte, Nat.reduceEqDiff, szStr, szInt, Option.getD_some, isNil, evStr, loadOne, newNode, cellsNode, nf0, nf1, nf2, nf3, nf4, nf5, nh0, nh1, nh2, nh3, nh4, nh5, loadNodeLen, underInt, underLen, underNode, topNode, zeroNode, okNode, putNode, putC, putLen, mkKept, mkA, mkAB, mkAL, mkL, niNode, eqNode, Nat.zero_add, t1, q_eq, t2, ll_eq, t3]; first | done | rfl) (by decide) rfl (by decide) ?_ | refine ops_off rfl rfl rfl rfl (by decide) ?_ | (refine ops_nil ?_; intro e2 h2; simp only [restr, kpMay, List.map_cons, List.map_nil, Ev.get, reduceIte, Nat.reduceEqDiff] at h2; subst h2))
          | (refine ops_here ?_; (fail_if_success (refine ops_case (B := true) rfl rfl rfl ?_ ?_)); (fail_if_success (refine ops_case (B := false) rfl rfl rfl ?_ ?_)); refine ops_case rfl rfl rfl (fun hB => ?_) (fun hB => ?_) <;> rw [hB])
          | (refine runs_here ?_; refine runs_cond rfl (fun hc => ?_) (fun hc => ?_) <;> first | (cases hc; done) | skip))
        all_goals exact fin _ _ _ rfl (by first | exact fin_push | exact fin_two) (by clear fin hx t1 t2 t3 hC; simp only [Bool.not_eq_true', Bool.not_eq_false', Bool.not_true, Bool.not_false, Bool.and_true, Bool.true_and, Bool.and_eq_true, Bool.and_eq_false_iff, decide_eq_true_eq, decide_eq_false_iff_not, Bool.false_eq_true, reduceCtorEq, false_iff, true_iff, beq_iff_eq, bne_iff_ne, beq_eq_false_iff_ne, bne_eq_false_iff_eq, ne_eq, not_false_eq_true, not_true_eq_false, true_or, or_true, true_implies, false_implies, implies_true, and_self, true_and, false_and, or_false, false_or, and_true, and_false] at *; simp only [mayN, inQ, lenMay, not_false_eq_true, not_true_eq_false, true_or, or_true, true_implies, false_implies, implies_true, and_self, true_and, false_and, or_false, false_or, and_true, and_false] at *; omega)
      · cases h
    · cases h
  · cases h
theorem may_at5 : FunOk Try.prog 40 (mayAt fun op => decide (op = 5)) := by
  have hC := table_ok (P := Try.prog) (l := tabMay) (table_more number_ok (table_more lasts_ok (table_more count_ok table_nil)))
  have t1 := fun args mm => table_at (l := tabMay) (f := 57) (args := args) (m := mm) rfl
  have t2 := fun args mm => table_at (l := tabMay) (f := 58) (args := args) (m := mm) rfl
  have t3 := fun args mm => table_at (l := tabMay) (f := 59) (args := args) (m := mm) rfl
  refine fun_ok mixed hC Try.func40 rfl kpMay false rfl fun args m r h => ?_
  unfold mayAt at h
  split at h
  · rename_i cs
    split at h
    · rename_i x hx
      split at h
      · rename_i hop
        obtain rfl := unNd_row hx
        obtain ⟨op, a, b, c, k, u, n⟩ := x
        have hop := of_decide_eq_true hop
        simp only at hop
        simp only [Option.some.injEq] at h
        subst h
        refine ⟨Nat.le_of_ble_eq_true rfl, ?_⟩
        simp only [entry, List.length_cons, List.length_nil, List.range, List.range.loop, List.zip_cons_cons, List.zip_nil_right]
        have fin : ∀ (e : Env) (m' : Mem) (z : Bool), Ev.get e 2 = .v (.bool z) → finMem m m' = m → (z = true ↔ mayN ⟨op, a, b, c, k, u, n⟩) → Leaves Try.prog false Try.f40 m (.v (.bool (decide (mayN ⟨op, a, b, c, k, u, n⟩))), m) .ret e m' := fun e m' z h1 h2 h3 => by
          have : z = decide (mayN ⟨op, a, b, c, k, u, n⟩) := by rw [Bool.eq_iff_iff, decide_eq_true_eq]; exact h3
          rw [← this]
          exact leaves_fin rfl h1 h2
        subst hop
        repeat' (first
          | (first | refine runs_seq ?_ | refine runs_block ?_ | refine next_normal ?_ | refine inside_normal ?_ | refine next_exit ?_ | refine inside_exit ?_ | refine inside_other (by decide) ?_ | refine next_ret ?_ | refine inside_ret ?_ | refine runs_ops_kept ?_ | refine runs_skip ?_ | refine runs_exit ?_ | refine runs_ret ?_ | ((first | refine' ops_op rfl rfl (by decide) ?_ ?_ ?_ | refine' ops_yes rfl rfl (by simp only [Ev.get, reduceIte, Nat.reduceEqDiff, szStr, szInt, Option.getD_some, isNil, evStr, loadOne, newNode, cellsNode, nf0, nf1, nf2, nf3, nf4, nf5, nh0, nh1, nh2, nh3, nh4, nh5, loadNodeLen, underInt, underLen, underNode, topNode, zeroNode, okNode, putNode, putC, putLen, mkKept, mkA, mkAB, mkAL, mkL, niNode, eqNode, Nat.zero_add, t1, q_eq, t2, ll_eq, t3]; first | done | rfl) rfl (by decide) ?_ ?_ ?_ | refine' ops_op0 rfl rfl ?_ ?_ ?_); rotate_left 2; (focus (simp only [evOp, opd, constAV, constCell, Ev.get, reduceIte, Nat.reduceEqDiff, reduceCtorEq, evBinN, nilCmp, evBin, evInt, evUn, evConvert, evBuiltin, evLen, evField, evPart, tStr, tInt, tElem, tArr, tBool, tAgg, tField, Try.underlying9, Try.underlying3, Try.underlying4, Try.underlying5, Try.underlying21, Try.underlying121, Try.underlying38, Try.underlying25, Try.underlying135, Try.underlying33, Try.underlying2, Try.underlying147, Try.underlying22, Try.underlying56, Try.underlying54, List.zipWith, Option.map_some, Option.map_none, List.length_cons, List.length_nil, ne_eq, Int.reduceEq, not_false_eq_true, and_self, and_true, true_and, szStr, szInt, Option.getD_some, isNil, evStr, loadOne, newNode, cellsNode, nf0, nf1, nf2, nf3, nf4, nf5, nh0, nh1, nh2, nh3, nh4, nh5, loadNodeLen, underInt, underLen, underNode, topNode, zeroNode, okNode, putNode, putC, putLen, mkKept, mkA, mkAB, mkAL, mkL, niNode, eqNode, Nat.zero_add, evCall, List.size_toArray, List.append_nil, List.nil_append, List.map_cons, List.map_nil, argAV, argCell, List.toList_toArray, fieldTy, t1, q_eq, t2, ll_eq, t3]; first | done | rfl)); exact (fun h => by first | rfl | (simp at h; done) | exact absurd (Bool.and_eq_true_iff.mp h).2 (by decide))) | refine ops_no rfl rfl (by simp only [Ev.get, reduceIte, Nat.reduceEqDiff, szStr, szInt, Option.getD_some, isNil, evStr, loadOne, newNode, cellsNode, nf0, nf1, nf2, nf3, nf4, nf5, nh0, nh1, nh2, nh3, nh4, nh5, loadNodeLen, underInt, underLen, underNode, topNode, zeroNode, okNode, putNode, putC, putLen, mkKept, mkA, mkAB, mkAL, mkL, niNode, eqNode, Nat.zero_add, t1, q_eq, t2, ll_eq, t3]; first | done | rfl) (by decide) rfl (by decide) ?_ | refine ops_off rfl rfl rfl rfl (by decide) ?_ | (refine ops_nil ?_; intro e2 h2; simp only [restr, kpMay, List.map_cons, List.map_nil, Ev.get, reduceIte, Nat.reduceEqDiff] at h2; subst h2))
          | (refine ops_here ?_; (fail_if_success (refine ops_case (B := true) rfl rfl rfl ?_ ?_)); (fail_if_success (refine ops_case (B := false) rfl rfl rfl ?_ ?_)); refine ops_case rfl rfl rfl (fun hB => ?_) (fun hB => ?_) <;> rw [hB])
          | (refine runs_here ?_; refine runs_cond rfl (fun hc => ?_) (fun hc => ?_) <;> first | (cases hc; done) | skip))
        all_goals exact fin _ _ _ rfl (by first | exact fin_push | exact fin_two) (by clear fin hx t1 t2 t3 hC; simp only [Bool.not_eq_true', Bool.not_eq_false', Bool.not_true, Bool.not_false, Bool.and_true, Bool.true_and, Bool.and_eq_true, Bool.and_eq_false_iff, decide_eq_true_eq, decide_eq_false_iff_not, Bool.false_eq_true, reduceCtorEq, false_iff, true_iff, beq_iff_eq, bne_iff_ne, beq_eq_false_iff_ne, bne_eq_false_iff_eq, ne_eq, not_false_eq_true, not_true_eq_false, true_or, or_true, true_implies, false_implies, implies_true, and_self, true_and, false_and, or_false, false_or, and_true, and_false] at *; simp only [mayN, inQ, lenMay, not_false_eq_true, not_true_eq_false, true_or, or_true, true_implies, false_implies, implies_true, and_self, true_and, false_and, or_false, false_or, and_true, and_false] at *; omega)
      · cases h
    · cases h
  · cases h
end Go.Proofs.Ytojaokhkbmiidaa.Ev
