/- Names: which texts are names. -/
import Derived.Test.YtojaokhkbmiidaaGreatMbhmf1
import Derived.Test.YtojaokhkbmiidaaGreatMa2
namespace Go.Proofs.YtojaokhkbmiidaaGreat.Ev
open Go Go.Proofs
set_option maxRecDepth 10000
set_option linter.unusedVariables false
set_option linter.unusedSimpArgs false
attribute [local irreducible] Next Inside Runs Ops table XRuns XOps XNext XInside
/-! ### letters -/
def letterB (c : Int) (first : Bool) : Bool := (decide (97 ≤ c) && decide (c ≤ 122)) || (!first && ((decide (48 ≤ c) && decide (c ≤ 57)) || decide (c = 95)))
def letterG : List AV → Mem → Option (AV × Mem)
  | [.v (.int .i32 c), .v (.bool f)], m => some (.v (.bool (letterB c f)), m)
  | _, _ => none
def kpLetter : Nat → Option (List Nat) := fun _ => some [0, 1, 4, 5, 12]
theorem letter_ok : FunOk Tryz.prog 154 letterG := by
  have hC := table_ok (P := Tryz.prog) (l := []) table_nil
  refine fun_ok mixed hC Tryz.func154 rfl kpLetter false rfl fun args m r h => ?_
  unfold letterG at h
  split at h
  · rename_i c f
    simp only [Option.some.injEq] at h
    subst h
    refine ⟨Nat.le_of_ble_eq_true rfl, ?_⟩
    simp only [entry, List.length_cons, List.length_nil, List.range, List.range.loop, List.zip_cons_cons, List.zip_nil_right]
    by_cases h1 : 97 ≤ c
    · have d1 : decide (c ≥ 97) = true := decide_eq_true h1
      by_cases h2 : c ≤ 122
      · have d2 : decide (c ≤ 122) = true := decide_eq_true h2
        repeat (first | refine runs_seq ?_ | refine runs_block ?_ | refine next_normal ?_ | refine inside_normal ?_ | refine next_exit ?_ | refine inside_exit ?_ | refine inside_other (by decide) ?_ | refine next_ret ?_ | refine inside_ret ?_ | refine runs_ops_kept ?_ | refine runs_skip ?_ | refine runs_exit ?_ | refine runs_ret ?_ | ((first | refine' ops_op rfl rfl (by decide) ?_ ?_ ?_ | refine' ops_yes rfl rfl (by simp only [Ev.get, reduceIte, Nat.reduceEqDiff, d1, d2]; first | done | rfl) rfl (by decide) ?_ ?_ ?_ | refine' ops_op0 rfl rfl ?_ ?_ ?_); rotate_left 2; (focus (simp only [evOp, opd, constAV, constCell, Ev.get, reduceIte, Nat.reduceEqDiff, reduceCtorEq, evBinN, nilCmp, evBin, evInt, evUn, evConvert, evBuiltin, evLen, evField, evPart, tStr, tInt, tElem, tArr, tBool, tAgg, tField, Tryz.underlying9, Tryz.underlying3, Tryz.underlying4, Tryz.underlying5, Tryz.underlying21, Tryz.underlying22, Tryz.underlying2, List.zipWith, Option.map_some, Option.map_none, List.length_cons, List.length_nil, ne_eq, Int.reduceEq, not_false_eq_true, and_self, and_true, true_and, szStr, szInt, Option.getD_some, isNil, loadStr, loadInt, mkInts0, mkInts1, mkStrs0, mkStrs1, rowsS_len, rowsI_len, evStr, evCall, List.size_toArray, List.append_nil, List.nil_append, List.map_cons, List.map_nil, argAV, argCell, List.toList_toArray, fieldTy, d1, d2]; first | done | rfl)); exact (fun h => by first | rfl | (simp at h; done) | exact absurd (Bool.and_eq_true_iff.mp h).2 (by decide))) | refine ops_no rfl rfl (by simp only [Ev.get, reduceIte, Nat.reduceEqDiff, d1, d2]; first | done | rfl) (by decide) rfl (by decide) ?_ | refine ops_off rfl rfl rfl rfl (by decide) ?_ | (refine ops_nil ?_; intro e2 h2; simp only [restr, kpLetter, List.map_cons, List.map_nil, Ev.get, reduceIte, Nat.reduceEqDiff] at h2; subst h2))
        refine runs_cond rfl (fun hc => ?_) (fun hc => by cases hc)
        repeat (first | refine runs_seq ?_ | refine runs_block ?_ | refine next_normal ?_ | refine inside_normal ?_ | refine next_exit ?_ | refine inside_exit ?_ | refine inside_other (by decide) ?_ | refine next_ret ?_ | refine inside_ret ?_ | refine runs_ops_kept ?_ | refine runs_skip ?_ | refine runs_exit ?_ | refine runs_ret ?_ | ((first | refine' ops_op rfl rfl (by decide) ?_ ?_ ?_ | refine' ops_yes rfl rfl (by simp only [Ev.get, reduceIte, Nat.reduceEqDiff]; first | done | rfl) rfl (by decide) ?_ ?_ ?_ | refine' ops_op0 rfl rfl ?_ ?_ ?_); rotate_left 2; (focus (simp only [evOp, opd, constAV, constCell, Ev.get, reduceIte, Nat.reduceEqDiff, reduceCtorEq, evBinN, nilCmp, evBin, evInt, evUn, evConvert, evBuiltin, evLen, evField, evPart, tStr, tInt, tElem, tArr, tBool, tAgg, tField, Tryz.underlying9, Tryz.underlying3, Tryz.underlying4, Tryz.underlying5, Tryz.underlying21, Tryz.underlying22, Tryz.underlying2, List.zipWith, Option.map_some, Option.map_none, List.length_cons, List.length_nil, ne_eq, Int.reduceEq, not_false_eq_true, and_self, and_true, true_and, szStr, szInt, Option.getD_some, isNil, loadStr, loadInt, mkInts0, mkInts1, mkStrs0, mkStrs1, rowsS_len, rowsI_len, evStr, evCall, List.size_toArray, List.append_nil, List.nil_append, List.map_cons, List.map_nil, argAV, argCell, List.toList_toArray, fieldTy]; first | done | rfl)); exact (fun h => by first | rfl | (simp at h; done) | exact absurd (Bool.and_eq_true_iff.mp h).2 (by decide))) | refine ops_no rfl rfl (by simp only [Ev.get, reduceIte, Nat.reduceEqDiff]; first | done | rfl) (by decide) rfl (by decide) ?_ | refine ops_off rfl rfl rfl rfl (by decide) ?_ | (refine ops_nil ?_; intro e2 h2; simp only [restr, kpLetter, List.map_cons, List.map_nil, Ev.get, reduceIte, Nat.reduceEqDiff] at h2; subst h2))
        exact leaves_v rfl (by simp [letterB, h1, h2]; rfl)
      · have d2 : decide (c ≤ 122) = false := decide_eq_false h2
        repeat (first | refine runs_seq ?_ | refine runs_block ?_ | refine next_normal ?_ | refine inside_normal ?_ | refine next_exit ?_ | refine inside_exit ?_ | refine inside_other (by decide) ?_ | refine next_ret ?_ | refine inside_ret ?_ | refine runs_ops_kept ?_ | refine runs_skip ?_ | refine runs_exit ?_ | refine runs_ret ?_ | ((first | refine' ops_op rfl rfl (by decide) ?_ ?_ ?_ | refine' ops_yes rfl rfl (by simp only [Ev.get, reduceIte, Nat.reduceEqDiff, d1, d2]; first | done | rfl) rfl (by decide) ?_ ?_ ?_ | refine' ops_op0 rfl rfl ?_ ?_ ?_); rotate_left 2; (focus (simp only [evOp, opd, constAV, constCell, Ev.get, reduceIte, Nat.reduceEqDiff, reduceCtorEq, evBinN, nilCmp, evBin, evInt, evUn, evConvert, evBuiltin, evLen, evField, evPart, tStr, tInt, tElem, tArr, tBool, tAgg, tField, Tryz.underlying9, Tryz.underlying3, Tryz.underlying4, Tryz.underlying5, Tryz.underlying21, Tryz.underlying22, Tryz.underlying2, List.zipWith, Option.map_some, Option.map_none, List.length_cons, List.length_nil, ne_eq, Int.reduceEq, not_false_eq_true, and_self, and_true, true_and, szStr, szInt, Option.getD_some, isNil, loadStr, loadInt, mkInts0, mkInts1, mkStrs0, mkStrs1, rowsS_len, rowsI_len, evStr, evCall, List.size_toArray, List.append_nil, List.nil_append, List.map_cons, List.map_nil, argAV, argCell, List.toList_toArray, fieldTy, d1, d2]; first | done | rfl)); exact (fun h => by first | rfl | (simp at h; done) | exact absurd (Bool.and_eq_true_iff.mp h).2 (by decide))) | refine ops_no rfl rfl (by simp only [Ev.get, reduceIte, Nat.reduceEqDiff, d1, d2]; first | done | rfl) (by decide) rfl (by decide) ?_ | refine ops_off rfl rfl rfl rfl (by decide) ?_ | (refine ops_nil ?_; intro e2 h2; simp only [restr, kpLetter, List.map_cons, List.map_nil, Ev.get, reduceIte, Nat.reduceEqDiff] at h2; subst h2))
        refine runs_cond rfl (fun hc => by cases hc) (fun hc => ?_)
        repeat (first | refine runs_seq ?_ | refine runs_block ?_ | refine next_normal ?_ | refine inside_normal ?_ | refine next_exit ?_ | refine inside_exit ?_ | refine inside_other (by decide) ?_ | refine next_ret ?_ | refine inside_ret ?_ | refine runs_ops_kept ?_ | refine runs_skip ?_ | refine runs_exit ?_ | refine runs_ret ?_ | ((first | refine' ops_op rfl rfl (by decide) ?_ ?_ ?_ | refine' ops_yes rfl rfl (by simp only [Ev.get, reduceIte, Nat.reduceEqDiff]; first | done | rfl) rfl (by decide) ?_ ?_ ?_ | refine' ops_op0 rfl rfl ?_ ?_ ?_); rotate_left 2; (focus (simp only [evOp, opd, constAV, constCell, Ev.get, reduceIte, Nat.reduceEqDiff, reduceCtorEq, evBinN, nilCmp, evBin, evInt, evUn, evConvert, evBuiltin, evLen, evField, evPart, tStr, tInt, tElem, tArr, tBool, tAgg, tField, Tryz.underlying9, Tryz.underlying3, Tryz.underlying4, Tryz.underlying5, Tryz.underlying21, Tryz.underlying22, Tryz.underlying2, List.zipWith, Option.map_some, Option.map_none, List.length_cons, List.length_nil, ne_eq, Int.reduceEq, not_false_eq_true, and_self, and_true, true_and, szStr, szInt, Option.getD_some, isNil, loadStr, loadInt, mkInts0, mkInts1, mkStrs0, mkStrs1, rowsS_len, rowsI_len, evStr, evCall, List.size_toArray, List.append_nil, List.nil_append, List.map_cons, List.map_nil, argAV, argCell, List.toList_toArray, fieldTy]; first | done | rfl)); exact (fun h => by first | rfl | (simp at h; done) | exact absurd (Bool.and_eq_true_iff.mp h).2 (by decide))) | refine ops_no rfl rfl (by simp only [Ev.get, reduceIte, Nat.reduceEqDiff]; first | done | rfl) (by decide) rfl (by decide) ?_ | refine ops_off rfl rfl rfl rfl (by decide) ?_ | (refine ops_nil ?_; intro e2 h2; simp only [restr, kpLetter, List.map_cons, List.map_nil, Ev.get, reduceIte, Nat.reduceEqDiff] at h2; subst h2))
        refine runs_cond rfl (fun hc => ?_) (fun hc => ?_)
        · repeat (first
            | refine runs_seq ?_ | refine runs_block ?_ | refine next_normal ?_ | refine inside_normal ?_ | refine next_exit ?_ | refine inside_exit ?_ | refine inside_other (by decide) ?_ | refine next_ret ?_ | refine inside_ret ?_
            | refine runs_ops_kept ?_ | refine runs_skip ?_ | refine runs_exit ?_ | refine runs_ret ?_
            | ((first | refine' ops_op rfl rfl (by decide) ?_ ?_ ?_ | refine' ops_yes rfl rfl (by simp only [Ev.get, reduceIte, Nat.reduceEqDiff]; first | done | rfl) rfl (by decide) ?_ ?_ ?_ | refine' ops_op0 rfl rfl ?_ ?_ ?_); rotate_left 2; (focus (simp only [evOp, opd, constAV, constCell, Ev.get, reduceIte, Nat.reduceEqDiff, reduceCtorEq, evBinN, nilCmp, evBin, evInt, evUn, evConvert, evBuiltin, evLen, evField, evPart, tStr, tInt, tElem, tArr, tBool, tAgg, tField, Tryz.underlying9, Tryz.underlying3, Tryz.underlying4, Tryz.underlying5, Tryz.underlying21, Tryz.underlying22, Tryz.underlying2, List.zipWith, Option.map_some, Option.map_none, List.length_cons, List.length_nil, ne_eq, Int.reduceEq, not_false_eq_true, and_self, and_true, true_and, szStr, szInt, Option.getD_some, isNil, loadStr, loadInt, mkInts0, mkInts1, mkStrs0, mkStrs1, rowsS_len, rowsI_len, evStr, evCall, List.size_toArray, List.append_nil, List.nil_append, List.map_cons, List.map_nil, argAV, argCell, List.toList_toArray, fieldTy]; first | done | rfl)); exact (fun h => by first | rfl | (simp at h; done) | exact absurd (Bool.and_eq_true_iff.mp h).2 (by decide)))
            | refine ops_no rfl rfl (by simp only [Ev.get, reduceIte, Nat.reduceEqDiff]; first | done | rfl) (by decide) rfl (by decide) ?_
            | refine ops_off rfl rfl rfl rfl (by decide) ?_
            | (refine ops_nil ?_; intro e2 h2; simp only [restr, kpLetter, List.map_cons, List.map_nil, Ev.get, reduceIte, Nat.reduceEqDiff] at h2; subst h2))
          exact leaves_v rfl (by simp [letterB, h2, hc]; rfl)
        · have d3 : decide (c ≥ 48) = true := decide_eq_true (by omega)
          have d4 : decide (c ≤ 57) = false := decide_eq_false (by omega)
          have d5 : (c == 95) = false := beq_eq_false_iff_ne.2 (by omega)
          repeat (first | refine runs_seq ?_ | refine runs_block ?_ | refine next_normal ?_ | refine inside_normal ?_ | refine next_exit ?_ | refine inside_exit ?_ | refine inside_other (by decide) ?_ | refine next_ret ?_ | refine inside_ret ?_ | refine runs_ops_kept ?_ | refine runs_skip ?_ | refine runs_exit ?_ | refine runs_ret ?_ | ((first | refine' ops_op rfl rfl (by decide) ?_ ?_ ?_ | refine' ops_yes rfl rfl (by simp only [Ev.get, reduceIte, Nat.reduceEqDiff, d3, d4, d5]; first | done | rfl) rfl (by decide) ?_ ?_ ?_ | refine' ops_op0 rfl rfl ?_ ?_ ?_); rotate_left 2; (focus (simp only [evOp, opd, constAV, constCell, Ev.get, reduceIte, Nat.reduceEqDiff, reduceCtorEq, evBinN, nilCmp, evBin, evInt, evUn, evConvert, evBuiltin, evLen, evField, evPart, tStr, tInt, tElem, tArr, tBool, tAgg, tField, Tryz.underlying9, Tryz.underlying3, Tryz.underlying4, Tryz.underlying5, Tryz.underlying21, Tryz.underlying22, Tryz.underlying2, List.zipWith, Option.map_some, Option.map_none, List.length_cons, List.length_nil, ne_eq, Int.reduceEq, not_false_eq_true, and_self, and_true, true_and, szStr, szInt, Option.getD_some, isNil, loadStr, loadInt, mkInts0, mkInts1, mkStrs0, mkStrs1, rowsS_len, rowsI_len, evStr, evCall, List.size_toArray, List.append_nil, List.nil_append, List.map_cons, List.map_nil, argAV, argCell, List.toList_toArray, fieldTy, d3, d4, d5]; first | done | rfl)); exact (fun h => by first | rfl | (simp at h; done) | exact absurd (Bool.and_eq_true_iff.mp h).2 (by decide))) | refine ops_no rfl rfl (by simp only [Ev.get, reduceIte, Nat.reduceEqDiff, d3, d4, d5]; first | done | rfl) (by decide) rfl (by decide) ?_ | refine ops_off rfl rfl rfl rfl (by decide) ?_ | (refine ops_nil ?_; intro e2 h2; simp only [restr, kpLetter, List.map_cons, List.map_nil, Ev.get, reduceIte, Nat.reduceEqDiff] at h2; subst h2))
          exact leaves_v rfl (by simp [letterB, h2, hc, show ¬ c ≤ 57 by omega, show ¬ c = 95 by omega]; rfl)
    · have d1 : decide (c ≥ 97) = false := decide_eq_false h1
      repeat (first | refine runs_seq ?_ | refine runs_block ?_ | refine next_normal ?_ | refine inside_normal ?_ | refine next_exit ?_ | refine inside_exit ?_ | refine inside_other (by decide) ?_ | refine next_ret ?_ | refine inside_ret ?_ | refine runs_ops_kept ?_ | refine runs_skip ?_ | refine runs_exit ?_ | refine runs_ret ?_ | ((first | refine' ops_op rfl rfl (by decide) ?_ ?_ ?_ | refine' ops_yes rfl rfl (by simp only [Ev.get, reduceIte, Nat.reduceEqDiff, d1]; first | done | rfl) rfl (by decide) ?_ ?_ ?_ | refine' ops_op0 rfl rfl ?_ ?_ ?_); rotate_left 2; (focus (simp only [evOp, opd, constAV, constCell, Ev.get, reduceIte, Nat.reduceEqDiff, reduceCtorEq, evBinN, nilCmp, evBin, evInt, evUn, evConvert, evBuiltin, evLen, evField, evPart, tStr, tInt, tElem, tArr, tBool, tAgg, tField, Tryz.underlying9, Tryz.underlying3, Tryz.underlying4, Tryz.underlying5, Tryz.underlying21, Tryz.underlying22, Tryz.underlying2, List.zipWith, Option.map_some, Option.map_none, List.length_cons, List.length_nil, ne_eq, Int.reduceEq, not_false_eq_true, and_self, and_true, true_and, szStr, szInt, Option.getD_some, isNil, loadStr, loadInt, mkInts0, mkInts1, mkStrs0, mkStrs1, rowsS_len, rowsI_len, evStr, evCall, List.size_toArray, List.append_nil, List.nil_append, List.map_cons, List.map_nil, argAV, argCell, List.toList_toArray, fieldTy, d1]; first | done | rfl)); exact (fun h => by first | rfl | (simp at h; done) | exact absurd (Bool.and_eq_true_iff.mp h).2 (by decide))) | refine ops_no rfl rfl (by simp only [Ev.get, reduceIte, Nat.reduceEqDiff, d1]; first | done | rfl) (by decide) rfl (by decide) ?_ | refine ops_off rfl rfl rfl rfl (by decide) ?_ | (refine ops_nil ?_; intro e2 h2; simp only [restr, kpLetter, List.map_cons, List.map_nil, Ev.get, reduceIte, Nat.reduceEqDiff] at h2; subst h2))
      refine runs_cond rfl (fun hc => by cases hc) (fun hc => ?_)
      repeat (first | refine runs_seq ?_ | refine runs_block ?_ | refine next_normal ?_ | refine inside_normal ?_ | refine next_exit ?_ | refine inside_exit ?_ | refine inside_other (by decide) ?_ | refine next_ret ?_ | refine inside_ret ?_ | refine runs_ops_kept ?_ | refine runs_skip ?_ | refine runs_exit ?_ | refine runs_ret ?_ | ((first | refine' ops_op rfl rfl (by decide) ?_ ?_ ?_ | refine' ops_yes rfl rfl (by simp only [Ev.get, reduceIte, Nat.reduceEqDiff]; first | done | rfl) rfl (by decide) ?_ ?_ ?_ | refine' ops_op0 rfl rfl ?_ ?_ ?_); rotate_left 2; (focus (simp only [evOp, opd, constAV, constCell, Ev.get, reduceIte, Nat.reduceEqDiff, reduceCtorEq, evBinN, nilCmp, evBin, evInt, evUn, evConvert, evBuiltin, evLen, evField, evPart, tStr, tInt, tElem, tArr, tBool, tAgg, tField, Tryz.underlying9, Tryz.underlying3, Tryz.underlying4, Tryz.underlying5, Tryz.underlying21, Tryz.underlying22, Tryz.underlying2, List.zipWith, Option.map_some, Option.map_none, List.length_cons, List.length_nil, ne_eq, Int.reduceEq, not_false_eq_true, and_self, and_true, true_and, szStr, szInt, Option.getD_some, isNil, loadStr, loadInt, mkInts0, mkInts1, mkStrs0, mkStrs1, rowsS_len, rowsI_len, evStr, evCall, List.size_toArray, List.append_nil, List.nil_append, List.map_cons, List.map_nil, argAV, argCell, List.toList_toArray, fieldTy]; first | done | rfl)); exact (fun h => by first | rfl | (simp at h; done) | exact absurd (Bool.and_eq_true_iff.mp h).2 (by decide))) | refine ops_no rfl rfl (by simp only [Ev.get, reduceIte, Nat.reduceEqDiff]; first | done | rfl) (by decide) rfl (by decide) ?_ | refine ops_off rfl rfl rfl rfl (by decide) ?_ | (refine ops_nil ?_; intro e2 h2; simp only [restr, kpLetter, List.map_cons, List.map_nil, Ev.get, reduceIte, Nat.reduceEqDiff] at h2; subst h2))
      refine runs_cond rfl (fun hc => ?_) (fun hc => ?_)
      · repeat (first
          | refine runs_seq ?_ | refine runs_block ?_ | refine next_normal ?_ | refine inside_normal ?_ | refine next_exit ?_ | refine inside_exit ?_ | refine inside_other (by decide) ?_ | refine next_ret ?_ | refine inside_ret ?_
          | refine runs_ops_kept ?_ | refine runs_skip ?_ | refine runs_exit ?_ | refine runs_ret ?_
          | ((first | refine' ops_op rfl rfl (by decide) ?_ ?_ ?_ | refine' ops_yes rfl rfl (by simp only [Ev.get, reduceIte, Nat.reduceEqDiff]; first | done | rfl) rfl (by decide) ?_ ?_ ?_ | refine' ops_op0 rfl rfl ?_ ?_ ?_); rotate_left 2; (focus (simp only [evOp, opd, constAV, constCell, Ev.get, reduceIte, Nat.reduceEqDiff, reduceCtorEq, evBinN, nilCmp, evBin, evInt, evUn, evConvert, evBuiltin, evLen, evField, evPart, tStr, tInt, tElem, tArr, tBool, tAgg, tField, Tryz.underlying9, Tryz.underlying3, Tryz.underlying4, Tryz.underlying5, Tryz.underlying21, Tryz.underlying22, Tryz.underlying2, List.zipWith, Option.map_some, Option.map_none, List.length_cons, List.length_nil, ne_eq, Int.reduceEq, not_false_eq_true, and_self, and_true, true_and, szStr, szInt, Option.getD_some, isNil, loadStr, loadInt, mkInts0, mkInts1, mkStrs0, mkStrs1, rowsS_len, rowsI_len, evStr, evCall, List.size_toArray, List.append_nil, List.nil_append, List.map_cons, List.map_nil, argAV, argCell, List.toList_toArray, fieldTy]; first | done | rfl)); exact (fun h => by first | rfl | (simp at h; done) | exact absurd (Bool.and_eq_true_iff.mp h).2 (by decide)))
          | refine ops_no rfl rfl (by simp only [Ev.get, reduceIte, Nat.reduceEqDiff]; first | done | rfl) (by decide) rfl (by decide) ?_
          | refine ops_off rfl rfl rfl rfl (by decide) ?_
          | (refine ops_nil ?_; intro e2 h2; simp only [restr, kpLetter, List.map_cons, List.map_nil, Ev.get, reduceIte, Nat.reduceEqDiff] at h2; subst h2))
        exact leaves_v rfl (by simp [letterB, h1, hc]; rfl)
      · by_cases h3 : 48 ≤ c
        · have d3 : decide (c ≥ 48) = true := decide_eq_true h3
          by_cases h4 : c ≤ 57
          · have d4 : decide (c ≤ 57) = true := decide_eq_true h4
            repeat (first | refine runs_seq ?_ | refine runs_block ?_ | refine next_normal ?_ | refine inside_normal ?_ | refine next_exit ?_ | refine inside_exit ?_ | refine inside_other (by decide) ?_ | refine next_ret ?_ | refine inside_ret ?_ | refine runs_ops_kept ?_ | refine runs_skip ?_ | refine runs_exit ?_ | refine runs_ret ?_ | ((first | refine' ops_op rfl rfl (by decide) ?_ ?_ ?_ | refine' ops_yes rfl rfl (by simp only [Ev.get, reduceIte, Nat.reduceEqDiff, d3, d4]; first | done | rfl) rfl (by decide) ?_ ?_ ?_ | refine' ops_op0 rfl rfl ?_ ?_ ?_); rotate_left 2; (focus (simp only [evOp, opd, constAV, constCell, Ev.get, reduceIte, Nat.reduceEqDiff, reduceCtorEq, evBinN, nilCmp, evBin, evInt, evUn, evConvert, evBuiltin, evLen, evField, evPart, tStr, tInt, tElem, tArr, tBool, tAgg, tField, Tryz.underlying9, Tryz.underlying3, Tryz.underlying4, Tryz.underlying5, Tryz.underlying21, Tryz.underlying22, Tryz.underlying2, List.zipWith, Option.map_some, Option.map_none, List.length_cons, List.length_nil, ne_eq, Int.reduceEq, not_false_eq_true, and_self, and_true, true_and, szStr, szInt, Option.getD_some, isNil, loadStr, loadInt, mkInts0, mkInts1, mkStrs0, mkStrs1, rowsS_len, rowsI_len, evStr, evCall, List.size_toArray, List.append_nil, List.nil_append, List.map_cons, List.map_nil, argAV, argCell, List.toList_toArray, fieldTy, d3, d4]; first | done | rfl)); exact (fun h => by first | rfl | (simp at h; done) | exact absurd (Bool.and_eq_true_iff.mp h).2 (by decide))) | refine ops_no rfl rfl (by simp only [Ev.get, reduceIte, Nat.reduceEqDiff, d3, d4]; first | done | rfl) (by decide) rfl (by decide) ?_ | refine ops_off rfl rfl rfl rfl (by decide) ?_ | (refine ops_nil ?_; intro e2 h2; simp only [restr, kpLetter, List.map_cons, List.map_nil, Ev.get, reduceIte, Nat.reduceEqDiff] at h2; subst h2))
            exact leaves_v rfl (by simp [letterB, h1, hc, h3, h4]; rfl)
          · have d4 : decide (c ≤ 57) = false := decide_eq_false h4
            repeat (first | refine runs_seq ?_ | refine runs_block ?_ | refine next_normal ?_ | refine inside_normal ?_ | refine next_exit ?_ | refine inside_exit ?_ | refine inside_other (by decide) ?_ | refine next_ret ?_ | refine inside_ret ?_ | refine runs_ops_kept ?_ | refine runs_skip ?_ | refine runs_exit ?_ | refine runs_ret ?_ | ((first | refine' ops_op rfl rfl (by decide) ?_ ?_ ?_ | refine' ops_yes rfl rfl (by simp only [Ev.get, reduceIte, Nat.reduceEqDiff, d3, d4]; first | done | rfl) rfl (by decide) ?_ ?_ ?_ | refine' ops_op0 rfl rfl ?_ ?_ ?_); rotate_left 2; (focus (simp only [evOp, opd, constAV, constCell, Ev.get, reduceIte, Nat.reduceEqDiff, reduceCtorEq, evBinN, nilCmp, evBin, evInt, evUn, evConvert, evBuiltin, evLen, evField, evPart, tStr, tInt, tElem, tArr, tBool, tAgg, tField, Tryz.underlying9, Tryz.underlying3, Tryz.underlying4, Tryz.underlying5, Tryz.underlying21, Tryz.underlying22, Tryz.underlying2, List.zipWith, Option.map_some, Option.map_none, List.length_cons, List.length_nil, ne_eq, Int.reduceEq, not_false_eq_true, and_self, and_true, true_and, szStr, szInt, Option.getD_some, isNil, loadStr, loadInt, mkInts0, mkInts1, mkStrs0, mkStrs1, rowsS_len, rowsI_len, evStr, evCall, List.size_toArray, List.append_nil, List.nil_append, List.map_cons, List.map_nil, argAV, argCell, List.toList_toArray, fieldTy, d3, d4]; first | done | rfl)); exact (fun h => by first | rfl | (simp at h; done) | exact absurd (Bool.and_eq_true_iff.mp h).2 (by decide))) | refine ops_no rfl rfl (by simp only [Ev.get, reduceIte, Nat.reduceEqDiff, d3, d4]; first | done | rfl) (by decide) rfl (by decide) ?_ | refine ops_off rfl rfl rfl rfl (by decide) ?_ | (refine ops_nil ?_; intro e2 h2; simp only [restr, kpLetter, List.map_cons, List.map_nil, Ev.get, reduceIte, Nat.reduceEqDiff] at h2; subst h2))
            exact leaves_v rfl (by simp [letterB, h1, hc, h4]; rfl)
        · have d3 : decide (c ≥ 48) = false := decide_eq_false h3
          repeat (first | refine runs_seq ?_ | refine runs_block ?_ | refine next_normal ?_ | refine inside_normal ?_ | refine next_exit ?_ | refine inside_exit ?_ | refine inside_other (by decide) ?_ | refine next_ret ?_ | refine inside_ret ?_ | refine runs_ops_kept ?_ | refine runs_skip ?_ | refine runs_exit ?_ | refine runs_ret ?_ | ((first | refine' ops_op rfl rfl (by decide) ?_ ?_ ?_ | refine' ops_yes rfl rfl (by simp only [Ev.get, reduceIte, Nat.reduceEqDiff, d3]; first | done | rfl) rfl (by decide) ?_ ?_ ?_ | refine' ops_op0 rfl rfl ?_ ?_ ?_); rotate_left 2; (focus (simp only [evOp, opd, constAV, constCell, Ev.get, reduceIte, Nat.reduceEqDiff, reduceCtorEq, evBinN, nilCmp, evBin, evInt, evUn, evConvert, evBuiltin, evLen, evField, evPart, tStr, tInt, tElem, tArr, tBool, tAgg, tField, Tryz.underlying9, Tryz.underlying3, Tryz.underlying4, Tryz.underlying5, Tryz.underlying21, Tryz.underlying22, Tryz.underlying2, List.zipWith, Option.map_some, Option.map_none, List.length_cons, List.length_nil, ne_eq, Int.reduceEq, not_false_eq_true, and_self, and_true, true_and, szStr, szInt, Option.getD_some, isNil, loadStr, loadInt, mkInts0, mkInts1, mkStrs0, mkStrs1, rowsS_len, rowsI_len, evStr, evCall, List.size_toArray, List.append_nil, List.nil_append, List.map_cons, List.map_nil, argAV, argCell, List.toList_toArray, fieldTy, d3]; first | done | rfl)); exact (fun h => by first | rfl | (simp at h; done) | exact absurd (Bool.and_eq_true_iff.mp h).2 (by decide))) | refine ops_no rfl rfl (by simp only [Ev.get, reduceIte, Nat.reduceEqDiff, d3]; first | done | rfl) (by decide) rfl (by decide) ?_ | refine ops_off rfl rfl rfl rfl (by decide) ?_ | (refine ops_nil ?_; intro e2 h2; simp only [restr, kpLetter, List.map_cons, List.map_nil, Ev.get, reduceIte, Nat.reduceEqDiff] at h2; subst h2))
          exact leaves_v rfl (by simp [letterB, h1, hc, h3]; rfl)
  · cases h
end Go.Proofs.YtojaokhkbmiidaaGreat.Ev

namespace Go.Proofs.YtojaokhkbmiidaaGreat.Ev
open Go Go.Proofs
set_option maxRecDepth 10000
set_option linter.unusedVariables false
set_option linter.unusedSimpArgs false
attribute [local irreducible] Next Inside Runs Ops table XRuns XOps XNext XInside
def lettersTo (s : ByteArray) : Nat → Bool
  | 0 => true
  | n + 1 => lettersTo s n && letterB ((s.get! n).toNat : Nat) (n == 0)
theorem letters_no {s : ByteArray} {i : Nat} (h : letterB ((s.get! i).toNat : Nat) (i == 0) = false) : ∀ {n : Nat}, i < n → lettersTo s n = false
  | 0, hn => by omega
  | n + 1, hn => by
    unfold lettersTo
    rcases Nat.lt_succ_iff_lt_or_eq.1 hn with hn | rfl
    · rw [letters_no h hn]; rfl
    · rw [h, Bool.and_false]
def isName (s : ByteArray) : Bool := lettersTo s s.size && (decide (1 ≤ s.size) && decide (s.size ≤ 16) && !keyword s)
theorem name_no {s : ByteArray} {i : Nat} (hi : i < s.size) (h : letterB ((s.get! i).toNat : Nat) (i == 0) = false) : isName s = false := by
  unfold isName
  rw [letters_no h hi]
  rfl
theorem letter_high {c : Nat} (h : 128 ≤ c) (f : Bool) : letterB (c : Int) f = false := by
  unfold letterB
  rw [decide_eq_false (by omega : ¬ (c : Int) ≤ 122), decide_eq_false (by omega : ¬ (c : Int) ≤ 57), decide_eq_false (by omega : ¬ (c : Int) = 95)]
  simp
theorem get_bang {s : ByteArray} {i : Nat} (h : i < s.size) : s.get! i = s[i]'h := by
  show s.get! i = _
  simp [ByteArray.get!, getElem!_pos, h]
  rfl
theorem size_zero {s : ByteArray} : (s != ⟨#[]⟩) = decide (1 ≤ s.size) := by
  by_cases h : s = ⟨#[]⟩
  · subst h; rfl
  · rw [bytes_ne.2 h]
    refine (decide_eq_true ?_).symm
    rcases Nat.eq_zero_or_pos s.size with h0 | h0
    · exfalso
      apply h
      obtain ⟨a⟩ := s
      have : a.size = 0 := h0
      rw [Array.eq_empty_of_size_eq_zero this]
    · exact h0
def isNameG : List AV → Mem → Option (AV × Mem)
  | [.v (.string s)], m => if s.size ≤ 9223372036854775807 then some (.v (.bool (isName s)), m) else none
  | _, _ => none
theorem isNameG_eq {s : ByteArray} {m : Mem} (h : s.size ≤ 9223372036854775807) : isNameG [.v (.string s)] m = some (.v (.bool (isName s)), m) := if_pos h
def kpIs : Nat → Option (List Nat) := fun _ => some [0, 2, 3, 4, 6, 7, 8, 15]
def tabIs : List (FuncId × (List AV → Mem → Option (AV × Mem))) := [(154, letterG), (155, keywordG)]
theorem is_ok : FunOk Tryz.prog 122 isNameG := by
  have hC := table_ok (P := Tryz.prog) (l := tabIs) (table_more letter_ok (table_more keyword_ok table_nil))
  have t1 := fun args mm => table_at (l := tabIs) (f := 154) (args := args) (m := mm) rfl
  have t2 := fun args mm => table_at (l := tabIs) (f := 155) (args := args) (m := mm) rfl
  refine fun_okX Tryz.func122 rfl false rfl fun args m r h => ?_
  unfold isNameG at h
  split at h
  · rename_i s
    split at h
    · rename_i hlen
      simp only [Option.some.injEq] at h
      subst h
      refine ⟨Nat.le_of_ble_eq_true rfl, fun φ w => ?_⟩
      simp only [entry, List.length_cons, List.length_nil, List.range, List.range.loop, List.zip_cons_cons, List.zip_nil_right]
      repeat (first | refine x_seq ?_ | refine x_block ?_ | refine xn_normal ?_ | refine xi_normal ?_ | refine xn_exit ?_ | refine xi_exit ?_ | refine xi_other (by decide) ?_ | refine xn_ret ?_ | refine xi_ret ?_ | refine x_skip ?_ | refine x_exit ?_ | refine x_ret ?_)
      refine x_region (kp := kpIs) mixed hC ?_
      repeat (first | refine runs_seq ?_ | refine runs_block ?_ | refine next_normal ?_ | refine inside_normal ?_ | refine next_exit ?_ | refine inside_exit ?_ | refine inside_other (by decide) ?_ | refine next_ret ?_ | refine inside_ret ?_ | refine runs_ops_kept ?_ | refine runs_skip ?_ | refine runs_exit ?_ | refine runs_ret ?_ | ((first | refine' ops_op rfl rfl (by decide) ?_ ?_ ?_ | refine' ops_yes rfl rfl (by simp only [Ev.get, reduceIte, Nat.reduceEqDiff]; first | done | rfl) rfl (by decide) ?_ ?_ ?_ | refine' ops_op0 rfl rfl ?_ ?_ ?_); rotate_left 2; (focus (simp only [evOp, opd, constAV, constCell, Ev.get, reduceIte, Nat.reduceEqDiff, reduceCtorEq, evBinN, nilCmp, evBin, evInt, evUn, evConvert, evBuiltin, evLen, evField, evPart, tStr, tInt, tElem, tArr, tBool, tAgg, tField, Tryz.underlying9, Tryz.underlying3, Tryz.underlying4, Tryz.underlying5, Tryz.underlying21, Tryz.underlying160, Tryz.underlying22, Tryz.underlying77, Tryz.underlying165, Tryz.underlying41, Tryz.underlying2, Tryz.underlying173, Tryz.underlying70, Tryz.underlying102, Tryz.underlying33, List.zipWith, Option.map_some, Option.map_none, List.length_cons, List.length_nil, ne_eq, Int.reduceEq, not_false_eq_true, and_self, and_true, true_and, szStr, szInt, Option.getD_some, isNil, loadStr, loadInt, mkInts0, mkInts1, mkStrs0, mkStrs1, rowsS_len, rowsI_len, evStr, evCall, List.size_toArray, List.append_nil, List.nil_append, List.map_cons, List.map_nil, argAV, argCell, List.toList_toArray, fieldTy]; first | done | rfl)); exact (fun h => by first | rfl | (simp at h; done) | exact absurd (Bool.and_eq_true_iff.mp h).2 (by decide))) | refine ops_no rfl rfl (by simp only [Ev.get, reduceIte, Nat.reduceEqDiff]; first | done | rfl) (by decide) rfl (by decide) ?_ | refine ops_off rfl rfl rfl rfl (by decide) ?_ | (refine ops_nil ?_; intro e2 h2; simp only [restr, kpIs, List.map_cons, List.map_nil, Ev.get, reduceIte, Nat.reduceEqDiff] at h2; subst h2))
      repeat (first | refine x_seq ?_ | refine x_block ?_ | refine xn_normal ?_ | refine xi_normal ?_ | refine xn_exit ?_ | refine xi_exit ?_ | refine xi_other (by decide) ?_ | refine xn_ret ?_ | refine xi_ret ?_ | refine x_skip ?_ | refine x_exit ?_ | refine x_ret ?_)
      refine x_ops (l2 := some [0, 2, 3, 4, 6, 7, 8, 15]) ?_
      refine xo_op hC rfl rfl (by decide) (by simp only [evOp, opd, constAV, constCell, Ev.get, reduceIte, Nat.reduceEqDiff, reduceCtorEq, evBinN, nilCmp, evBin, evInt, evUn, evConvert, evBuiltin, evLen, evField, evPart, tStr, tInt, tElem, tArr, tBool, tAgg, tField, Tryz.underlying9, Tryz.underlying3, Tryz.underlying4, Tryz.underlying5, Tryz.underlying21, Tryz.underlying160, Tryz.underlying22, Tryz.underlying77, Tryz.underlying165, Tryz.underlying41, Tryz.underlying2, Tryz.underlying173, Tryz.underlying70, Tryz.underlying102, Tryz.underlying33, List.zipWith, Option.map_some, Option.map_none, List.length_cons, List.length_nil, ne_eq, Int.reduceEq, not_false_eq_true, and_self, and_true, true_and, szStr, szInt, Option.getD_some, isNil, loadStr, loadInt, mkInts0, mkInts1, mkStrs0, mkStrs1, rowsS_len, rowsI_len, evStr]; rfl) ?_
      refine xo_range rfl rfl (by decide) rfl strS rfl fun b => ?_
      refine xo_nil ?_
      intro e2 h2
      simp only [restr, List.map_cons, List.map_nil, Ev.get, reduceIte, Nat.reduceEqDiff] at h2
      subst h2
      repeat (first | refine x_seq ?_ | refine x_block ?_ | refine xn_normal ?_ | refine xi_normal ?_ | refine xn_exit ?_ | refine xi_exit ?_ | refine xi_other (by decide) ?_ | refine xn_ret ?_ | refine xi_ret ?_ | refine x_skip ?_ | refine x_exit ?_ | refine x_ret ?_)
      refine x_loop (fun k e m' F => ∃ (pos : Nat) (x3 x4 x7 x8 x15 : AV), pos ≤ s.size ∧ lettersTo s pos = true ∧ m = m' ∧ F = [(b, .stringIter s pos)] ∧ k = s.size - pos ∧
        e = [(0, AV.v (.string s)), (2, .v (.bool false)), (3, x3), (4, x4), (6, .v (.pointer (some ⟨b, 0, none⟩))), (7, x7), (8, x8), (15, x15)]) (k := s.size) ⟨0, _, _, _, _, _, Nat.zero_le _, rfl, rfl, rfl, rfl, rfl⟩ ?_
      rintro k e m' F ⟨pos, x3, x4, x7, x8, x15, hpos, hok, rfl, rfl, rfl, rfl⟩
      repeat (first | refine x_seq ?_ | refine x_block ?_ | refine xn_normal ?_ | refine xi_normal ?_ | refine xn_exit ?_ | refine xi_exit ?_ | refine xi_other (by decide) ?_ | refine xn_ret ?_ | refine xi_ret ?_ | refine x_skip ?_ | refine x_exit ?_ | refine x_ret ?_)
      refine x_ops (l2 := some [0, 2, 3, 4, 6, 7, 8, 15]) ?_
      refine xo_next rfl rfl (by decide) rfl rfl (List.mem_singleton.2 rfl) (fun hp => ?_) (fun hp => ?_)
      · refine xo_op hC rfl rfl (by decide) (by simp only [evOp, opd, constAV, constCell, Ev.get, reduceIte, Nat.reduceEqDiff, reduceCtorEq, evBinN, nilCmp, evBin, evInt, evUn, evConvert, evBuiltin, evLen, evField, evPart, tStr, tInt, tElem, tArr, tBool, tAgg, tField, Tryz.underlying9, Tryz.underlying3, Tryz.underlying4, Tryz.underlying5, Tryz.underlying21, Tryz.underlying160, Tryz.underlying22, Tryz.underlying77, Tryz.underlying165, Tryz.underlying41, Tryz.underlying2, Tryz.underlying173, Tryz.underlying70, Tryz.underlying102, Tryz.underlying33, List.zipWith, Option.map_some, Option.map_none, List.length_cons, List.length_nil, ne_eq, Int.reduceEq, not_false_eq_true, and_self, and_true, true_and, szStr, szInt, Option.getD_some, isNil, loadStr, loadInt, mkInts0, mkInts1, mkStrs0, mkStrs1, rowsS_len, rowsI_len, evStr]; rfl) ?_
        refine xo_nil ?_
        intro e2 h2
        simp only [restr, List.map_cons, List.map_nil, Ev.get, reduceIte, Nat.reduceEqDiff] at h2
        subst h2
        repeat (first | refine x_seq ?_ | refine x_block ?_ | refine xn_normal ?_ | refine xi_normal ?_ | refine xn_exit ?_ | refine xi_exit ?_ | refine xi_other (by decide) ?_ | refine xn_ret ?_ | refine xi_ret ?_ | refine x_skip ?_ | refine x_exit ?_ | refine x_ret ?_)
        refine x_cond rfl (fun hc => ?_) (fun hc => by cases hc)
        repeat (first | refine x_seq ?_ | refine x_block ?_ | refine xn_normal ?_ | refine xi_normal ?_ | refine xn_exit ?_ | refine xi_exit ?_ | refine xi_other (by decide) ?_ | refine xn_ret ?_ | refine xi_ret ?_ | refine x_skip ?_ | refine x_exit ?_ | refine x_ret ?_)
        refine x_region (kp := kpIs) mixed hC ?_
        repeat (first | refine runs_seq ?_ | refine runs_block ?_ | refine next_normal ?_ | refine inside_normal ?_ | refine next_exit ?_ | refine inside_exit ?_ | refine inside_other (by decide) ?_ | refine next_ret ?_ | refine inside_ret ?_ | refine runs_ops_kept ?_ | refine runs_skip ?_ | refine runs_exit ?_ | refine runs_ret ?_ | ((first | refine' ops_op rfl rfl (by decide) ?_ ?_ ?_ | refine' ops_yes rfl rfl (by simp only [Ev.get, reduceIte, Nat.reduceEqDiff]; first | done | rfl) rfl (by decide) ?_ ?_ ?_ | refine' ops_op0 rfl rfl ?_ ?_ ?_); rotate_left 2; (focus (simp only [evOp, opd, constAV, constCell, Ev.get, reduceIte, Nat.reduceEqDiff, reduceCtorEq, evBinN, nilCmp, evBin, evInt, evUn, evConvert, evBuiltin, evLen, evField, evPart, tStr, tInt, tElem, tArr, tBool, tAgg, tField, Tryz.underlying9, Tryz.underlying3, Tryz.underlying4, Tryz.underlying5, Tryz.underlying21, Tryz.underlying160, Tryz.underlying22, Tryz.underlying77, Tryz.underlying165, Tryz.underlying41, Tryz.underlying2, Tryz.underlying173, Tryz.underlying70, Tryz.underlying102, Tryz.underlying33, List.zipWith, Option.map_some, Option.map_none, List.length_cons, List.length_nil, ne_eq, Int.reduceEq, not_false_eq_true, and_self, and_true, true_and, szStr, szInt, Option.getD_some, isNil, loadStr, loadInt, mkInts0, mkInts1, mkStrs0, mkStrs1, rowsS_len, rowsI_len, evStr, evCall, List.size_toArray, List.append_nil, List.nil_append, List.map_cons, List.map_nil, argAV, argCell, List.toList_toArray, fieldTy]; first | done | rfl)); exact (fun h => by first | rfl | (simp at h; done) | exact absurd (Bool.and_eq_true_iff.mp h).2 (by decide))) | refine ops_no rfl rfl (by simp only [Ev.get, reduceIte, Nat.reduceEqDiff]; first | done | rfl) (by decide) rfl (by decide) ?_ | refine ops_off rfl rfl rfl rfl (by decide) ?_ | (refine ops_nil ?_; intro e2 h2; simp only [restr, kpIs, List.map_cons, List.map_nil, Ev.get, reduceIte, Nat.reduceEqDiff] at h2; subst h2))
        repeat (first | refine x_seq ?_ | refine x_block ?_ | refine xn_normal ?_ | refine xi_normal ?_ | refine xn_exit ?_ | refine xi_exit ?_ | refine xi_other (by decide) ?_ | refine xn_ret ?_ | refine xi_ret ?_ | refine x_skip ?_ | refine x_exit ?_ | refine x_ret ?_)
        have hgb := get_bang hp
        have fl : ∀ c f mm, letterG [.v (.int .i32 c), .v (.bool f)] mm = some (.v (.bool (letterB c f)), mm) := fun _ _ _ => rfl
        refine x_region (kp := kpIs) mixed hC ?_
        have hz : ((pos : Int) == 0) = (pos == 0) := by
          cases pos <;> rfl
        repeat (first | refine runs_seq ?_ | refine runs_block ?_ | refine next_normal ?_ | refine inside_normal ?_ | refine next_exit ?_ | refine inside_exit ?_ | refine inside_other (by decide) ?_ | refine next_ret ?_ | refine inside_ret ?_ | refine runs_ops_kept ?_ | refine runs_skip ?_ | refine runs_exit ?_ | refine runs_ret ?_ | ((first | refine' ops_op rfl rfl (by decide) ?_ ?_ ?_ | refine' ops_yes rfl rfl (by simp only [Ev.get, reduceIte, Nat.reduceEqDiff, t1, fl]; first | done | rfl) rfl (by decide) ?_ ?_ ?_ | refine' ops_op0 rfl rfl ?_ ?_ ?_); rotate_left 2; (focus (simp only [evOp, opd, constAV, constCell, Ev.get, reduceIte, Nat.reduceEqDiff, reduceCtorEq, evBinN, nilCmp, evBin, evInt, evUn, evConvert, evBuiltin, evLen, evField, evPart, tStr, tInt, tElem, tArr, tBool, tAgg, tField, Tryz.underlying9, Tryz.underlying3, Tryz.underlying4, Tryz.underlying5, Tryz.underlying21, Tryz.underlying160, Tryz.underlying22, Tryz.underlying77, Tryz.underlying165, Tryz.underlying41, Tryz.underlying2, Tryz.underlying173, Tryz.underlying70, Tryz.underlying102, Tryz.underlying33, List.zipWith, Option.map_some, Option.map_none, List.length_cons, List.length_nil, ne_eq, Int.reduceEq, not_false_eq_true, and_self, and_true, true_and, szStr, szInt, Option.getD_some, isNil, loadStr, loadInt, mkInts0, mkInts1, mkStrs0, mkStrs1, rowsS_len, rowsI_len, evStr, evCall, List.size_toArray, List.append_nil, List.nil_append, List.map_cons, List.map_nil, argAV, argCell, List.toList_toArray, fieldTy, t1, fl]; first | done | rfl)); exact (fun h => by first | rfl | (simp at h; done) | exact absurd (Bool.and_eq_true_iff.mp h).2 (by decide))) | refine ops_no rfl rfl (by simp only [Ev.get, reduceIte, Nat.reduceEqDiff, t1, fl]; first | done | rfl) (by decide) rfl (by decide) ?_ | refine ops_off rfl rfl rfl rfl (by decide) ?_ | (refine ops_nil ?_; intro e2 h2; simp only [restr, kpIs, List.map_cons, List.map_nil, Ev.get, reduceIte, Nat.reduceEqDiff] at h2; subst h2))
        repeat (first | refine x_seq ?_ | refine x_block ?_ | refine xn_normal ?_ | refine xi_normal ?_ | refine xn_exit ?_ | refine xi_exit ?_ | refine xi_other (by decide) ?_ | refine xn_ret ?_ | refine xi_ret ?_ | refine x_skip ?_ | refine x_exit ?_ | refine x_ret ?_)
        refine x_cond rfl (fun hc => ?_) (fun hc => ?_)
        · have hbad : letterB ((s.get! pos).toNat : Nat) (pos == 0) = false := by
            rcases Nat.lt_or_ge (s.get! pos).toNat 128 with ha | ha
            · rw [hgb] at ha ⊢
              rw [decode_ascii s pos hp ha, hz] at hc
              simpa using hc
            · exact letter_high ha _
          rw [name_no hp hbad]
          repeat (first | refine x_seq ?_ | refine x_block ?_ | refine xn_normal ?_ | refine xi_normal ?_ | refine xn_exit ?_ | refine xi_exit ?_ | refine xi_other (by decide) ?_ | refine xn_ret ?_ | refine xi_ret ?_ | refine x_skip ?_ | refine x_exit ?_ | refine x_ret ?_)
          refine x_region (kp := kpIs) mixed hC ?_
          repeat (first | refine runs_seq ?_ | refine runs_block ?_ | refine next_normal ?_ | refine inside_normal ?_ | refine next_exit ?_ | refine inside_exit ?_ | refine inside_other (by decide) ?_ | refine next_ret ?_ | refine inside_ret ?_ | refine runs_ops_kept ?_ | refine runs_skip ?_ | refine runs_exit ?_ | refine runs_ret ?_ | ((first | refine' ops_op rfl rfl (by decide) ?_ ?_ ?_ | refine' ops_yes rfl rfl (by simp only [Ev.get, reduceIte, Nat.reduceEqDiff]; first | done | rfl) rfl (by decide) ?_ ?_ ?_ | refine' ops_op0 rfl rfl ?_ ?_ ?_); rotate_left 2; (focus (simp only [evOp, opd, constAV, constCell, Ev.get, reduceIte, Nat.reduceEqDiff, reduceCtorEq, evBinN, nilCmp, evBin, evInt, evUn, evConvert, evBuiltin, evLen, evField, evPart, tStr, tInt, tElem, tArr, tBool, tAgg, tField, Tryz.underlying9, Tryz.underlying3, Tryz.underlying4, Tryz.underlying5, Tryz.underlying21, Tryz.underlying160, Tryz.underlying22, Tryz.underlying77, Tryz.underlying165, Tryz.underlying41, Tryz.underlying2, Tryz.underlying173, Tryz.underlying70, Tryz.underlying102, Tryz.underlying33, List.zipWith, Option.map_some, Option.map_none, List.length_cons, List.length_nil, ne_eq, Int.reduceEq, not_false_eq_true, and_self, and_true, true_and, szStr, szInt, Option.getD_some, isNil, loadStr, loadInt, mkInts0, mkInts1, mkStrs0, mkStrs1, rowsS_len, rowsI_len, evStr, evCall, List.size_toArray, List.append_nil, List.nil_append, List.map_cons, List.map_nil, argAV, argCell, List.toList_toArray, fieldTy]; first | done | rfl)); exact (fun h => by first | rfl | (simp at h; done) | exact absurd (Bool.and_eq_true_iff.mp h).2 (by decide))) | refine ops_no rfl rfl (by simp only [Ev.get, reduceIte, Nat.reduceEqDiff]; first | done | rfl) (by decide) rfl (by decide) ?_ | refine ops_off rfl rfl rfl rfl (by decide) ?_ | (refine ops_nil ?_; intro e2 h2; simp only [restr, kpIs, List.map_cons, List.map_nil, Ev.get, reduceIte, Nat.reduceEqDiff] at h2; subst h2))
          repeat (first | refine x_seq ?_ | refine x_block ?_ | refine xn_normal ?_ | refine xi_normal ?_ | refine xn_exit ?_ | refine xi_exit ?_ | refine xi_other (by decide) ?_ | refine xn_ret ?_ | refine xi_ret ?_ | refine x_skip ?_ | refine x_exit ?_ | refine x_ret ?_)
          exact x_leaves (leaves_v rfl rfl)
        · have ha : (s.get! pos).toNat < 128 := by
            rcases Nat.lt_or_ge (s.get! pos).toNat 128 with ha | ha
            · exact ha
            · rw [hgb] at ha
              have := letter_high (decode_high s pos hp ha).1 ((pos : Int) == 0)
              rw [this] at hc
              cases hc
          have hgood : letterB ((s.get! pos).toNat : Nat) (pos == 0) = true := by
            rw [hgb] at ha ⊢
            rw [decode_ascii s pos hp ha, hz] at hc
            simpa using hc
          rw [hgb] at ha
          repeat (first | refine x_seq ?_ | refine x_block ?_ | refine xn_normal ?_ | refine xi_normal ?_ | refine xn_exit ?_ | refine xi_exit ?_ | refine xi_other (by decide) ?_ | refine xn_ret ?_ | refine xi_ret ?_ | refine x_skip ?_ | refine x_exit ?_ | refine x_ret ?_)
          rw [decode_ascii s pos hp ha]
          exact ⟨s.size - (pos + 1), by omega, pos + 1, _, _, _, _, _, hp, by rw [lettersTo, hok, hgood]; rfl, rfl, by simp [setObjs], rfl, rfl⟩
      · refine xo_op hC rfl rfl (by decide) (by simp only [evOp, opd, constAV, constCell, Ev.get, reduceIte, Nat.reduceEqDiff, reduceCtorEq, evBinN, nilCmp, evBin, evInt, evUn, evConvert, evBuiltin, evLen, evField, evPart, tStr, tInt, tElem, tArr, tBool, tAgg, tField, Tryz.underlying9, Tryz.underlying3, Tryz.underlying4, Tryz.underlying5, Tryz.underlying21, Tryz.underlying160, Tryz.underlying22, Tryz.underlying77, Tryz.underlying165, Tryz.underlying41, Tryz.underlying2, Tryz.underlying173, Tryz.underlying70, Tryz.underlying102, Tryz.underlying33, List.zipWith, Option.map_some, Option.map_none, List.length_cons, List.length_nil, ne_eq, Int.reduceEq, not_false_eq_true, and_self, and_true, true_and, szStr, szInt, Option.getD_some, isNil, loadStr, loadInt, mkInts0, mkInts1, mkStrs0, mkStrs1, rowsS_len, rowsI_len, evStr]; rfl) ?_
        refine xo_nil ?_
        intro e2 h2
        simp only [restr, List.map_cons, List.map_nil, Ev.get, reduceIte, Nat.reduceEqDiff] at h2
        subst h2
        have hend : pos = s.size := by omega
        subst hend
        repeat (first | refine x_seq ?_ | refine x_block ?_ | refine xn_normal ?_ | refine xi_normal ?_ | refine xn_exit ?_ | refine xi_exit ?_ | refine xi_other (by decide) ?_ | refine xn_ret ?_ | refine xi_ret ?_ | refine x_skip ?_ | refine x_exit ?_ | refine x_ret ?_)
        refine x_cond rfl (fun hc => by cases hc) (fun hc => ?_)
        repeat (first | refine x_seq ?_ | refine x_block ?_ | refine xn_normal ?_ | refine xi_normal ?_ | refine xn_exit ?_ | refine xi_exit ?_ | refine xi_other (by decide) ?_ | refine xn_ret ?_ | refine xi_ret ?_ | refine x_skip ?_ | refine x_exit ?_ | refine x_ret ?_)
        refine x_region (kp := kpIs) mixed hC ?_
        have hz := size_zero (s := s)
        have fk : ∀ s mm, keywordG [.v (.string s)] mm = some (.v (.bool (keyword s)), mm) := fun _ _ => rfl
        by_cases h1 : 1 ≤ s.size
        · have b1 : (s != ⟨#[]⟩) = true := hz.trans (decide_eq_true h1)
          by_cases h2 : s.size ≤ 16
          · have b2 : decide ((s.size : Int) ≤ 16) = true := decide_eq_true (by omega)
            repeat (first | refine runs_seq ?_ | refine runs_block ?_ | refine next_normal ?_ | refine inside_normal ?_ | refine next_exit ?_ | refine inside_exit ?_ | refine inside_other (by decide) ?_ | refine next_ret ?_ | refine inside_ret ?_ | refine runs_ops_kept ?_ | refine runs_skip ?_ | refine runs_exit ?_ | refine runs_ret ?_ | ((first | refine' ops_op rfl rfl (by decide) ?_ ?_ ?_ | refine' ops_yes rfl rfl (by simp only [Ev.get, reduceIte, Nat.reduceEqDiff, b1, b2, t2, fk]; first | done | rfl) rfl (by decide) ?_ ?_ ?_ | refine' ops_op0 rfl rfl ?_ ?_ ?_); rotate_left 2; (focus (simp only [evOp, opd, constAV, constCell, Ev.get, reduceIte, Nat.reduceEqDiff, reduceCtorEq, evBinN, nilCmp, evBin, evInt, evUn, evConvert, evBuiltin, evLen, evField, evPart, tStr, tInt, tElem, tArr, tBool, tAgg, tField, Tryz.underlying9, Tryz.underlying3, Tryz.underlying4, Tryz.underlying5, Tryz.underlying21, Tryz.underlying160, Tryz.underlying22, Tryz.underlying77, Tryz.underlying165, Tryz.underlying41, Tryz.underlying2, Tryz.underlying173, Tryz.underlying70, Tryz.underlying102, Tryz.underlying33, List.zipWith, Option.map_some, Option.map_none, List.length_cons, List.length_nil, ne_eq, Int.reduceEq, not_false_eq_true, and_self, and_true, true_and, szStr, szInt, Option.getD_some, isNil, loadStr, loadInt, mkInts0, mkInts1, mkStrs0, mkStrs1, rowsS_len, rowsI_len, evStr, evCall, List.size_toArray, List.append_nil, List.nil_append, List.map_cons, List.map_nil, argAV, argCell, List.toList_toArray, fieldTy, b1, b2, t2, fk]; first | done | rfl)); exact (fun h => by first | rfl | (simp at h; done) | exact absurd (Bool.and_eq_true_iff.mp h).2 (by decide))) | refine ops_no rfl rfl (by simp only [Ev.get, reduceIte, Nat.reduceEqDiff, b1, b2, t2, fk]; first | done | rfl) (by decide) rfl (by decide) ?_ | refine ops_off rfl rfl rfl rfl (by decide) ?_ | (refine ops_nil ?_; intro e2 h2; simp only [restr, kpIs, List.map_cons, List.map_nil, Ev.get, reduceIte, Nat.reduceEqDiff] at h2; subst h2))
            repeat (first | refine x_seq ?_ | refine x_block ?_ | refine xn_normal ?_ | refine xi_normal ?_ | refine xn_exit ?_ | refine xi_exit ?_ | refine xi_other (by decide) ?_ | refine xn_ret ?_ | refine xi_ret ?_ | refine x_skip ?_ | refine x_exit ?_ | refine x_ret ?_)
            exact x_leaves (leaves_v rfl (by simp [isName, hok, h1, h2]; rfl))
          · have b2 : decide ((s.size : Int) ≤ 16) = false := decide_eq_false (by omega)
            repeat (first | refine runs_seq ?_ | refine runs_block ?_ | refine next_normal ?_ | refine inside_normal ?_ | refine next_exit ?_ | refine inside_exit ?_ | refine inside_other (by decide) ?_ | refine next_ret ?_ | refine inside_ret ?_ | refine runs_ops_kept ?_ | refine runs_skip ?_ | refine runs_exit ?_ | refine runs_ret ?_ | ((first | refine' ops_op rfl rfl (by decide) ?_ ?_ ?_ | refine' ops_yes rfl rfl (by simp only [Ev.get, reduceIte, Nat.reduceEqDiff, b1, b2, t2, fk]; first | done | rfl) rfl (by decide) ?_ ?_ ?_ | refine' ops_op0 rfl rfl ?_ ?_ ?_); rotate_left 2; (focus (simp only [evOp, opd, constAV, constCell, Ev.get, reduceIte, Nat.reduceEqDiff, reduceCtorEq, evBinN, nilCmp, evBin, evInt, evUn, evConvert, evBuiltin, evLen, evField, evPart, tStr, tInt, tElem, tArr, tBool, tAgg, tField, Tryz.underlying9, Tryz.underlying3, Tryz.underlying4, Tryz.underlying5, Tryz.underlying21, Tryz.underlying160, Tryz.underlying22, Tryz.underlying77, Tryz.underlying165, Tryz.underlying41, Tryz.underlying2, Tryz.underlying173, Tryz.underlying70, Tryz.underlying102, Tryz.underlying33, List.zipWith, Option.map_some, Option.map_none, List.length_cons, List.length_nil, ne_eq, Int.reduceEq, not_false_eq_true, and_self, and_true, true_and, szStr, szInt, Option.getD_some, isNil, loadStr, loadInt, mkInts0, mkInts1, mkStrs0, mkStrs1, rowsS_len, rowsI_len, evStr, evCall, List.size_toArray, List.append_nil, List.nil_append, List.map_cons, List.map_nil, argAV, argCell, List.toList_toArray, fieldTy, b1, b2, t2, fk]; first | done | rfl)); exact (fun h => by first | rfl | (simp at h; done) | exact absurd (Bool.and_eq_true_iff.mp h).2 (by decide))) | refine ops_no rfl rfl (by simp only [Ev.get, reduceIte, Nat.reduceEqDiff, b1, b2, t2, fk]; first | done | rfl) (by decide) rfl (by decide) ?_ | refine ops_off rfl rfl rfl rfl (by decide) ?_ | (refine ops_nil ?_; intro e2 h2; simp only [restr, kpIs, List.map_cons, List.map_nil, Ev.get, reduceIte, Nat.reduceEqDiff] at h2; subst h2))
            repeat (first | refine x_seq ?_ | refine x_block ?_ | refine xn_normal ?_ | refine xi_normal ?_ | refine xn_exit ?_ | refine xi_exit ?_ | refine xi_other (by decide) ?_ | refine xn_ret ?_ | refine xi_ret ?_ | refine x_skip ?_ | refine x_exit ?_ | refine x_ret ?_)
            exact x_leaves (leaves_v rfl (by simp [isName, h2]; rfl))
        · have b1 : (s != ⟨#[]⟩) = false := hz.trans (decide_eq_false h1)
          repeat (first | refine runs_seq ?_ | refine runs_block ?_ | refine next_normal ?_ | refine inside_normal ?_ | refine next_exit ?_ | refine inside_exit ?_ | refine inside_other (by decide) ?_ | refine next_ret ?_ | refine inside_ret ?_ | refine runs_ops_kept ?_ | refine runs_skip ?_ | refine runs_exit ?_ | refine runs_ret ?_ | ((first | refine' ops_op rfl rfl (by decide) ?_ ?_ ?_ | refine' ops_yes rfl rfl (by simp only [Ev.get, reduceIte, Nat.reduceEqDiff, b1, t2, fk]; first | done | rfl) rfl (by decide) ?_ ?_ ?_ | refine' ops_op0 rfl rfl ?_ ?_ ?_); rotate_left 2; (focus (simp only [evOp, opd, constAV, constCell, Ev.get, reduceIte, Nat.reduceEqDiff, reduceCtorEq, evBinN, nilCmp, evBin, evInt, evUn, evConvert, evBuiltin, evLen, evField, evPart, tStr, tInt, tElem, tArr, tBool, tAgg, tField, Tryz.underlying9, Tryz.underlying3, Tryz.underlying4, Tryz.underlying5, Tryz.underlying21, Tryz.underlying160, Tryz.underlying22, Tryz.underlying77, Tryz.underlying165, Tryz.underlying41, Tryz.underlying2, Tryz.underlying173, Tryz.underlying70, Tryz.underlying102, Tryz.underlying33, List.zipWith, Option.map_some, Option.map_none, List.length_cons, List.length_nil, ne_eq, Int.reduceEq, not_false_eq_true, and_self, and_true, true_and, szStr, szInt, Option.getD_some, isNil, loadStr, loadInt, mkInts0, mkInts1, mkStrs0, mkStrs1, rowsS_len, rowsI_len, evStr, evCall, List.size_toArray, List.append_nil, List.nil_append, List.map_cons, List.map_nil, argAV, argCell, List.toList_toArray, fieldTy, b1, t2, fk]; first | done | rfl)); exact (fun h => by first | rfl | (simp at h; done) | exact absurd (Bool.and_eq_true_iff.mp h).2 (by decide))) | refine ops_no rfl rfl (by simp only [Ev.get, reduceIte, Nat.reduceEqDiff, b1, t2, fk]; first | done | rfl) (by decide) rfl (by decide) ?_ | refine ops_off rfl rfl rfl rfl (by decide) ?_ | (refine ops_nil ?_; intro e2 h2; simp only [restr, kpIs, List.map_cons, List.map_nil, Ev.get, reduceIte, Nat.reduceEqDiff] at h2; subst h2))
          repeat (first | refine x_seq ?_ | refine x_block ?_ | refine xn_normal ?_ | refine xi_normal ?_ | refine xn_exit ?_ | refine xi_exit ?_ | refine xi_other (by decide) ?_ | refine xn_ret ?_ | refine xi_ret ?_ | refine x_skip ?_ | refine x_exit ?_ | refine x_ret ?_)
          exact x_leaves (leaves_v rfl (by simp [isName, h1]; rfl))
    · cases h
  · cases h
end Go.Proofs.YtojaokhkbmiidaaGreat.Ev

namespace Go.Proofs.YtojaokhkbmiidaaGreat.Ev
open Go Go.Proofs
set_option maxRecDepth 10000
set_option maxHeartbeats 8000000
set_option linter.unusedVariables false
set_option linter.unusedSimpArgs false
attribute [local irreducible] Next Inside Runs Ops table
attribute [local irreducible] XRuns XOps XNext XInside XAny XStep
attribute [local go_sem] szStr szInt Option.getD_some isNil evStr
def kpPCount : Nat → Option (List Nat) := fun
  | 0 => some [0]
  | 1 => some [2]
  | _ => none
attribute [go_sem] kpPCount
theorem pcount_ok : FunOk Tryz.prog 72 (upTo 1099511627776) := by
  have hC := table_ok (P := Tryz.prog) (l := []) table_nil
  refine fun_ok mixed hC Tryz.func72 rfl kpPCount false rfl fun args m r h => ?_
  unfold upTo at h
  split at h
  · rename_i x
    simp only [Option.some.injEq] at h
    subst h
    refine ⟨Nat.le_of_ble_eq_true rfl, ?_⟩
    simp only [entry, List.length_cons, List.length_nil, List.range, List.range.loop, List.zip_cons_cons, List.zip_nil_right]
    have fin : ∀ (e : Env) (b : Bool), Ev.get e 2 = .v (.bool b) → b = decide (0 ≤ x ∧ x ≤ 1099511627776) → Leaves Tryz.prog false Tryz.f72 m (.v (.bool (decide (0 ≤ x ∧ x ≤ 1099511627776))), m) .ret e m := fun e b h1 h2 => by rw [← h2]; exact leaves_v rfl h1
    repeat' (first | refine gos0 ?_ | (refine ops_here ?_; (fail_if_success (refine ops_case (B := true) rfl rfl rfl ?_ ?_)); (fail_if_success (refine ops_case (B := false) rfl rfl rfl ?_ ?_)); refine ops_case rfl rfl rfl (fun hB => ?_) (fun hB => ?_) <;> rw [hB]) | (refine runs_here ?_; refine runs_cond rfl (fun hc => ?_) (fun hc => ?_) <;> first | (cases hc; done) | skip))
    all_goals exact fin _ _ rfl (by rw [Bool.eq_iff_iff]; simp only [decide_eq_true_eq, decide_eq_false_iff_not, Bool.false_eq_true, false_iff, true_iff] at *; omega)
  · cases h
def kpPValue : Nat → Option (List Nat) := fun
  | 0 => some [0]
  | 1 => some [2]
  | _ => none
attribute [go_sem] kpPValue
theorem pvalue_ok : FunOk Tryz.prog 126 (upTo 4503599627370496) := by
  have hC := table_ok (P := Tryz.prog) (l := []) table_nil
  refine fun_ok mixed hC Tryz.func126 rfl kpPValue false rfl fun args m r h => ?_
  unfold upTo at h
  split at h
  · rename_i x
    simp only [Option.some.injEq] at h
    subst h
    refine ⟨Nat.le_of_ble_eq_true rfl, ?_⟩
    simp only [entry, List.length_cons, List.length_nil, List.range, List.range.loop, List.zip_cons_cons, List.zip_nil_right]
    have fin : ∀ (e : Env) (b : Bool), Ev.get e 2 = .v (.bool b) → b = decide (0 ≤ x ∧ x ≤ 4503599627370496) → Leaves Tryz.prog false Tryz.f126 m (.v (.bool (decide (0 ≤ x ∧ x ≤ 4503599627370496))), m) .ret e m := fun e b h1 h2 => by rw [← h2]; exact leaves_v rfl h1
    repeat' (first | refine gos0 ?_ | (refine ops_here ?_; (fail_if_success (refine ops_case (B := true) rfl rfl rfl ?_ ?_)); (fail_if_success (refine ops_case (B := false) rfl rfl rfl ?_ ?_)); refine ops_case rfl rfl rfl (fun hB => ?_) (fun hB => ?_) <;> rw [hB]) | (refine runs_here ?_; refine runs_cond rfl (fun hc => ?_) (fun hc => ?_) <;> first | (cases hc; done) | skip))
    all_goals exact fin _ _ rfl (by rw [Bool.eq_iff_iff]; simp only [decide_eq_true_eq, decide_eq_false_iff_not, Bool.false_eq_true, false_iff, true_iff] at *; omega)
  · cases h
/-! ### the parts of a recipe -/
def Rc.tp (R : Rc) : Tp := ⟨R.stopOn, R.stopMetric, R.stopMax, R.stopPatience, R.stopDelta, R.stopRel⟩
def Rc.pt (R : Rc) : Pt := ⟨R.plateauOn, R.plateauMetric, R.plateauMax, R.plateauFactor, R.plateauPatience, R.plateauCooldown, R.plateauFloor, R.plateauDelta⟩
def Rc.kp (R : Rc) : Kp := ⟨R.keepOn, R.keepMetric, R.keepMax, R.keepCount⟩
def Rc.em (R : Rc) : Em := ⟨R.emaOn, R.emaDecay⟩
def Rc.sw (R : Rc) : Sw := ⟨R.swaOn, R.swaFromU, R.swaFromN, R.swaEvery⟩
def countB (x : Int) : Bool := decide (0 ≤ x ∧ x ≤ 1099511627776)
def valueB (x : Int) : Bool := decide (0 ≤ x ∧ x ≤ 4503599627370496)
def tpEq (x y : Tp) : Bool := (x.On == y.On) && ((x.Metric == y.Metric) && ((x.Max == y.Max) && ((x.Patience == y.Patience) && ((x.Delta == y.Delta) && ((x.Rel == y.Rel) && true)))))
def ptEq (x y : Pt) : Bool := (x.On == y.On) && ((x.Metric == y.Metric) && ((x.Max == y.Max) && ((x.Factor == y.Factor) && ((x.Patience == y.Patience) && ((x.Cooldown == y.Cooldown) && ((x.Floor == y.Floor) && ((x.Delta == y.Delta) && true)))))))
def kpEq (x y : Kp) : Bool := (x.On == y.On) && ((x.Metric == y.Metric) && ((x.Max == y.Max) && ((x.Count == y.Count) && true)))
def emEq (x y : Em) : Bool := (x.On == y.On) && ((x.Decay == y.Decay) && true)
def swEq (x y : Sw) : Bool := (x.On == y.On) && (((x.FromU == y.FromU) && ((x.FromN == y.FromN) && true)) && ((x.Every == y.Every) && true))
theorem eqTp' {x y : Tp} : eqTy Tryz.prog 8 25 (.agg x.row) (.agg y.row) = some (tpEq x y) := eqTp
theorem eqPt' {x y : Pt} : eqTy Tryz.prog 8 27 (.agg x.row) (.agg y.row) = some (ptEq x y) := eqPt
theorem eqKp' {x y : Kp} : eqTy Tryz.prog 8 29 (.agg x.row) (.agg y.row) = some (kpEq x y) := eqKp
theorem eqEm' {x y : Em} : eqTy Tryz.prog 8 31 (.agg x.row) (.agg y.row) = some (emEq x y) := eqEm
theorem eqSw' {x y : Sw} : eqTy Tryz.prog 8 35 (.agg x.row) (.agg y.row) = some (swEq x y) := eqSw
def Tp.bad (x : Tp) : Bool := x.On && !(isName x.Metric && (countB x.Patience && valueB x.Delta))
def Pt.bad (x : Pt) : Bool := x.On && !(isName x.Metric && (valueB x.Factor && (countB x.Patience && (countB x.Cooldown && (valueB x.Floor && valueB x.Delta)))))
def Kp.bad (x : Kp) : Bool := x.On && !(isName x.Metric && countB x.Count)
def Em.bad (x : Em) : Bool := x.On && !valueB x.Decay
def Sw.bad (x : Sw) : Bool := x.On && (!decide (lenMay x.FromU x.FromN) || (x.FromU == 3 || !countB x.Every))
def Tp.may (x : Tp) : Bool := !x.bad && (x.On || tpEq x tp0)
def Pt.may (x : Pt) : Bool := !x.bad && (x.On || ptEq x pt0)
def Kp.may (x : Kp) : Bool := !x.bad && (x.On || kpEq x kp0)
def Em.may (x : Em) : Bool := !x.bad && (x.On || emEq x em0)
def Sw.may (x : Sw) : Bool := !x.bad && (x.On || swEq x sw0)
def Rc.endsMay (R : Rc) : Bool := R.tp.may && (R.pt.may && (R.kp.may && (R.em.may && R.sw.may)))
def endsRG : List AV → Mem → Option (AV × Mem)
  | [.agg cs], m =>
    match unRc cs with
    | some R => if R.stopMetric.size ≤ 9223372036854775807 ∧ R.plateauMetric.size ≤ 9223372036854775807 ∧ R.keepMetric.size ≤ 9223372036854775807 then some (.v (.bool R.endsMay), m) else none
    | none => none
  | _, _ => none
theorem runs_rcut {P : Program} {call : CallF} {nt : Nat} {kp : Nat → Option (List Nat)} {c : Code} {e : Env} {m : Mem} {Q : Ex → Env → Mem → Prop} (E : Env) (M : Mem) (h : Runs P call nt kp c e m fun x e2 m2 => x = .normal ∧ e2 = E ∧ m2 = M) (hk : Q .normal E M) : Runs P call nt kp c e m Q :=
  runs_mono h fun x e2 m2 ⟨h1, h2, h3⟩ => by rw [h1, h2, h3]; exact hk
def setv (m : Mem) (q : Nat) (cs : List AV) : Mem := { m with vars := m.vars.set q (some cs) }
theorem setv_self {m : Mem} {q : Nat} {cs old : List AV} (h : m.var q = some old) : (setv m q cs).var q = some cs := by
  apply var_of
  show (m.vars.set q _)[q]? = _
  rw [List.getElem?_set_self (var_lt h).1]
theorem setv_ne {m : Mem} {q r : Nat} {cs old : List AV} (hq : r ≠ q) (h : m.var r = some old) : (setv m q cs).var r = some old := var_set_ne hq h
theorem above_setv {m m' : Mem} {q : Nat} {cs : List AV} (h : Above m m') (hq : m.vars.length ≤ q) : Above m (setv m' q cs) := by
  obtain ⟨L, rfl⟩ := h
  refine ⟨L.set (q - m.vars.length) (some cs), ?_⟩
  unfold setv
  simp only [List.set_append_right _ _ hq]
theorem store_var {P : Program} {m : Mem} {t : TypeId} {q : Nat} {x : AV} {old cs : List AV} (hc : cellsOf x = some cs) (ht : tSize P t = some cs.length) (hv : m.var q = some old) (ho : old.length = cs.length) (hr : cs.all (refLe q) = true) : evStore P m t (.ptr q 0) x = some (setv m q cs) := by
  unfold evStore
  simp only [hc, ht, hv]
  rw [if_pos ⟨trivial, by omega, hr⟩]
  have : splice old 0 cs = cs := by
    unfold splice
    simp [ho]
  rw [this]
  rfl
theorem push_len {m : Mem} {cs : List AV} : (m.push cs).vars.length = m.vars.length + 1 := by simp [Mem.push]
theorem newVar_hole {m : Mem} {p : Nat} {cs : List AV} (h : cs.all (refLe p) = true) (hp : m.vars[p]? = some none) : newVar m p cs = some (setv m p cs) := by
  have hlt : p < m.vars.length := (List.getElem?_eq_some_iff.1 hp).1
  unfold newVar
  rw [if_pos h, if_neg (by omega), hp]
  rfl
theorem setv_app {V L : List (Option (List AV))} {T : List Nat} {q : Nat} {cs : List AV} : setv { vars := V ++ L, toks := T } (V.length + q) cs = { vars := V ++ L.set q (some cs), toks := T } := by
  unfold setv
  simp only [List.set_append_right _ _ (Nat.le_add_right V.length q), Nat.add_sub_cancel_left]
def slotS (a b : Bool) (z r : List AV) : Option (List AV) := if a then some (if b then r else z) else none
def kpEndsR : Nat → Option (List Nat) := fun
  | 0 => some [1]
  | 1 => some [1, 3, 4, 5]
  | 2 => some [1, 3, 4, 5, 12]
  | 3 => some [1, 3, 4, 5, 12]
  | 5 => some [1, 4, 5, 39]
  | 6 => some [1, 4, 5, 39]
  | 8 => some [1, 5, 81]
  | 9 => some [1, 5, 81]
  | 11 => some [1, 103]
  | 12 => some [1, 103]
  | 14 => some [1, 124]
  | _ => some [2]
attribute [go_sem] kpEndsR
attribute [local go_sem] iv fpRcStop fpRcPlateau fpRcKeep cellsRc newRc zrTp zoTp znTp zrPt zoPt znPt zrKp zoKp znKp fpTpOn fpTpMetric fpTpPatience fpTpDelta mk0Tp niTp eqTp' fpPtOn fpPtMetric fpPtFactor fpPtPatience fpPtCooldown fpPtFloor fpPtDelta mk0Pt niPt eqPt' fpKpOn fpKpMetric fpKpCount mk0Kp niKp eqKp' fpRcEma fpRcEmaOn fpRcEmaDecay mk0Em niEm eqEm' fpRcSwa fpRcSwaOn fpRcSwaFrom fpRcSwaFromU fpRcSwaEvery mk0Sw niSw eqSw'
theorem endsR_ok : FunOk Tryz.prog 77 endsRG := by
  have hC := table_ok (P := Tryz.prog) (l := [(122, isNameG), (72, upTo 1099511627776), (126, upTo 4503599627370496), (104, lenCheckG)]) (table_more is_ok (table_more pcount_ok (table_more pvalue_ok (table_more lenCheck_ok table_nil))))
  have t1 := fun args mm => table_at (l := [(122, isNameG), (72, upTo 1099511627776), (126, upTo 4503599627370496), (104, lenCheckG)]) (f := 122) (args := args) (m := mm) rfl
  have t2 := fun args mm => table_at (l := [(122, isNameG), (72, upTo 1099511627776), (126, upTo 4503599627370496), (104, lenCheckG)]) (f := 72) (args := args) (m := mm) rfl
  have t3 := fun args mm => table_at (l := [(122, isNameG), (72, upTo 1099511627776), (126, upTo 4503599627370496), (104, lenCheckG)]) (f := 126) (args := args) (m := mm) rfl
  have t4 := fun args mm => table_at (l := [(122, isNameG), (72, upTo 1099511627776), (126, upTo 4503599627370496), (104, lenCheckG)]) (f := 104) (args := args) (m := mm) rfl
  refine fun_okX Tryz.func77 rfl false rfl fun args m r h => ?_
  unfold endsRG at h
  split at h
  · rename_i cs
    split at h
    · rename_i R hR
      obtain rfl := unRc_some hR
      split at h
      · rename_i hs
        simp only [Option.some.injEq] at h
        subst h
        refine ⟨Nat.le_of_ble_eq_true rfl, fun φ w => ?_⟩
        simp only [entry, List.length_cons, List.length_nil, List.range, List.range.loop, List.zip_cons_cons, List.zip_nil_right]
        repeat (first | refine x_seq ?_ | refine x_block ?_ | refine xn_normal ?_ | refine xi_normal ?_ | refine xn_exit ?_ | refine xi_exit ?_ | refine xi_other (by decide) ?_ | refine xn_ret ?_ | refine xi_ret ?_ | refine x_skip ?_ | refine x_exit ?_ | refine x_ret ?_)
        refine x_region (kp := kpEndsR) mixed hC ?_
        refine go0 ?_
        have hA := above_push (cs := R.row) (above_self m)
        have hv1 : (m.push R.row).var m.vars.length = some R.row := push_var
        have hlt : m.vars.length < (m.push R.row).vars.length := by rw [push_len]; omega
        generalize m.push R.row = m1 at hA hv1 hlt
        generalize hn : m.vars.length = n1 at hv1 hlt
        repeat (first | refine x_seq ?_ | refine x_block ?_ | refine xn_normal ?_ | refine xi_normal ?_ | refine xn_exit ?_ | refine xi_exit ?_ | refine xi_other (by decide) ?_ | refine xn_ret ?_ | refine xi_ret ?_ | refine x_skip ?_ | refine x_exit ?_ | refine x_ret ?_)
        refine x_icut (fun e m2 F => ∃ n3 n4 n5, Above m m2 ∧ m2.var n1 = some R.row ∧ m2.var n3 = some R.tp.row ∧ m2.var n4 = some R.pt.row ∧ m2.var n5 = some R.kp.row ∧ e = [(1, .ptr n1 0), (3, .ptr n3 0), (4, .ptr n4 0), (5, .ptr n5 0)]) ?_ ?_
        · let MS : (Nat → Bool) → Mem := fun S => { vars := m1.vars ++ [slotS (S 6) (S 9) zeroTp R.tp.row, slotS (S 7) (S 10) zeroPt R.pt.row, slotS (S 8) (S 11) zeroKp R.kp.row], toks := m1.toks }
          have hMv : ∀ S, (MS S).var n1 = some R.row := fun S => by
            apply var_of
            show (m1.vars ++ _)[n1]? = _
            rw [List.getElem?_append_left hlt, (var_lt hv1).2]
          have hQ : ∀ S (q : Nat), (MS S).var (m1.vars.length + q) = ([slotS (S 6) (S 9) zeroTp R.tp.row, slotS (S 7) (S 10) zeroPt R.pt.row, slotS (S 8) (S 11) zeroKp R.kp.row][q]?).join := fun S q => by
            show ((m1.vars ++ _)[m1.vars.length + q]?).join = _
            rw [List.getElem?_append_right (by omega), Nat.add_sub_cancel_left]
          refine x_sets0 (l2 := kpEndsR 1) mixed hC (by decide +kernel) (by decide +kernel) (fun i => [.ptr n1 8, .agg R.tp.row, .ptr n1 14, .agg R.pt.row, .ptr n1 22, .agg R.kp.row, .ptr (m1.vars.length + 0) 0, .ptr (m1.vars.length + 1) 0, .ptr (m1.vars.length + 2) 0, .v (.tuple #[]), .v (.tuple #[]), .v (.tuple #[])].getD i .junk) MS
            (m' := { vars := m1.vars ++ [some R.tp.row, some R.pt.row, some R.kp.row], toks := m1.toks }) ?_ rfl ?_ ?_ ?_
          · intro r
            show (m1.vars[r]?).join = ((m1.vars ++ [none, none, none])[r]?).join
            by_cases h : r < m1.vars.length
            · rw [List.getElem?_append_left h]
            · rw [List.getElem?_append_right (by omega), List.getElem?_eq_none (by omega)]
              match r - m1.vars.length with
              | 0 => rfl
              | 1 => rfl
              | 2 => rfl
              | n + 3 => rfl
          · intro S i o ho hc hi hr
            match i, ho with
            | 0, ho =>
              cases ho
              refine .inl ?_
              show _ = some (_, MS S)
              simp only [evOp, opd, constAV, constCell, Ev.get, reduceIte, Nat.reduceEqDiff, reduceCtorEq, evBinN, nilCmp, evBin, evInt, evUn, evConvert, evBuiltin, evLen, evField, evPart, tStr, tInt, tElem, tArr, tBool, tAgg, tField, Tryz.underlying9, Tryz.underlying3, Tryz.underlying4, Tryz.underlying5, Tryz.underlying21, Tryz.underlying160, Tryz.underlying22, Tryz.underlying77, Tryz.underlying165, Tryz.underlying41, Tryz.underlying2, Tryz.underlying173, Tryz.underlying70, Tryz.underlying102, Tryz.underlying33, List.zipWith, Option.map_some, Option.map_none, List.length_cons, List.length_nil, ne_eq, Int.reduceEq, not_false_eq_true, and_self, and_true, true_and, envOf, List.getElem?_cons_zero, List.getElem?_cons_succ, Option.bind_some, List.getD_cons_zero, List.getD_cons_succ, List.getElem?_toArray]
              try rfl
            | 1, ho =>
              cases ho
              refine .inl ?_
              show _ = some (_, MS S)
              have l1 := lpRcStop (hMv S)
              simp only [evOp, opd, constAV, constCell, Ev.get, reduceIte, Nat.reduceEqDiff, reduceCtorEq, evBinN, nilCmp, evBin, evInt, evUn, evConvert, evBuiltin, evLen, evField, evPart, tStr, tInt, tElem, tArr, tBool, tAgg, tField, Tryz.underlying9, Tryz.underlying3, Tryz.underlying4, Tryz.underlying5, Tryz.underlying21, Tryz.underlying160, Tryz.underlying22, Tryz.underlying77, Tryz.underlying165, Tryz.underlying41, Tryz.underlying2, Tryz.underlying173, Tryz.underlying70, Tryz.underlying102, Tryz.underlying33, List.zipWith, Option.map_some, Option.map_none, List.length_cons, List.length_nil, ne_eq, Int.reduceEq, not_false_eq_true, and_self, and_true, true_and, envOf, List.getElem?_cons_zero, List.getElem?_cons_succ, Option.bind_some, List.getD_cons_zero, List.getD_cons_succ, List.getElem?_toArray, l1]
              try rfl
            | 2, ho =>
              cases ho
              refine .inl ?_
              show _ = some (_, MS S)
              simp only [evOp, opd, constAV, constCell, Ev.get, reduceIte, Nat.reduceEqDiff, reduceCtorEq, evBinN, nilCmp, evBin, evInt, evUn, evConvert, evBuiltin, evLen, evField, evPart, tStr, tInt, tElem, tArr, tBool, tAgg, tField, Tryz.underlying9, Tryz.underlying3, Tryz.underlying4, Tryz.underlying5, Tryz.underlying21, Tryz.underlying160, Tryz.underlying22, Tryz.underlying77, Tryz.underlying165, Tryz.underlying41, Tryz.underlying2, Tryz.underlying173, Tryz.underlying70, Tryz.underlying102, Tryz.underlying33, List.zipWith, Option.map_some, Option.map_none, List.length_cons, List.length_nil, ne_eq, Int.reduceEq, not_false_eq_true, and_self, and_true, true_and, envOf, List.getElem?_cons_zero, List.getElem?_cons_succ, Option.bind_some, List.getD_cons_zero, List.getD_cons_succ, List.getElem?_toArray]
              try rfl
            | 3, ho =>
              cases ho
              refine .inl ?_
              show _ = some (_, MS S)
              have l1 := lpRcPlateau (hMv S)
              simp only [evOp, opd, constAV, constCell, Ev.get, reduceIte, Nat.reduceEqDiff, reduceCtorEq, evBinN, nilCmp, evBin, evInt, evUn, evConvert, evBuiltin, evLen, evField, evPart, tStr, tInt, tElem, tArr, tBool, tAgg, tField, Tryz.underlying9, Tryz.underlying3, Tryz.underlying4, Tryz.underlying5, Tryz.underlying21, Tryz.underlying160, Tryz.underlying22, Tryz.underlying77, Tryz.underlying165, Tryz.underlying41, Tryz.underlying2, Tryz.underlying173, Tryz.underlying70, Tryz.underlying102, Tryz.underlying33, List.zipWith, Option.map_some, Option.map_none, List.length_cons, List.length_nil, ne_eq, Int.reduceEq, not_false_eq_true, and_self, and_true, true_and, envOf, List.getElem?_cons_zero, List.getElem?_cons_succ, Option.bind_some, List.getD_cons_zero, List.getD_cons_succ, List.getElem?_toArray, l1]
              try rfl
            | 4, ho =>
              cases ho
              refine .inl ?_
              show _ = some (_, MS S)
              simp only [evOp, opd, constAV, constCell, Ev.get, reduceIte, Nat.reduceEqDiff, reduceCtorEq, evBinN, nilCmp, evBin, evInt, evUn, evConvert, evBuiltin, evLen, evField, evPart, tStr, tInt, tElem, tArr, tBool, tAgg, tField, Tryz.underlying9, Tryz.underlying3, Tryz.underlying4, Tryz.underlying5, Tryz.underlying21, Tryz.underlying160, Tryz.underlying22, Tryz.underlying77, Tryz.underlying165, Tryz.underlying41, Tryz.underlying2, Tryz.underlying173, Tryz.underlying70, Tryz.underlying102, Tryz.underlying33, List.zipWith, Option.map_some, Option.map_none, List.length_cons, List.length_nil, ne_eq, Int.reduceEq, not_false_eq_true, and_self, and_true, true_and, envOf, List.getElem?_cons_zero, List.getElem?_cons_succ, Option.bind_some, List.getD_cons_zero, List.getD_cons_succ, List.getElem?_toArray]
              try rfl
            | 5, ho =>
              cases ho
              refine .inl ?_
              show _ = some (_, MS S)
              have l1 := lpRcKeep (hMv S)
              simp only [evOp, opd, constAV, constCell, Ev.get, reduceIte, Nat.reduceEqDiff, reduceCtorEq, evBinN, nilCmp, evBin, evInt, evUn, evConvert, evBuiltin, evLen, evField, evPart, tStr, tInt, tElem, tArr, tBool, tAgg, tField, Tryz.underlying9, Tryz.underlying3, Tryz.underlying4, Tryz.underlying5, Tryz.underlying21, Tryz.underlying160, Tryz.underlying22, Tryz.underlying77, Tryz.underlying165, Tryz.underlying41, Tryz.underlying2, Tryz.underlying173, Tryz.underlying70, Tryz.underlying102, Tryz.underlying33, List.zipWith, Option.map_some, Option.map_none, List.length_cons, List.length_nil, ne_eq, Int.reduceEq, not_false_eq_true, and_self, and_true, true_and, envOf, List.getElem?_cons_zero, List.getElem?_cons_succ, Option.bind_some, List.getD_cons_zero, List.getD_cons_succ, List.getElem?_toArray, l1]
              try rfl
            | 6, ho =>
              cases ho
              have h9 : S 9 = false := by
                cases h : S 9 with
                | false => rfl
                | true =>
                  have := hc 9 _ rfl h ⟨6, .data⟩ (by simp) rfl
                  rw [this] at hi
                  cases hi
              refine .inr ⟨_, zeroTp, m1.vars.length + 0, rfl, zrTp, zoTp, ?_, rfl⟩
              rw [newVar_hole rfl (by show (m1.vars ++ _)[m1.vars.length + 0]? = _; rw [List.getElem?_append_right (by omega), Nat.add_sub_cancel_left]; show some (slotS (S 6) (S 9) zeroTp _) = _; rw [hi]; rfl)]
              show some (setv { vars := _ ++ _, toks := _ } _ _) = _
              rw [setv_app]
              show some ({ vars := _ ++ [_, _, _], toks := _ } : Mem) = some { vars := _ ++ [_, _, _], toks := _ }
              simp only [ins, slotS, h9]
              rfl
            | 7, ho =>
              cases ho
              have h9 : S 10 = false := by
                cases h : S 10 with
                | false => rfl
                | true =>
                  have := hc 10 _ rfl h ⟨7, .data⟩ (by simp) rfl
                  rw [this] at hi
                  cases hi
              refine .inr ⟨_, zeroPt, m1.vars.length + 1, rfl, zrPt, zoPt, ?_, rfl⟩
              rw [newVar_hole rfl (by show (m1.vars ++ _)[m1.vars.length + 1]? = _; rw [List.getElem?_append_right (by omega), Nat.add_sub_cancel_left]; show some (slotS (S 7) (S 10) zeroPt _) = _; rw [hi]; rfl)]
              show some (setv { vars := _ ++ _, toks := _ } _ _) = _
              rw [setv_app]
              show some ({ vars := _ ++ [_, _, _], toks := _ } : Mem) = some { vars := _ ++ [_, _, _], toks := _ }
              simp only [ins, slotS, h9]
              rfl
            | 8, ho =>
              cases ho
              have h9 : S 11 = false := by
                cases h : S 11 with
                | false => rfl
                | true =>
                  have := hc 11 _ rfl h ⟨8, .data⟩ (by simp) rfl
                  rw [this] at hi
                  cases hi
              refine .inr ⟨_, zeroKp, m1.vars.length + 2, rfl, zrKp, zoKp, ?_, rfl⟩
              rw [newVar_hole rfl (by show (m1.vars ++ _)[m1.vars.length + 2]? = _; rw [List.getElem?_append_right (by omega), Nat.add_sub_cancel_left]; show some (slotS (S 8) (S 11) zeroKp _) = _; rw [hi]; rfl)]
              show some (setv { vars := _ ++ _, toks := _ } _ _) = _
              rw [setv_app]
              show some ({ vars := _ ++ [_, _, _], toks := _ } : Mem) = some { vars := _ ++ [_, _, _], toks := _ }
              simp only [ins, slotS, h9]
              rfl
            | 9, ho =>
              cases ho
              have h6 : S 6 = true := hr ⟨6, .data⟩ (by simp) rfl
              refine .inl ?_
              have hv := hQ S 0
              have hs : ([slotS (S 6) (S 9) zeroTp R.tp.row, slotS (S 7) (S 10) zeroPt R.pt.row, slotS (S 8) (S 11) zeroKp R.kp.row][0]?).join = some zeroTp := by
                show (some (slotS (S 6) (S 9) zeroTp _)).join = _
                rw [h6, hi]
                rfl
              rw [hs] at hv
              have st := store_var (P := Tryz.prog) (t := 25) (x := .agg R.tp.row) (cs := R.tp.row) rfl szTp hv rfl rfl
              simp only [evOp, opd, constAV, constCell, Ev.get, reduceIte, Nat.reduceEqDiff, reduceCtorEq, evBinN, nilCmp, evBin, evInt, evUn, evConvert, evBuiltin, evLen, evField, evPart, tStr, tInt, tElem, tArr, tBool, tAgg, tField, Tryz.underlying9, Tryz.underlying3, Tryz.underlying4, Tryz.underlying5, Tryz.underlying21, Tryz.underlying160, Tryz.underlying22, Tryz.underlying77, Tryz.underlying165, Tryz.underlying41, Tryz.underlying2, Tryz.underlying173, Tryz.underlying70, Tryz.underlying102, Tryz.underlying33, List.zipWith, Option.map_some, Option.map_none, List.length_cons, List.length_nil, ne_eq, Int.reduceEq, not_false_eq_true, and_self, and_true, true_and, envOf, List.getElem?_cons_zero, List.getElem?_cons_succ, Option.bind_some, List.getD_cons_zero, List.getD_cons_succ, List.getElem?_toArray, st]
              show some (_, setv { vars := _ ++ _, toks := _ } _ _) = _
              rw [setv_app]
              show some (_, ({ vars := _ ++ [_, _, _], toks := _ } : Mem)) = some (_, { vars := _ ++ [_, _, _], toks := _ })
              simp only [ins, slotS, h6]
              rfl
            | 10, ho =>
              cases ho
              have h6 : S 7 = true := hr ⟨7, .data⟩ (by simp) rfl
              refine .inl ?_
              have hv := hQ S 1
              have hs : ([slotS (S 6) (S 9) zeroTp R.tp.row, slotS (S 7) (S 10) zeroPt R.pt.row, slotS (S 8) (S 11) zeroKp R.kp.row][1]?).join = some zeroPt := by
                show (some (slotS (S 7) (S 10) zeroPt _)).join = _
                rw [h6, hi]
                rfl
              rw [hs] at hv
              have st := store_var (P := Tryz.prog) (t := 27) (x := .agg R.pt.row) (cs := R.pt.row) rfl szPt hv rfl rfl
              simp only [evOp, opd, constAV, constCell, Ev.get, reduceIte, Nat.reduceEqDiff, reduceCtorEq, evBinN, nilCmp, evBin, evInt, evUn, evConvert, evBuiltin, evLen, evField, evPart, tStr, tInt, tElem, tArr, tBool, tAgg, tField, Tryz.underlying9, Tryz.underlying3, Tryz.underlying4, Tryz.underlying5, Tryz.underlying21, Tryz.underlying160, Tryz.underlying22, Tryz.underlying77, Tryz.underlying165, Tryz.underlying41, Tryz.underlying2, Tryz.underlying173, Tryz.underlying70, Tryz.underlying102, Tryz.underlying33, List.zipWith, Option.map_some, Option.map_none, List.length_cons, List.length_nil, ne_eq, Int.reduceEq, not_false_eq_true, and_self, and_true, true_and, envOf, List.getElem?_cons_zero, List.getElem?_cons_succ, Option.bind_some, List.getD_cons_zero, List.getD_cons_succ, List.getElem?_toArray, st]
              show some (_, setv { vars := _ ++ _, toks := _ } _ _) = _
              rw [setv_app]
              show some (_, ({ vars := _ ++ [_, _, _], toks := _ } : Mem)) = some (_, { vars := _ ++ [_, _, _], toks := _ })
              simp only [ins, slotS, h6]
              rfl
            | 11, ho =>
              cases ho
              have h6 : S 8 = true := hr ⟨8, .data⟩ (by simp) rfl
              refine .inl ?_
              have hv := hQ S 2
              have hs : ([slotS (S 6) (S 9) zeroTp R.tp.row, slotS (S 7) (S 10) zeroPt R.pt.row, slotS (S 8) (S 11) zeroKp R.kp.row][2]?).join = some zeroKp := by
                show (some (slotS (S 8) (S 11) zeroKp _)).join = _
                rw [h6, hi]
                rfl
              rw [hs] at hv
              have st := store_var (P := Tryz.prog) (t := 29) (x := .agg R.kp.row) (cs := R.kp.row) rfl szKp hv rfl rfl
              simp only [evOp, opd, constAV, constCell, Ev.get, reduceIte, Nat.reduceEqDiff, reduceCtorEq, evBinN, nilCmp, evBin, evInt, evUn, evConvert, evBuiltin, evLen, evField, evPart, tStr, tInt, tElem, tArr, tBool, tAgg, tField, Tryz.underlying9, Tryz.underlying3, Tryz.underlying4, Tryz.underlying5, Tryz.underlying21, Tryz.underlying160, Tryz.underlying22, Tryz.underlying77, Tryz.underlying165, Tryz.underlying41, Tryz.underlying2, Tryz.underlying173, Tryz.underlying70, Tryz.underlying102, Tryz.underlying33, List.zipWith, Option.map_some, Option.map_none, List.length_cons, List.length_nil, ne_eq, Int.reduceEq, not_false_eq_true, and_self, and_true, true_and, envOf, List.getElem?_cons_zero, List.getElem?_cons_succ, Option.bind_some, List.getD_cons_zero, List.getD_cons_succ, List.getElem?_toArray, st]
              show some (_, setv { vars := _ ++ _, toks := _ } _ _) = _
              rw [setv_app]
              show some (_, ({ vars := _ ++ [_, _, _], toks := _ } : Mem)) = some (_, { vars := _ ++ [_, _, _], toks := _ })
              simp only [ins, slotS, h6]
              rfl
            | n + 12, ho => simp at ho
          · intro S hS
            have h6 := hS 6 (by decide)
            have h7 := hS 7 (by decide)
            have h8 := hS 8 (by decide)
            have h9 := hS 9 (by decide)
            have h10 := hS 10 (by decide)
            have h11 := hS 11 (by decide)
            show ({ vars := _, toks := _ } : Mem) = _
            simp only [h6, h7, h8, h9, h10, h11]
            rfl
          · rintro e2 rfl
            refine ⟨m1.vars.length + 0, m1.vars.length + 1, m1.vars.length + 2, ?_, ?_, ?_, ?_, ?_, rfl⟩
            · obtain ⟨L, rfl⟩ := hA
              exact ⟨L ++ [some R.tp.row, some R.pt.row, some R.kp.row], by simp⟩
            · exact var_of (by show (m1.vars ++ _)[n1]? = _; rw [List.getElem?_append_left hlt, (var_lt hv1).2])
            · exact var_of (by show (m1.vars ++ _)[m1.vars.length + 0]? = _; rw [List.getElem?_append_right (by omega), Nat.add_sub_cancel_left]; rfl)
            · exact var_of (by show (m1.vars ++ _)[m1.vars.length + 1]? = _; rw [List.getElem?_append_right (by omega), Nat.add_sub_cancel_left]; rfl)
            · exact var_of (by show (m1.vars ++ _)[m1.vars.length + 2]? = _; rw [List.getElem?_append_right (by omega), Nat.add_sub_cancel_left]; rfl)
        · rintro e m2 F ⟨n3, n4, n5, hA2, h1, h3, h4, h5, rfl⟩
          have fin := above_fin hA2
          have ct : ∀ x mm, upTo 1099511627776 [.v (.int .i64 x)] mm = some (.v (.bool (countB x)), mm) := fun _ _ => rfl
          have vt : ∀ x mm, upTo 4503599627370496 [.v (.int .i64 x)] mm = some (.v (.bool (valueB x)), mm) := fun _ _ => rfl
          have a1 := lpTpOn h3
          have a2 := lpTpMetric h3
          have a3 := lpTpPatience h3
          have a4 := lpTpDelta h3
          have a5 := vrTp h3
          have i1 := fun mm => isNameG_eq (s := R.tp.Metric) (m := mm) hs.1
          refine xn_normal ?_
          refine x_lift (kp := kpEndsR) mixed hC ?_
          refine runs_seq ?_
          refine runs_block ?_
          refine runs_seq ?_
          refine runs_rcut [(1, .ptr n1 0), (3, .ptr n3 0), (4, .ptr n4 0), (5, .ptr n5 0), (12, .v (.bool (!R.tp.may)))] m2 ?_ ?_
          · repeat' (first | refine gos1 (jn @a1 (jn @a2 (jn @a3 (jn @a4 (jn @a5 (jn @t1 (jn @t2 (jn @t3 (jn @i1 (jn @ct @vt)))))))))) ?_ | (refine ops_here ?_; (fail_if_success (refine ops_case (B := true) rfl rfl rfl ?_ ?_)); (fail_if_success (refine ops_case (B := false) rfl rfl rfl ?_ ?_)); refine ops_case rfl rfl rfl (fun hB => ?_) (fun hB => ?_) <;> rw [hB]) | (refine runs_here ?_; refine runs_cond rfl (fun hc => ?_) (fun hc => ?_) <;> first | (cases hc; done) | skip))
            all_goals refine ⟨rfl, ?_, rfl⟩
            all_goals simp_all [Tp.bad, Tp.may]
          · refine next_normal ?_
            refine runs_cond rfl (fun hc => ?_) (fun hc => ?_)
            · have e1 : R.endsMay = false := by simp only [Bool.not_eq_true'] at hc; simp [Rc.endsMay, hc]
              rw [e1]
              refine go0 ?_
              exact leaves_fin rfl rfl fin
            have m1' : R.tp.may = true := by simpa using hc
            have b1 := lpPtOn h4
            have b2 := lpPtMetric h4
            have b3 := lpPtFactor h4
            have b4 := lpPtPatience h4
            have b5 := lpPtCooldown h4
            have b6 := lpPtFloor h4
            have b7 := lpPtDelta h4
            have b8 := vrPt h4
            have i2 := fun mm => isNameG_eq (s := R.pt.Metric) (m := mm) hs.2.1
            refine runs_seq ?_
            refine runs_rcut [(1, .ptr n1 0), (4, .ptr n4 0), (5, .ptr n5 0), (39, .v (.bool (!R.pt.may)))] m2 ?_ ?_
            · repeat' (first | refine gos1 (jn @b1 (jn @b2 (jn @b3 (jn @b4 (jn @b5 (jn @b6 (jn @b7 (jn @b8 (jn @t1 (jn @t2 (jn @t3 (jn @i2 (jn @ct @vt))))))))))))) ?_ | (refine ops_here ?_; (fail_if_success (refine ops_case (B := true) rfl rfl rfl ?_ ?_)); (fail_if_success (refine ops_case (B := false) rfl rfl rfl ?_ ?_)); refine ops_case rfl rfl rfl (fun hB => ?_) (fun hB => ?_) <;> rw [hB]) | (refine runs_here ?_; refine runs_cond rfl (fun hc => ?_) (fun hc => ?_) <;> first | (cases hc; done) | skip))
              all_goals refine ⟨rfl, ?_, rfl⟩
              all_goals simp_all [Pt.bad, Pt.may]
            refine next_normal ?_
            refine runs_cond rfl (fun hc => ?_) (fun hc => ?_)
            · have e1 : R.endsMay = false := by simp only [Bool.not_eq_true'] at hc; simp [Rc.endsMay, hc]
              rw [e1]
              refine go0 ?_
              exact leaves_fin rfl rfl fin
            have m2' : R.pt.may = true := by simpa using hc
            have c1 := lpKpOn h5
            have c2 := lpKpMetric h5
            have c3 := lpKpCount h5
            have c4 := vrKp h5
            have i3 := fun mm => isNameG_eq (s := R.kp.Metric) (m := mm) hs.2.2
            refine runs_seq ?_
            refine runs_rcut [(1, .ptr n1 0), (5, .ptr n5 0), (81, .v (.bool (!R.kp.may)))] m2 ?_ ?_
            · repeat' (first | refine gos1 (jn @c1 (jn @c2 (jn @c3 (jn @c4 (jn @t1 (jn @t2 (jn @t3 (jn @i3 (jn @ct @vt))))))))) ?_ | (refine ops_here ?_; (fail_if_success (refine ops_case (B := true) rfl rfl rfl ?_ ?_)); (fail_if_success (refine ops_case (B := false) rfl rfl rfl ?_ ?_)); refine ops_case rfl rfl rfl (fun hB => ?_) (fun hB => ?_) <;> rw [hB]) | (refine runs_here ?_; refine runs_cond rfl (fun hc => ?_) (fun hc => ?_) <;> first | (cases hc; done) | skip))
              all_goals refine ⟨rfl, ?_, rfl⟩
              all_goals simp_all [Kp.bad, Kp.may]
            refine next_normal ?_
            refine runs_cond rfl (fun hc => ?_) (fun hc => ?_)
            · have e1 : R.endsMay = false := by simp only [Bool.not_eq_true'] at hc; simp [Rc.endsMay, hc]
              rw [e1]
              refine go0 ?_
              exact leaves_fin rfl rfl fin
            have m3' : R.kp.may = true := by simpa using hc
            have d1 : evLoad Tryz.prog m2 4 (.ptr n1 26) = some (.v (.bool R.em.On)) := lpRcEmaOn h1
            have d2 : evLoad Tryz.prog m2 3 (.ptr n1 27) = some (.v (.int .i64 R.em.Decay)) := lpRcEmaDecay h1
            have d3 : evLoad Tryz.prog m2 31 (.ptr n1 26) = some (.agg R.em.row) := lpRcEma h1
            refine runs_seq ?_
            refine runs_rcut [(1, .ptr n1 0), (103, .v (.bool (!R.em.may)))] m2 ?_ ?_
            · repeat' (first | refine gos1 (jn @d1 (jn @d2 (jn @d3 (jn @t1 (jn @t2 (jn @t3 (jn @ct @vt))))))) ?_ | (refine ops_here ?_; (fail_if_success (refine ops_case (B := true) rfl rfl rfl ?_ ?_)); (fail_if_success (refine ops_case (B := false) rfl rfl rfl ?_ ?_)); refine ops_case rfl rfl rfl (fun hB => ?_) (fun hB => ?_) <;> rw [hB]) | (refine runs_here ?_; refine runs_cond rfl (fun hc => ?_) (fun hc => ?_) <;> first | (cases hc; done) | skip))
              all_goals refine ⟨rfl, ?_, rfl⟩
              all_goals simp_all [Em.bad, Em.may]
            refine next_normal ?_
            refine runs_cond rfl (fun hc => ?_) (fun hc => ?_)
            · have e1 : R.endsMay = false := by simp only [Bool.not_eq_true'] at hc; simp [Rc.endsMay, hc]
              rw [e1]
              refine go0 ?_
              exact leaves_fin rfl rfl fin
            have m4' : R.em.may = true := by simpa using hc
            have f1 : evLoad Tryz.prog m2 4 (.ptr n1 28) = some (.v (.bool R.sw.On)) := lpRcSwaOn h1
            have f2 : evLoad Tryz.prog m2 33 (.ptr n1 29) = some (.agg [.v (.int .i64 R.sw.FromU), .v (.int .i64 R.sw.FromN)]) := lpRcSwaFrom h1
            have f3 : evLoad Tryz.prog m2 3 (.ptr n1 29) = some (.v (.int .i64 R.sw.FromU)) := lpRcSwaFromU h1
            have f4 : evLoad Tryz.prog m2 3 (.ptr n1 31) = some (.v (.int .i64 R.sw.Every)) := lpRcSwaEvery h1
            have f5 : evLoad Tryz.prog m2 35 (.ptr n1 28) = some (.agg R.sw.row) := lpRcSwa h1
            have lc : ∀ u n mm, lenCheckG [.agg [.v (.int .i64 u), .v (.int .i64 n)]] mm = some (.v (.int .i64 (if lenMay u n then 0 else 1)), mm) := fun _ _ _ => rfl
            have le : ∀ u n, ((if lenMay u n then (0 : Int) else 1) != 0) = !decide (lenMay u n) := fun u n => by
              by_cases h : lenMay u n
              · rw [if_pos h, decide_eq_true h]; rfl
              · rw [if_neg h, decide_eq_false h]; rfl
            refine runs_seq ?_
            refine runs_rcut [(1, .ptr n1 0), (124, .v (.bool R.sw.bad))] m2 ?_ ?_
            · repeat' (first | refine gos1 (jn @f1 (jn @f2 (jn @f3 (jn @f4 (jn @t1 (jn @t2 (jn @t3 (jn @t4 (jn @ct (jn @vt (jn @lc @le))))))))))) ?_ | (refine ops_here ?_; (fail_if_success (refine ops_case (B := true) rfl rfl rfl ?_ ?_)); (fail_if_success (refine ops_case (B := false) rfl rfl rfl ?_ ?_)); refine ops_case rfl rfl rfl (fun hB => ?_) (fun hB => ?_) <;> rw [hB]) | (refine runs_here ?_; refine runs_cond rfl (fun hc => ?_) (fun hc => ?_) <;> first | (cases hc; done) | skip))
              all_goals refine ⟨rfl, ?_, rfl⟩
              all_goals simp_all [Sw.bad]
            refine next_normal ?_
            refine runs_cond rfl (fun hc => ?_) (fun hc => ?_)
            · have e1 : R.endsMay = false := by simp [Rc.endsMay, Sw.may, hc]
              rw [e1]
              refine go0 ?_
              exact leaves_fin rfl rfl fin
            refine go0 ?_
            cases ho : R.sw.On with
            | true =>
              have e1 : R.endsMay = true := by simp [Rc.endsMay, Sw.may, m1', m2', m3', m4', hc, ho]
              rw [ho] at f1
              rw [e1]
              refine go1 (jn @f1 @f5) ?_
              exact leaves_fin rfl rfl fin
            | false =>
              have e1 : R.endsMay = swEq R.sw sw0 := by simp [Rc.endsMay, Sw.may, m1', m2', m3', m4', hc, ho]
              rw [ho] at f1
              rw [e1]
              refine go1 (jn @f1 @f5) ?_
              exact leaves_fin rfl rfl fin
      · cases h
    · cases h
  · cases h
end Go.Proofs.YtojaokhkbmiidaaGreat.Ev

namespace Go.Proofs.YtojaokhkbmiidaaGreat.Ev
open Go Go.Proofs
set_option maxRecDepth 10000
set_option maxHeartbeats 16000000
set_option linter.unusedVariables false
set_option linter.unusedSimpArgs false
def inQ (x : Int) : Prop := 0 ≤ x ∧ x ≤ 4503599627370496
instance (x : Int) : Decidable (inQ x) := by unfold inQ; exact inferInstance
def mayN (x : Nd) : Prop := 1 ≤ x.op ∧ x.op ≤ 9 ∧ inQ x.a ∧ inQ x.b ∧ inQ x.c ∧ 0 ≤ x.k ∧ (x.op = 9 → x.a = 0) ∧ ((x.op < 2 ∨ 7 < x.op) → x.b = 0) ∧ (x.op ≠ 6 → x.c = 0) ∧
  ((x.op ≠ 3 ∧ x.op ≠ 4 ∧ x.op ≠ 6 ∧ x.op ≠ 7) → x.k = 0) ∧ (x.op < 7 → x.u = 0 ∧ x.n = 0) ∧ ((x.op = 3 ∨ x.op = 7) → x.k ≤ 1099511627776) ∧ (x.op = 4 → x.k ≤ 4503599627370496) ∧ (x.op = 6 → x.k ≤ 100) ∧ lenMay x.u x.n ∧ x.u ≠ 3
instance (x : Nd) : Decidable (mayN x) := by unfold mayN; exact inferInstance
def mayAt (p : Int → Bool) : List AV → Mem → Option (AV × Mem)
  | [.agg cs], m =>
    match unNd cs with
    | some x => if p x.op = true then some (.v (.bool (decide (mayN x))), m) else none
    | none => none
  | _, _ => none
def mayG : List AV → Mem → Option (AV × Mem) := mayAt fun _ => true
theorem may_all {P : Program} {f : FuncId} (h : ∀ op, ∃ p : Int → Bool, p op = true ∧ FunOk P f (mayAt p)) : FunOk P f mayG := by
  intro args m r m' hg
  unfold mayG mayAt at hg
  split at hg
  · rename_i cs
    split at hg
    · rename_i x hx
      obtain ⟨p, hp, hok⟩ := h x.op
      refine hok _ m r m' ?_
      simp only [mayAt, hx]
      rw [if_pos hp]
      simpa using hg
    · cases hg
  · cases hg
theorem nf0 {r : Nat} : evFieldAddr Tryz.prog 102 (.ptr r 0) 0 = some (.ptr r 0) := by kernel_rfl
theorem nf1 {r : Nat} : evFieldAddr Tryz.prog 102 (.ptr r 0) 1 = some (.ptr r (0 + 1)) := by kernel_rfl
theorem nf2 {r : Nat} : evFieldAddr Tryz.prog 102 (.ptr r 0) 2 = some (.ptr r (0 + 2)) := by kernel_rfl
theorem nf3 {r : Nat} : evFieldAddr Tryz.prog 102 (.ptr r 0) 3 = some (.ptr r (0 + 3)) := by kernel_rfl
theorem nf4 {r : Nat} : evFieldAddr Tryz.prog 102 (.ptr r 0) 4 = some (.ptr r (0 + 4)) := by kernel_rfl
theorem nf5 {r : Nat} : evFieldAddr Tryz.prog 102 (.ptr r 0) 5 = some (.ptr r (0 + 5)) := by kernel_rfl
theorem lf0 {r : Nat} : evFieldAddr Tryz.prog 33 (.ptr r 5) 0 = some (.ptr r 5) := by kernel_rfl
def nrow (op a b c k u n : Int) : List AV := [.v (.int .i64 op), .v (.int .i64 a), .v (.int .i64 b), .v (.int .i64 c), .v (.int .i64 k), .v (.int .i64 u), .v (.int .i64 n)]
theorem nh0 {op a b c k u n : Int} : ((nrow op a b c k u n).drop 0).head? = some (.v (.int .i64 op)) := rfl
theorem nh1 {op a b c k u n : Int} : ((nrow op a b c k u n).drop 1).head? = some (.v (.int .i64 a)) := rfl
theorem nh2 {op a b c k u n : Int} : ((nrow op a b c k u n).drop 2).head? = some (.v (.int .i64 b)) := rfl
theorem nh3 {op a b c k u n : Int} : ((nrow op a b c k u n).drop 3).head? = some (.v (.int .i64 c)) := rfl
theorem nh4 {op a b c k u n : Int} : ((nrow op a b c k u n).drop 4).head? = some (.v (.int .i64 k)) := rfl
theorem nh5 {op a b c k u n : Int} : ((nrow op a b c k u n).drop 5).head? = some (.v (.int .i64 u)) := rfl
theorem newNode {m : Mem} {op a b c k u n : Int} : newVar m m.vars.length (nrow op a b c k u n) = some (m.push (nrow op a b c k u n)) := newVar_push rfl
theorem cellsNode {op a b c k u n : Int} : cellsOf (.agg (nrow op a b c k u n)) = some (nrow op a b c k u n) := rfl
theorem loadNodeLen {m : Mem} {op a b c k u n : Int} : evLoad Tryz.prog (m.push (nrow op a b c k u n)) 33 (.ptr m.vars.length 5) = some (.agg [.v (.int .i64 u), .v (.int .i64 n)]) := by
  unfold evLoad
  simp only [ptrCells, push_var, Option.map_some]
  rw [show tAgg Tryz.prog 33 = some true by kernel_rfl, show tSize Tryz.prog 33 = some 2 by kernel_rfl]
  rfl
theorem zeroLen : evBuild Tryz.prog 33 [] = some (.agg [.v (.int .i64 0), .v (.int .i64 0)]) := by kernel_rfl
theorem niLen : noIface Tryz.prog 8 33 = true := by kernel_rfl
theorem eqLen {u n u2 n2 : Int} : eqTy Tryz.prog 8 33 (.agg [.v (.int .i64 u), .v (.int .i64 n)]) (.agg [.v (.int .i64 u2), .v (.int .i64 n2)]) = some ((u == u2) && ((n == n2) && true)) := by kernel_rfl
theorem unNd_row {cs : List AV} {x : Nd} (h : unNd cs = some x) : cs = nrow x.op x.a x.b x.c x.k x.u x.n := unNd_some h
attribute [local irreducible] Next Inside Runs Ops table nrow
attribute [local go_sem] szStr szInt Option.getD_some isNil evStr loadOne newNode cellsNode nf0 nf1 nf2 nf3 nf4 nf5 lf0 nh0 nh1 nh2 nh3 nh4 nh5 loadNodeLen zeroLen niLen eqLen Nat.zero_add
def kpRefMay : Nat → Option (List Nat) := fun _ => some [0, 1, 2, 3, 4, 5, 65, 111, 145]
attribute [go_sem] kpRefMay
def tabRefMay : List (FuncId × (List AV → Mem → Option (AV × Mem))) := [(136, upTo 4503599627370496), (43, lenMayG)]
theorem q_eq (c x : Int) (mm : Mem) : upTo c [.v (.int .i64 x)] mm = some (.v (.bool (decide (0 ≤ x ∧ x ≤ c))), mm) := rfl
theorem lm_eq (u n : Int) (mm : Mem) : lenMayG [.agg [.v (.int .i64 u), .v (.int .i64 n)]] mm = some (.v (.bool (decide (lenMay u n))), mm) := rfl
end Go.Proofs.YtojaokhkbmiidaaGreat.Ev

namespace Go.Proofs.YtojaokhkbmiidaaGreat.Ev
open Go Go.Proofs
set_option maxRecDepth 10000
set_option maxHeartbeats 16000000
set_option linter.unusedVariables false
set_option linter.unusedSimpArgs false
attribute [local irreducible] Next Inside Runs Ops table
attribute [local go_sem] szStr szInt Option.getD_some isNil loadStr loadInt evStr len0 len1 loadOne loadLen cellsLen newLen Nat.zero_add List.drop_zero List.drop_succ_cons List.head?_cons
def lastsG : List AV → Mem → Option (AV × Mem)
  | [.agg [.v (.int .i64 u), .v (.int .i64 n)]], m => some (.v (.bool (decide (u ≠ 3 ∧ lenMay u n))), m)
  | _, _ => none
def kpLasts : Nat → Option (List Nat) := fun _ => some [0, 1, 2]
attribute [go_sem] kpLasts
theorem lasts_ok : FunOk Tryz.prog 159 lastsG := by
  have hC := table_ok (P := Tryz.prog) (l := [(104, lenCheckG)]) (table_more lenCheck_ok table_nil)
  have t1 := fun args mm => table_at (l := [(104, lenCheckG)]) (f := 104) (args := args) (m := mm) rfl
  refine fun_ok mixed hC Tryz.func159 rfl kpLasts false rfl fun args m r h => ?_
  unfold lastsG at h
  split at h
  · rename_i u n
    simp only [Option.some.injEq] at h
    subst h
    refine ⟨Nat.le_of_ble_eq_true rfl, ?_⟩
    simp only [entry, List.length_cons, List.length_nil, List.range, List.range.loop, List.zip_cons_cons, List.zip_nil_right]
    have fl : ∀ mm, lenCheckG [.agg [.v (.int .i64 u), .v (.int .i64 n)]] mm = some (.v (.int .i64 (if lenMay u n then 0 else 1)), mm) := fun _ => rfl
    have fe : ((if lenMay u n then (0 : Int) else 1) == 0) = decide (lenMay u n) := by
      by_cases h : lenMay u n
      · rw [if_pos h, decide_eq_true h]; rfl
      · rw [if_neg h, decide_eq_false h]; rfl
    by_cases h3 : u = 3
    · have b3 : (u != 3) = false := by rw [h3]; rfl
      rw [decide_eq_false (fun h => h.1 h3)]
      refine go1 (jn @b3 (jn @t1 (jn @fl @fe))) ?_
      exact leaves_fin rfl rfl fin_push
    · have b3 : (u != 3) = true := bne_iff_ne.2 h3
      have e1 : decide (u ≠ 3 ∧ lenMay u n) = decide (lenMay u n) := by
        by_cases h : lenMay u n
        · rw [decide_eq_true h, decide_eq_true ⟨h3, h⟩]
        · rw [decide_eq_false h, decide_eq_false fun hh => h hh.2]
      rw [e1]
      refine go1 (jn @b3 (jn @t1 (jn @fl @fe))) ?_
      exact leaves_fin rfl rfl fin_push
  · cases h
/-! ### two nodes in memory -/
theorem varUnder {m : Mem} {a b : List AV} : ((m.push a).push b).var m.vars.length = some a := by
  unfold Mem.var Mem.push
  simp [List.getElem?_append]
theorem agNode : tAgg Tryz.prog 102 = some true := by kernel_rfl
theorem agLen : tAgg Tryz.prog 33 = some true := by kernel_rfl
theorem szLen : tSize Tryz.prog 33 = some 2 := by kernel_rfl
theorem underInt {m : Mem} {op a b c k u n : Int} {K : List AV} {off : Nat} : evLoad Tryz.prog ((m.push (nrow op a b c k u n)).push K) 3 (.ptr m.vars.length off) = ((nrow op a b c k u n).drop off).head? := by
  unfold evLoad
  simp only [ptrCells, varUnder, Option.map_some, szInt, agInt]
theorem underLen {m : Mem} {op a b c k u n : Int} {K : List AV} : evLoad Tryz.prog ((m.push (nrow op a b c k u n)).push K) 33 (.ptr m.vars.length 5) = some (.agg [.v (.int .i64 u), .v (.int .i64 n)]) := by
  unfold evLoad
  simp only [ptrCells, varUnder, Option.map_some, szLen, agLen]
  rfl
theorem underNode {m : Mem} {op a b c k u n : Int} {K : List AV} : evLoad Tryz.prog ((m.push (nrow op a b c k u n)).push K) 102 (.ptr m.vars.length 0) = some (.agg (nrow op a b c k u n)) := by
  unfold evLoad
  simp only [ptrCells, varUnder, Option.map_some, szNode, agNode]
  rfl
theorem topNode {m : Mem} {op a b c k u n : Int} : evLoad Tryz.prog (m.push (nrow op a b c k u n)) 102 (.ptr m.vars.length 0) = some (.agg (nrow op a b c k u n)) := by
  unfold evLoad
  simp only [ptrCells, push_var, Option.map_some, szNode, agNode]
  rfl
theorem zeroNode : zeroCells Tryz.prog 102 = some (nrow 0 0 0 0 0 0 0) := by kernel_rfl
theorem okNode {op a b c k u n : Int} : (nrow op a b c k u n).all okCell = true := rfl
theorem putNode {m : Mem} {op a b c k u n op2 a2 b2 c2 k2 u2 n2 : Int} : evStore Tryz.prog (m.push (nrow op a b c k u n)) 102 (.ptr m.vars.length 0) (.agg (nrow op2 a2 b2 c2 k2 u2 n2)) = some (m.push (nrow op2 a2 b2 c2 k2 u2 n2)) := by
  rw [store_push (cs := nrow op2 a2 b2 c2 k2 u2 n2) rfl szNode (Nat.le_refl _) rfl]
  rfl
theorem putC {m : Mem} {op a b c k u n c2 : Int} : evStore Tryz.prog (m.push (nrow op a b c k u n)) 3 (.ptr m.vars.length 3) (.v (.int .i64 c2)) = some (m.push (nrow op a b c2 k u n)) := by
  rw [store_push (cs := [.v (.int .i64 c2)]) rfl szInt (Nat.le_of_ble_eq_true rfl) rfl]
  rfl
theorem putLen {m : Mem} {op a b c k u n u2 n2 : Int} : evStore Tryz.prog (m.push (nrow op a b c k u n)) 33 (.ptr m.vars.length 5) (.agg [.v (.int .i64 u2), .v (.int .i64 n2)]) = some (m.push (nrow op a b c k u2 n2)) := by
  rw [store_push (cs := [.v (.int .i64 u2), .v (.int .i64 n2)]) rfl szLen (Nat.le_of_ble_eq_true rfl) rfl]
  rfl
theorem mkKept {op a b k : Int} : evBuild Tryz.prog 102 [(0, .v (.int .i64 op)), (1, .v (.int .i64 a)), (2, .v (.int .i64 b)), (4, .v (.int .i64 k))] = some (.agg (nrow op a b 0 k 0 0)) := by kernel_rfl
theorem mkA {op a : Int} : evBuild Tryz.prog 102 [(0, .v (.int .i64 op)), (1, .v (.int .i64 a))] = some (.agg (nrow op a 0 0 0 0 0)) := by kernel_rfl
theorem mkAB {op a b : Int} : evBuild Tryz.prog 102 [(0, .v (.int .i64 op)), (1, .v (.int .i64 a)), (2, .v (.int .i64 b))] = some (.agg (nrow op a b 0 0 0 0)) := by kernel_rfl
theorem mkAL {op a u n : Int} : evBuild Tryz.prog 102 [(0, .v (.int .i64 op)), (1, .v (.int .i64 a)), (5, .agg [.v (.int .i64 u), .v (.int .i64 n)])] = some (.agg (nrow op a 0 0 0 u n)) := by kernel_rfl
theorem mkL {op u n : Int} : evBuild Tryz.prog 102 [(0, .v (.int .i64 op)), (5, .agg [.v (.int .i64 u), .v (.int .i64 n)])] = some (.agg (nrow op 0 0 0 0 u n)) := by kernel_rfl
theorem niNode : noIface Tryz.prog 8 102 = true := by kernel_rfl
theorem eqNode {op a b c k u n op2 a2 b2 c2 k2 u2 n2 : Int} : eqTy Tryz.prog 8 102 (.agg (nrow op a b c k u n)) (.agg (nrow op2 a2 b2 c2 k2 u2 n2)) =
    some ((op == op2) && ((a == a2) && ((b == b2) && ((c == c2) && ((k == k2) && (((u == u2) && ((n == n2) && true)) && true)))))) := by kernel_rfl
attribute [local irreducible] nrow
attribute [local go_sem] newNode cellsNode nf0 nf1 nf2 nf3 nf4 nf5 nh0 nh1 nh2 nh3 nh4 nh5 loadNodeLen underInt underLen underNode topNode zeroNode okNode putNode putC putLen mkKept mkA mkAB mkAL mkL niNode eqNode
def kpMay : Nat → Option (List Nat) := fun _ => some [0, 1, 2, 3, 25, 36, 37, 46, 58, 68, 78, 96, 109]
attribute [go_sem] kpMay
def tabMay : List (FuncId × (List AV → Mem → Option (AV × Mem))) := [(158, upTo 4503599627370496), (159, lastsG), (160, upTo 1099511627776)]
theorem ll_eq (u n : Int) (mm : Mem) : lastsG [.agg [.v (.int .i64 u), .v (.int .i64 n)]] mm = some (.v (.bool (decide (u ≠ 3 ∧ lenMay u n))), mm) := rfl
theorem fin_two {m : Mem} {a b : List AV} : finMem m ((m.push a).push b) = m := by
  unfold finMem
  have h : ((m.push a).push b).vars.take m.vars.length = m.vars := by simp [Mem.push]
  rw [if_pos h]
  show (⟨m.vars, m.toks.take m.toks.length⟩ : Mem) = m
  rw [List.take_length]
end Go.Proofs.YtojaokhkbmiidaaGreat.Ev

namespace Go.Proofs.YtojaokhkbmiidaaGreat.Ev
open Go Go.Proofs
set_option maxRecDepth 10000
set_option maxHeartbeats 16000000
set_option linter.unusedVariables false
set_option linter.unusedSimpArgs false
attribute [local irreducible] Next Inside Runs Ops table nrow
attribute [local go_sem] szStr szInt Option.getD_some isNil evStr loadOne newNode cellsNode nf0 nf1 nf2 nf3 nf4 nf5 nh0 nh1 nh2 nh3 nh4 nh5 loadNodeLen underInt underLen underNode topNode zeroNode okNode putNode putC putLen mkKept mkA mkAB mkAL mkL niNode eqNode Nat.zero_add
theorem may_at1 : FunOk Tryz.prog 143 (mayAt fun op => decide (op = 1)) := by
  have hC := table_ok (P := Tryz.prog) (l := tabMay) (table_more number_ok (table_more lasts_ok (table_more count_ok table_nil)))
  have t1 := fun args mm => table_at (l := tabMay) (f := 158) (args := args) (m := mm) rfl
  have t2 := fun args mm => table_at (l := tabMay) (f := 159) (args := args) (m := mm) rfl
  have t3 := fun args mm => table_at (l := tabMay) (f := 160) (args := args) (m := mm) rfl
  refine fun_ok mixed hC Tryz.func143 rfl kpMay false rfl fun args m r h => ?_
  unfold mayAt at h
  split at h
  · rename_i cs
    split at h
    · rename_i x hx
      split at h
      · rename_i hop
        obtain rfl := unNd_row hx
        obtain ⟨op, a, b, c, k, u, n⟩ := x
        have hop := of_decide_eq_true hop
        simp only at hop
        simp only [Option.some.injEq] at h
        subst h
        refine ⟨Nat.le_of_ble_eq_true rfl, ?_⟩
        simp only [entry, List.length_cons, List.length_nil, List.range, List.range.loop, List.zip_cons_cons, List.zip_nil_right]
        have fin : ∀ (e : Env) (m' : Mem) (z : Bool), Ev.get e 2 = .v (.bool z) → finMem m m' = m → (z = true ↔ mayN ⟨op, a, b, c, k, u, n⟩) → Leaves Tryz.prog false Tryz.f143 m (.v (.bool (decide (mayN ⟨op, a, b, c, k, u, n⟩))), m) .ret e m' := fun e m' z h1 h2 h3 => by
          have : z = decide (mayN ⟨op, a, b, c, k, u, n⟩) := by rw [Bool.eq_iff_iff, decide_eq_true_eq]; exact h3
          rw [← this]
          exact leaves_fin rfl h1 h2
        subst hop
        repeat' (first | refine gos1 (jn @t1 (jn @q_eq (jn @t2 (jn @ll_eq @t3)))) ?_ | (refine ops_here ?_; (fail_if_success (refine ops_case (B := true) rfl rfl rfl ?_ ?_)); (fail_if_success (refine ops_case (B := false) rfl rfl rfl ?_ ?_)); refine ops_case rfl rfl rfl (fun hB => ?_) (fun hB => ?_) <;> rw [hB]) | (refine runs_here ?_; refine runs_cond rfl (fun hc => ?_) (fun hc => ?_) <;> first | (cases hc; done) | skip))
        all_goals exact fin _ _ _ rfl (by first | exact fin_push | exact fin_two) (by clear fin hx t1 t2 t3 hC; simp only [Bool.not_eq_true', Bool.not_eq_false', Bool.not_true, Bool.not_false, Bool.and_true, Bool.true_and, Bool.and_eq_true, Bool.and_eq_false_iff, decide_eq_true_eq, decide_eq_false_iff_not, Bool.false_eq_true, reduceCtorEq, false_iff, true_iff, beq_iff_eq, bne_iff_ne, beq_eq_false_iff_ne, bne_eq_false_iff_eq, ne_eq, not_false_eq_true, not_true_eq_false, true_or, or_true, true_implies, false_implies, implies_true, and_self, true_and, false_and, or_false, false_or, and_true, and_false] at *; simp only [mayN, inQ, lenMay, not_false_eq_true, not_true_eq_false, true_or, or_true, true_implies, false_implies, implies_true, and_self, true_and, false_and, or_false, false_or, and_true, and_false] at *; omega)
      · cases h
    · cases h
  · cases h
theorem may_at2 : FunOk Tryz.prog 143 (mayAt fun op => decide (op = 2)) := by
  have hC := table_ok (P := Tryz.prog) (l := tabMay) (table_more number_ok (table_more lasts_ok (table_more count_ok table_nil)))
  have t1 := fun args mm => table_at (l := tabMay) (f := 158) (args := args) (m := mm) rfl
  have t2 := fun args mm => table_at (l := tabMay) (f := 159) (args := args) (m := mm) rfl
  have t3 := fun args mm => table_at (l := tabMay) (f := 160) (args := args) (m := mm) rfl
  refine fun_ok mixed hC Tryz.func143 rfl kpMay false rfl fun args m r h => ?_
  unfold mayAt at h
  split at h
  · rename_i cs
    split at h
    · rename_i x hx
      split at h
      · rename_i hop
        obtain rfl := unNd_row hx
        obtain ⟨op, a, b, c, k, u, n⟩ := x
        have hop := of_decide_eq_true hop
        simp only at hop
        simp only [Option.some.injEq] at h
        subst h
        refine ⟨Nat.le_of_ble_eq_true rfl, ?_⟩
        simp only [entry, List.length_cons, List.length_nil, List.range, List.range.loop, List.zip_cons_cons, List.zip_nil_right]
        have fin : ∀ (e : Env) (m' : Mem) (z : Bool), Ev.get e 2 = .v (.bool z) → finMem m m' = m → (z = true ↔ mayN ⟨op, a, b, c, k, u, n⟩) → Leaves Tryz.prog false Tryz.f143 m (.v (.bool (decide (mayN ⟨op, a, b, c, k, u, n⟩))), m) .ret e m' := fun e m' z h1 h2 h3 => by
          have : z = decide (mayN ⟨op, a, b, c, k, u, n⟩) := by rw [Bool.eq_iff_iff, decide_eq_true_eq]; exact h3
          rw [← this]
          exact leaves_fin rfl h1 h2
        subst hop
        repeat' (first | refine gos1 (jn @t1 (jn @q_eq (jn @t2 (jn @ll_eq @t3)))) ?_ | (refine ops_here ?_; (fail_if_success (refine ops_case (B := true) rfl rfl rfl ?_ ?_)); (fail_if_success (refine ops_case (B := false) rfl rfl rfl ?_ ?_)); refine ops_case rfl rfl rfl (fun hB => ?_) (fun hB => ?_) <;> rw [hB]) | (refine runs_here ?_; refine runs_cond rfl (fun hc => ?_) (fun hc => ?_) <;> first | (cases hc; done) | skip))
        all_goals exact fin _ _ _ rfl (by first | exact fin_push | exact fin_two) (by clear fin hx t1 t2 t3 hC; simp only [Bool.not_eq_true', Bool.not_eq_false', Bool.not_true, Bool.not_false, Bool.and_true, Bool.true_and, Bool.and_eq_true, Bool.and_eq_false_iff, decide_eq_true_eq, decide_eq_false_iff_not, Bool.false_eq_true, reduceCtorEq, false_iff, true_iff, beq_iff_eq, bne_iff_ne, beq_eq_false_iff_ne, bne_eq_false_iff_eq, ne_eq, not_false_eq_true, not_true_eq_false, true_or, or_true, true_implies, false_implies, implies_true, and_self, true_and, false_and, or_false, false_or, and_true, and_false] at *; simp only [mayN, inQ, lenMay, not_false_eq_true, not_true_eq_false, true_or, or_true, true_implies, false_implies, implies_true, and_self, true_and, false_and, or_false, false_or, and_true, and_false] at *; omega)
      · cases h
    · cases h
  · cases h
theorem may_at3 : FunOk Tryz.prog 143 (mayAt fun op => decide (op = 3)) := by
  have hC := table_ok (P := Tryz.prog) (l := tabMay) (table_more number_ok (table_more lasts_ok (table_more count_ok table_nil)))
  have t1 := fun args mm => table_at (l := tabMay) (f := 158) (args := args) (m := mm) rfl
  have t2 := fun args mm => table_at (l := tabMay) (f := 159) (args := args) (m := mm) rfl
  have t3 := fun args mm => table_at (l := tabMay) (f := 160) (args := args) (m := mm) rfl
  refine fun_ok mixed hC Tryz.func143 rfl kpMay false rfl fun args m r h => ?_
  unfold mayAt at h
  split at h
  · rename_i cs
    split at h
    · rename_i x hx
      split at h
      · rename_i hop
        obtain rfl := unNd_row hx
        obtain ⟨op, a, b, c, k, u, n⟩ := x
        have hop := of_decide_eq_true hop
        simp only at hop
        simp only [Option.some.injEq] at h
        subst h
        refine ⟨Nat.le_of_ble_eq_true rfl, ?_⟩
        simp only [entry, List.length_cons, List.length_nil, List.range, List.range.loop, List.zip_cons_cons, List.zip_nil_right]
        have fin : ∀ (e : Env) (m' : Mem) (z : Bool), Ev.get e 2 = .v (.bool z) → finMem m m' = m → (z = true ↔ mayN ⟨op, a, b, c, k, u, n⟩) → Leaves Tryz.prog false Tryz.f143 m (.v (.bool (decide (mayN ⟨op, a, b, c, k, u, n⟩))), m) .ret e m' := fun e m' z h1 h2 h3 => by
          have : z = decide (mayN ⟨op, a, b, c, k, u, n⟩) := by rw [Bool.eq_iff_iff, decide_eq_true_eq]; exact h3
          rw [← this]
          exact leaves_fin rfl h1 h2
        subst hop
        repeat' (first | refine gos1 (jn @t1 (jn @q_eq (jn @t2 (jn @ll_eq @t3)))) ?_ | (refine ops_here ?_; (fail_if_success (refine ops_case (B := true) rfl rfl rfl ?_ ?_)); (fail_if_success (refine ops_case (B := false) rfl rfl rfl ?_ ?_)); refine ops_case rfl rfl rfl (fun hB => ?_) (fun hB => ?_) <;> rw [hB]) | (refine runs_here ?_; refine runs_cond rfl (fun hc => ?_) (fun hc => ?_) <;> first | (cases hc; done) | skip))
        all_goals exact fin _ _ _ rfl (by first | exact fin_push | exact fin_two) (by clear fin hx t1 t2 t3 hC; simp only [Bool.not_eq_true', Bool.not_eq_false', Bool.not_true, Bool.not_false, Bool.and_true, Bool.true_and, Bool.and_eq_true, Bool.and_eq_false_iff, decide_eq_true_eq, decide_eq_false_iff_not, Bool.false_eq_true, reduceCtorEq, false_iff, true_iff, beq_iff_eq, bne_iff_ne, beq_eq_false_iff_ne, bne_eq_false_iff_eq, ne_eq, not_false_eq_true, not_true_eq_false, true_or, or_true, true_implies, false_implies, implies_true, and_self, true_and, false_and, or_false, false_or, and_true, and_false] at *; simp only [mayN, inQ, lenMay, not_false_eq_true, not_true_eq_false, true_or, or_true, true_implies, false_implies, implies_true, and_self, true_and, false_and, or_false, false_or, and_true, and_false] at *; omega)
      · cases h
    · cases h
  · cases h
end Go.Proofs.YtojaokhkbmiidaaGreat.Ev

namespace Go.Proofs.YtojaokhkbmiidaaGreat.Ev
open Go Go.Proofs
set_option maxRecDepth 10000
set_option maxHeartbeats 16000000
set_option linter.unusedVariables false
set_option linter.unusedSimpArgs false
attribute [local irreducible] Next Inside Runs Ops table nrow
attribute [local go_sem] szStr szInt Option.getD_some isNil evStr loadOne newNode cellsNode nf0 nf1 nf2 nf3 nf4 nf5 nh0 nh1 nh2 nh3 nh4 nh5 loadNodeLen underInt underLen underNode topNode zeroNode okNode putNode putC putLen mkKept mkA mkAB mkAL mkL niNode eqNode Nat.zero_add
theorem may_at4 : FunOk Tryz.prog 143 (mayAt fun op => decide (op = 4)) := by
  have hC := table_ok (P := Tryz.prog) (l := tabMay) (table_more number_ok (table_more lasts_ok (table_more count_ok table_nil)))
  have t1 := fun args mm => table_at (l := tabMay) (f := 158) (args := args) (m := mm) rfl
  have t2 := fun args mm => table_at (l := tabMay) (f := 159) (args := args) (m := mm) rfl
  have t3 := fun args mm => table_at (l := tabMay) (f := 160) (args := args) (m := mm) rfl
  refine fun_ok mixed hC Tryz.func143 rfl kpMay false rfl fun args m r h => ?_
  unfold mayAt at h
  split at h
  · rename_i cs
    split at h
    · rename_i x hx
      split at h
      · rename_i hop
        obtain rfl := unNd_row hx
        obtain ⟨op, a, b, c, k, u, n⟩ := x
        have hop := of_decide_eq_true hop
        simp only at hop
        simp only [Option.some.injEq] at h
        subst h
        refine ⟨Nat.le_of_ble_eq_true rfl, ?_⟩
        simp only [entry, List.length_cons, List.length_nil, List.range, List.range.loop, List.zip_cons_cons, List.zip_nil_right]
        have fin : ∀ (e : Env) (m' : Mem) (z : Bool), Ev.get e 2 = .v (.bool z) → finMem m m' = m → (z = true ↔ mayN ⟨op, a, b, c, k, u, n⟩) → Leaves Tryz.prog false Tryz.f143 m (.v (.bool (decide (mayN ⟨op, a, b, c, k, u, n⟩))), m) .ret e m' := fun e m' z h1 h2 h3 => by
          have : z = decide (mayN ⟨op, a, b, c, k, u, n⟩) := by rw [Bool.eq_iff_iff, decide_eq_true_eq]; exact h3
          rw [← this]
          exact leaves_fin rfl h1 h2
        subst hop
        repeat' (first | refine gos1 (jn @t1 (jn @q_eq (jn @t2 (jn @ll_eq @t3)))) ?_ | (refine ops_here ?_; (fail_if_success (refine ops_case (B := true) rfl rfl rfl ?_ ?_)); (fail_if_success (refine ops_case (B := false) rfl rfl rfl ?_ ?_)); refine ops_case rfl rfl rfl (fun hB => ?_) (fun hB => ?_) <;> rw [hB]) | (refine runs_here ?_; refine runs_cond rfl (fun hc => ?_) (fun hc => ?_) <;> first | (cases hc; done) | skip))
        all_goals exact fin _ _ _ rfl (by first | exact fin_push | exact fin_two) (by clear fin hx t1 t2 t3 hC; simp only [Bool.not_eq_true', Bool.not_eq_false', Bool.not_true, Bool.not_false, Bool.and_true, Bool.true_and, Bool.and_eq_true, Bool.and_eq_false_iff, decide_eq_true_eq, decide_eq_false_iff_not, Bool.false_eq_true, reduceCtorEq, false_iff, true_iff, beq_iff_eq, bne_iff_ne, beq_eq_false_iff_ne, bne_eq_false_iff_eq, ne_eq, not_false_eq_true, not_true_eq_false, true_or, or_true, true_implies, false_implies, implies_true, and_self, true_and, false_and, or_false, false_or, and_true, and_false] at *; simp only [mayN, inQ, lenMay, not_false_eq_true, not_true_eq_false, true_or, or_true, true_implies, false_implies, implies_true, and_self, true_and, false_and, or_false, false_or, and_true, and_false] at *; omega)
      · cases h
    · cases h
  · cases h
theorem may_at5 : FunOk Tryz.prog 143 (mayAt fun op => decide (op = 5)) := by
  have hC := table_ok (P := Tryz.prog) (l := tabMay) (table_more number_ok (table_more lasts_ok (table_more count_ok table_nil)))
  have t1 := fun args mm => table_at (l := tabMay) (f := 158) (args := args) (m := mm) rfl
  have t2 := fun args mm => table_at (l := tabMay) (f := 159) (args := args) (m := mm) rfl
  have t3 := fun args mm => table_at (l := tabMay) (f := 160) (args := args) (m := mm) rfl
  refine fun_ok mixed hC Tryz.func143 rfl kpMay false rfl fun args m r h => ?_
  unfold mayAt at h
  split at h
  · rename_i cs
    split at h
    · rename_i x hx
      split at h
      · rename_i hop
        obtain rfl := unNd_row hx
        obtain ⟨op, a, b, c, k, u, n⟩ := x
        have hop := of_decide_eq_true hop
        simp only at hop
        simp only [Option.some.injEq] at h
        subst h
        refine ⟨Nat.le_of_ble_eq_true rfl, ?_⟩
        simp only [entry, List.length_cons, List.length_nil, List.range, List.range.loop, List.zip_cons_cons, List.zip_nil_right]
        have fin : ∀ (e : Env) (m' : Mem) (z : Bool), Ev.get e 2 = .v (.bool z) → finMem m m' = m → (z = true ↔ mayN ⟨op, a, b, c, k, u, n⟩) → Leaves Tryz.prog false Tryz.f143 m (.v (.bool (decide (mayN ⟨op, a, b, c, k, u, n⟩))), m) .ret e m' := fun e m' z h1 h2 h3 => by
          have : z = decide (mayN ⟨op, a, b, c, k, u, n⟩) := by rw [Bool.eq_iff_iff, decide_eq_true_eq]; exact h3
          rw [← this]
          exact leaves_fin rfl h1 h2
        subst hop
        repeat' (first | refine gos1 (jn @t1 (jn @q_eq (jn @t2 (jn @ll_eq @t3)))) ?_ | (refine ops_here ?_; (fail_if_success (refine ops_case (B := true) rfl rfl rfl ?_ ?_)); (fail_if_success (refine ops_case (B := false) rfl rfl rfl ?_ ?_)); refine ops_case rfl rfl rfl (fun hB => ?_) (fun hB => ?_) <;> rw [hB]) | (refine runs_here ?_; refine runs_cond rfl (fun hc => ?_) (fun hc => ?_) <;> first | (cases hc; done) | skip))
        all_goals exact fin _ _ _ rfl (by first | exact fin_push | exact fin_two) (by clear fin hx t1 t2 t3 hC; simp only [Bool.not_eq_true', Bool.not_eq_false', Bool.not_true, Bool.not_false, Bool.and_true, Bool.true_and, Bool.and_eq_true, Bool.and_eq_false_iff, decide_eq_true_eq, decide_eq_false_iff_not, Bool.false_eq_true, reduceCtorEq, false_iff, true_iff, beq_iff_eq, bne_iff_ne, beq_eq_false_iff_ne, bne_eq_false_iff_eq, ne_eq, not_false_eq_true, not_true_eq_false, true_or, or_true, true_implies, false_implies, implies_true, and_self, true_and, false_and, or_false, false_or, and_true, and_false] at *; simp only [mayN, inQ, lenMay, not_false_eq_true, not_true_eq_false, true_or, or_true, true_implies, false_implies, implies_true, and_self, true_and, false_and, or_false, false_or, and_true, and_false] at *; omega)
      · cases h
    · cases h
  · cases h
end Go.Proofs.YtojaokhkbmiidaaGreat.Ev

namespace Go.Proofs.YtojaokhkbmiidaaGreat.Ev
open Go Go.Proofs
set_option maxRecDepth 10000
set_option maxHeartbeats 16000000
set_option linter.unusedVariables false
set_option linter.unusedSimpArgs false
attribute [local irreducible] Next Inside Runs Ops table nrow
attribute [local go_sem] szStr szInt Option.getD_some isNil evStr loadOne newNode cellsNode nf0 nf1 nf2 nf3 nf4 nf5 nh0 nh1 nh2 nh3 nh4 nh5 loadNodeLen underInt underLen underNode topNode zeroNode okNode putNode putC putLen mkKept mkA mkAB mkAL mkL niNode eqNode Nat.zero_add
theorem may_at6 : FunOk Tryz.prog 143 (mayAt fun op => decide (op = 6)) := by
  have hC := table_ok (P := Tryz.prog) (l := tabMay) (table_more number_ok (table_more lasts_ok (table_more count_ok table_nil)))
  have t1 := fun args mm => table_at (l := tabMay) (f := 158) (args := args) (m := mm) rfl
  have t2 := fun args mm => table_at (l := tabMay) (f := 159) (args := args) (m := mm) rfl
  have t3 := fun args mm => table_at (l := tabMay) (f := 160) (args := args) (m := mm) rfl
  refine fun_ok mixed hC Tryz.func143 rfl kpMay false rfl fun args m r h => ?_
  unfold mayAt at h
  split at h
  · rename_i cs
    split at h
    · rename_i x hx
      split at h
      · rename_i hop
        obtain rfl := unNd_row hx
        obtain ⟨op, a, b, c, k, u, n⟩ := x
        have hop := of_decide_eq_true hop
        simp only at hop
        simp only [Option.some.injEq] at h
        subst h
        refine ⟨Nat.le_of_ble_eq_true rfl, ?_⟩
        simp only [entry, List.length_cons, List.length_nil, List.range, List.range.loop, List.zip_cons_cons, List.zip_nil_right]
        have fin : ∀ (e : Env) (m' : Mem) (z : Bool), Ev.get e 2 = .v (.bool z) → finMem m m' = m → (z = true ↔ mayN ⟨op, a, b, c, k, u, n⟩) → Leaves Tryz.prog false Tryz.f143 m (.v (.bool (decide (mayN ⟨op, a, b, c, k, u, n⟩))), m) .ret e m' := fun e m' z h1 h2 h3 => by
          have : z = decide (mayN ⟨op, a, b, c, k, u, n⟩) := by rw [Bool.eq_iff_iff, decide_eq_true_eq]; exact h3
          rw [← this]
          exact leaves_fin rfl h1 h2
        subst hop
        repeat' (first | refine gos1 (jn @t1 (jn @q_eq (jn @t2 (jn @ll_eq @t3)))) ?_ | (refine ops_here ?_; (fail_if_success (refine ops_case (B := true) rfl rfl rfl ?_ ?_)); (fail_if_success (refine ops_case (B := false) rfl rfl rfl ?_ ?_)); refine ops_case rfl rfl rfl (fun hB => ?_) (fun hB => ?_) <;> rw [hB]) | (refine runs_here ?_; refine runs_cond rfl (fun hc => ?_) (fun hc => ?_) <;> first | (cases hc; done) | skip))
        all_goals exact fin _ _ _ rfl (by first | exact fin_push | exact fin_two) (by clear fin hx t1 t2 t3 hC; simp only [Bool.not_eq_true', Bool.not_eq_false', Bool.not_true, Bool.not_false, Bool.and_true, Bool.true_and, Bool.and_eq_true, Bool.and_eq_false_iff, decide_eq_true_eq, decide_eq_false_iff_not, Bool.false_eq_true, reduceCtorEq, false_iff, true_iff, beq_iff_eq, bne_iff_ne, beq_eq_false_iff_ne, bne_eq_false_iff_eq, ne_eq, not_false_eq_true, not_true_eq_false, true_or, or_true, true_implies, false_implies, implies_true, and_self, true_and, false_and, or_false, false_or, and_true, and_false] at *; simp only [mayN, inQ, lenMay, not_false_eq_true, not_true_eq_false, true_or, or_true, true_implies, false_implies, implies_true, and_self, true_and, false_and, or_false, false_or, and_true, and_false] at *; omega)
      · cases h
    · cases h
  · cases h
theorem may_at7 : FunOk Tryz.prog 143 (mayAt fun op => decide (op = 7)) := by
  have hC := table_ok (P := Tryz.prog) (l := tabMay) (table_more number_ok (table_more lasts_ok (table_more count_ok table_nil)))
  have t1 := fun args mm => table_at (l := tabMay) (f := 158) (args := args) (m := mm) rfl
  have t2 := fun args mm => table_at (l := tabMay) (f := 159) (args := args) (m := mm) rfl
  have t3 := fun args mm => table_at (l := tabMay) (f := 160) (args := args) (m := mm) rfl
  refine fun_ok mixed hC Tryz.func143 rfl kpMay false rfl fun args m r h => ?_
  unfold mayAt at h
  split at h
  · rename_i cs
    split at h
    · rename_i x hx
      split at h
      · rename_i hop
        obtain rfl := unNd_row hx
        obtain ⟨op, a, b, c, k, u, n⟩ := x
        have hop := of_decide_eq_true hop
        simp only at hop
        simp only [Option.some.injEq] at h
        subst h
        refine ⟨Nat.le_of_ble_eq_true rfl, ?_⟩
        simp only [entry, List.length_cons, List.length_nil, List.range, List.range.loop, List.zip_cons_cons, List.zip_nil_right]
        have fin : ∀ (e : Env) (m' : Mem) (z : Bool), Ev.get e 2 = .v (.bool z) → finMem m m' = m → (z = true ↔ mayN ⟨op, a, b, c, k, u, n⟩) → Leaves Tryz.prog false Tryz.f143 m (.v (.bool (decide (mayN ⟨op, a, b, c, k, u, n⟩))), m) .ret e m' := fun e m' z h1 h2 h3 => by
          have : z = decide (mayN ⟨op, a, b, c, k, u, n⟩) := by rw [Bool.eq_iff_iff, decide_eq_true_eq]; exact h3
          rw [← this]
          exact leaves_fin rfl h1 h2
        subst hop
        repeat' (first | refine gos1 (jn @t1 (jn @q_eq (jn @t2 (jn @ll_eq @t3)))) ?_ | (refine ops_here ?_; (fail_if_success (refine ops_case (B := true) rfl rfl rfl ?_ ?_)); (fail_if_success (refine ops_case (B := false) rfl rfl rfl ?_ ?_)); refine ops_case rfl rfl rfl (fun hB => ?_) (fun hB => ?_) <;> rw [hB]) | (refine runs_here ?_; refine runs_cond rfl (fun hc => ?_) (fun hc => ?_) <;> first | (cases hc; done) | skip))
        all_goals exact fin _ _ _ rfl (by first | exact fin_push | exact fin_two) (by clear fin hx t1 t2 t3 hC; simp only [Bool.not_eq_true', Bool.not_eq_false', Bool.not_true, Bool.not_false, Bool.and_true, Bool.true_and, Bool.and_eq_true, Bool.and_eq_false_iff, decide_eq_true_eq, decide_eq_false_iff_not, Bool.false_eq_true, reduceCtorEq, false_iff, true_iff, beq_iff_eq, bne_iff_ne, beq_eq_false_iff_ne, bne_eq_false_iff_eq, ne_eq, not_false_eq_true, not_true_eq_false, true_or, or_true, true_implies, false_implies, implies_true, and_self, true_and, false_and, or_false, false_or, and_true, and_false] at *; simp only [mayN, inQ, lenMay, not_false_eq_true, not_true_eq_false, true_or, or_true, true_implies, false_implies, implies_true, and_self, true_and, false_and, or_false, false_or, and_true, and_false] at *; omega)
      · cases h
    · cases h
  · cases h
end Go.Proofs.YtojaokhkbmiidaaGreat.Ev

namespace Go.Proofs.YtojaokhkbmiidaaGreat.Ev
open Go Go.Proofs
set_option maxRecDepth 10000
set_option maxHeartbeats 16000000
set_option linter.unusedVariables false
set_option linter.unusedSimpArgs false
attribute [local irreducible] Next Inside Runs Ops table nrow
attribute [local go_sem] szStr szInt Option.getD_some isNil evStr loadOne newNode cellsNode nf0 nf1 nf2 nf3 nf4 nf5 nh0 nh1 nh2 nh3 nh4 nh5 loadNodeLen underInt underLen underNode topNode zeroNode okNode putNode putC putLen mkKept mkA mkAB mkAL mkL niNode eqNode Nat.zero_add
theorem may_at8 : FunOk Tryz.prog 143 (mayAt fun op => decide (op = 8)) := by
  have hC := table_ok (P := Tryz.prog) (l := tabMay) (table_more number_ok (table_more lasts_ok (table_more count_ok table_nil)))
  have t1 := fun args mm => table_at (l := tabMay) (f := 158) (args := args) (m := mm) rfl
  have t2 := fun args mm => table_at (l := tabMay) (f := 159) (args := args) (m := mm) rfl
  have t3 := fun args mm => table_at (l := tabMay) (f := 160) (args := args) (m := mm) rfl
  refine fun_ok mixed hC Tryz.func143 rfl kpMay false rfl fun args m r h => ?_
  unfold mayAt at h
  split at h
  · rename_i cs
    split at h
    · rename_i x hx
      split at h
      · rename_i hop
        obtain rfl := unNd_row hx
        obtain ⟨op, a, b, c, k, u, n⟩ := x
        have hop := of_decide_eq_true hop
        simp only at hop
        simp only [Option.some.injEq] at h
        subst h
        refine ⟨Nat.le_of_ble_eq_true rfl, ?_⟩
        simp only [entry, List.length_cons, List.length_nil, List.range, List.range.loop, List.zip_cons_cons, List.zip_nil_right]
        have fin : ∀ (e : Env) (m' : Mem) (z : Bool), Ev.get e 2 = .v (.bool z) → finMem m m' = m → (z = true ↔ mayN ⟨op, a, b, c, k, u, n⟩) → Leaves Tryz.prog false Tryz.f143 m (.v (.bool (decide (mayN ⟨op, a, b, c, k, u, n⟩))), m) .ret e m' := fun e m' z h1 h2 h3 => by
          have : z = decide (mayN ⟨op, a, b, c, k, u, n⟩) := by rw [Bool.eq_iff_iff, decide_eq_true_eq]; exact h3
          rw [← this]
          exact leaves_fin rfl h1 h2
        subst hop
        repeat' (first | refine gos1 (jn @t1 (jn @q_eq (jn @t2 (jn @ll_eq @t3)))) ?_ | (refine ops_here ?_; (fail_if_success (refine ops_case (B := true) rfl rfl rfl ?_ ?_)); (fail_if_success (refine ops_case (B := false) rfl rfl rfl ?_ ?_)); refine ops_case rfl rfl rfl (fun hB => ?_) (fun hB => ?_) <;> rw [hB]) | (refine runs_here ?_; refine runs_cond rfl (fun hc => ?_) (fun hc => ?_) <;> first | (cases hc; done) | skip))
        all_goals exact fin _ _ _ rfl (by first | exact fin_push | exact fin_two) (by clear fin hx t1 t2 t3 hC; simp only [Bool.not_eq_true', Bool.not_eq_false', Bool.not_true, Bool.not_false, Bool.and_true, Bool.true_and, Bool.and_eq_true, Bool.and_eq_false_iff, decide_eq_true_eq, decide_eq_false_iff_not, Bool.false_eq_true, reduceCtorEq, false_iff, true_iff, beq_iff_eq, bne_iff_ne, beq_eq_false_iff_ne, bne_eq_false_iff_eq, ne_eq, not_false_eq_true, not_true_eq_false, true_or, or_true, true_implies, false_implies, implies_true, and_self, true_and, false_and, or_false, false_or, and_true, and_false] at *; simp only [mayN, inQ, lenMay, not_false_eq_true, not_true_eq_false, true_or, or_true, true_implies, false_implies, implies_true, and_self, true_and, false_and, or_false, false_or, and_true, and_false] at *; omega)
      · cases h
    · cases h
  · cases h
theorem may_at9 : FunOk Tryz.prog 143 (mayAt fun op => decide (op = 9)) := by
  have hC := table_ok (P := Tryz.prog) (l := tabMay) (table_more number_ok (table_more lasts_ok (table_more count_ok table_nil)))
  have t1 := fun args mm => table_at (l := tabMay) (f := 158) (args := args) (m := mm) rfl
  have t2 := fun args mm => table_at (l := tabMay) (f := 159) (args := args) (m := mm) rfl
  have t3 := fun args mm => table_at (l := tabMay) (f := 160) (args := args) (m := mm) rfl
  refine fun_ok mixed hC Tryz.func143 rfl kpMay false rfl fun args m r h => ?_
  unfold mayAt at h
  split at h
  · rename_i cs
    split at h
    · rename_i x hx
      split at h
      · rename_i hop
        obtain rfl := unNd_row hx
        obtain ⟨op, a, b, c, k, u, n⟩ := x
        have hop := of_decide_eq_true hop
        simp only at hop
        simp only [Option.some.injEq] at h
        subst h
        refine ⟨Nat.le_of_ble_eq_true rfl, ?_⟩
        simp only [entry, List.length_cons, List.length_nil, List.range, List.range.loop, List.zip_cons_cons, List.zip_nil_right]
        have fin : ∀ (e : Env) (m' : Mem) (z : Bool), Ev.get e 2 = .v (.bool z) → finMem m m' = m → (z = true ↔ mayN ⟨op, a, b, c, k, u, n⟩) → Leaves Tryz.prog false Tryz.f143 m (.v (.bool (decide (mayN ⟨op, a, b, c, k, u, n⟩))), m) .ret e m' := fun e m' z h1 h2 h3 => by
          have : z = decide (mayN ⟨op, a, b, c, k, u, n⟩) := by rw [Bool.eq_iff_iff, decide_eq_true_eq]; exact h3
          rw [← this]
          exact leaves_fin rfl h1 h2
        subst hop
        repeat' (first | refine gos1 (jn @t1 (jn @q_eq (jn @t2 (jn @ll_eq @t3)))) ?_ | (refine ops_here ?_; (fail_if_success (refine ops_case (B := true) rfl rfl rfl ?_ ?_)); (fail_if_success (refine ops_case (B := false) rfl rfl rfl ?_ ?_)); refine ops_case rfl rfl rfl (fun hB => ?_) (fun hB => ?_) <;> rw [hB]) | (refine runs_here ?_; refine runs_cond rfl (fun hc => ?_) (fun hc => ?_) <;> first | (cases hc; done) | skip))
        all_goals exact fin _ _ _ rfl (by first | exact fin_push | exact fin_two) (by clear fin hx t1 t2 t3 hC; simp only [Bool.not_eq_true', Bool.not_eq_false', Bool.not_true, Bool.not_false, Bool.and_true, Bool.true_and, Bool.and_eq_true, Bool.and_eq_false_iff, decide_eq_true_eq, decide_eq_false_iff_not, Bool.false_eq_true, reduceCtorEq, false_iff, true_iff, beq_iff_eq, bne_iff_ne, beq_eq_false_iff_ne, bne_eq_false_iff_eq, ne_eq, not_false_eq_true, not_true_eq_false, true_or, or_true, true_implies, false_implies, implies_true, and_self, true_and, false_and, or_false, false_or, and_true, and_false] at *; simp only [mayN, inQ, lenMay, not_false_eq_true, not_true_eq_false, true_or, or_true, true_implies, false_implies, implies_true, and_self, true_and, false_and, or_false, false_or, and_true, and_false] at *; omega)
      · cases h
    · cases h
  · cases h
theorem may_else : FunOk Tryz.prog 143 (mayAt fun op => decide (op < 1 ∨ 9 < op)) := by
  have hC := table_ok (P := Tryz.prog) (l := tabMay) (table_more number_ok (table_more lasts_ok (table_more count_ok table_nil)))
  have t1 := fun args mm => table_at (l := tabMay) (f := 158) (args := args) (m := mm) rfl
  have t2 := fun args mm => table_at (l := tabMay) (f := 159) (args := args) (m := mm) rfl
  have t3 := fun args mm => table_at (l := tabMay) (f := 160) (args := args) (m := mm) rfl
  refine fun_ok mixed hC Tryz.func143 rfl kpMay false rfl fun args m r h => ?_
  unfold mayAt at h
  split at h
  · rename_i cs
    split at h
    · rename_i x hx
      split at h
      · rename_i hop
        obtain rfl := unNd_row hx
        obtain ⟨op, a, b, c, k, u, n⟩ := x
        have hop := of_decide_eq_true hop
        simp only at hop
        simp only [Option.some.injEq] at h
        subst h
        refine ⟨Nat.le_of_ble_eq_true rfl, ?_⟩
        simp only [entry, List.length_cons, List.length_nil, List.range, List.range.loop, List.zip_cons_cons, List.zip_nil_right]
        have fin : ∀ (e : Env) (m' : Mem) (z : Bool), Ev.get e 2 = .v (.bool z) → finMem m m' = m → (z = true ↔ mayN ⟨op, a, b, c, k, u, n⟩) → Leaves Tryz.prog false Tryz.f143 m (.v (.bool (decide (mayN ⟨op, a, b, c, k, u, n⟩))), m) .ret e m' := fun e m' z h1 h2 h3 => by
          have : z = decide (mayN ⟨op, a, b, c, k, u, n⟩) := by rw [Bool.eq_iff_iff, decide_eq_true_eq]; exact h3
          rw [← this]
          exact leaves_fin rfl h1 h2
        have e1 : (op == 1) = false := beq_eq_false_iff_ne.2 (by omega)
        have e2 : (op == 2) = false := beq_eq_false_iff_ne.2 (by omega)
        have e3 : (op == 3) = false := beq_eq_false_iff_ne.2 (by omega)
        have e4 : (op == 4) = false := beq_eq_false_iff_ne.2 (by omega)
        have e5 : (op == 5) = false := beq_eq_false_iff_ne.2 (by omega)
        have e6 : (op == 6) = false := beq_eq_false_iff_ne.2 (by omega)
        have e7 : (op == 7) = false := beq_eq_false_iff_ne.2 (by omega)
        have e8 : (op == 8) = false := beq_eq_false_iff_ne.2 (by omega)
        have e9 : (op == 9) = false := beq_eq_false_iff_ne.2 (by omega)
        repeat' (first | refine gos1 (jn @t1 (jn @q_eq (jn @t2 (jn @ll_eq (jn @t3 (jn @e1 (jn @e2 (jn @e3 (jn @e4 (jn @e5 (jn @e6 (jn @e7 @e8)))))))))))) ?_ | (refine ops_here ?_; (fail_if_success (refine ops_case (B := true) rfl rfl rfl ?_ ?_)); (fail_if_success (refine ops_case (B := false) rfl rfl rfl ?_ ?_)); refine ops_case rfl rfl rfl (fun hB => ?_) (fun hB => ?_) <;> rw [hB]) | (refine runs_here ?_; refine runs_cond rfl (fun hc => ?_) (fun hc => ?_) <;> first | (cases hc; done) | skip))
        all_goals exact fin _ _ _ rfl (by first | exact fin_push | exact fin_two) (by clear fin hx t1 t2 t3 hC; simp only [Bool.not_eq_true', Bool.not_eq_false', Bool.not_true, Bool.not_false, Bool.and_true, Bool.true_and, Bool.and_eq_true, Bool.and_eq_false_iff, decide_eq_true_eq, decide_eq_false_iff_not, Bool.false_eq_true, reduceCtorEq, false_iff, true_iff, beq_iff_eq, bne_iff_ne, beq_eq_false_iff_ne, bne_eq_false_iff_eq, ne_eq, not_false_eq_true, not_true_eq_false, true_or, or_true, true_implies, false_implies, implies_true, and_self, true_and, false_and, or_false, false_or, and_true, and_false] at *; simp only [mayN, inQ, lenMay, not_false_eq_true, not_true_eq_false, true_or, or_true, true_implies, false_implies, implies_true, and_self, true_and, false_and, or_false, false_or, and_true, and_false] at *; omega)
      · cases h
    · cases h
  · cases h
end Go.Proofs.YtojaokhkbmiidaaGreat.Ev

namespace Go.Proofs.YtojaokhkbmiidaaGreat.Ev
open Go Go.Proofs
theorem may_ok : FunOk Tryz.prog 143 mayG := may_all fun op => by
  rcases (by omega : (op < 1 ∨ 9 < op) ∨ op = 1 ∨ op = 2 ∨ op = 3 ∨ op = 4 ∨ op = 5 ∨ op = 6 ∨ op = 7 ∨ op = 8 ∨ op = 9) with h | h | h | h | h | h | h | h | h | h
  · exact ⟨_, decide_eq_true h, may_else⟩
  · exact ⟨_, decide_eq_true h, may_at1⟩
  · exact ⟨_, decide_eq_true h, may_at2⟩
  · exact ⟨_, decide_eq_true h, may_at3⟩
  · exact ⟨_, decide_eq_true h, may_at4⟩
  · exact ⟨_, decide_eq_true h, may_at5⟩
  · exact ⟨_, decide_eq_true h, may_at6⟩
  · exact ⟨_, decide_eq_true h, may_at7⟩
  · exact ⟨_, decide_eq_true h, may_at8⟩
  · exact ⟨_, decide_eq_true h, may_at9⟩
end Go.Proofs.YtojaokhkbmiidaaGreat.Ev

namespace Go.Proofs.YtojaokhkbmiidaaGreat.Ev
open Go Go.Proofs
set_option maxRecDepth 10000
set_option linter.unusedVariables false
set_option linter.unusedSimpArgs false
attribute [local irreducible] Next Inside Runs Ops table
def cwords : List ByteArray := [⟨#[]⟩, ⟨#[99, 111, 110, 115, 116]⟩, ⟨#[108, 105, 110, 101]⟩, ⟨#[112, 111, 108, 121]⟩, ⟨#[101, 120, 112]⟩, ⟨#[119, 97, 118, 101]⟩]
theorem mkWords6 : evBuild Tryz.prog 163 [(0, .v (.string ⟨#[]⟩)), (1, .v (.string ⟨#[99, 111, 110, 115, 116]⟩)), (2, .v (.string ⟨#[108, 105, 110, 101]⟩)), (3, .v (.string ⟨#[112, 111, 108, 121]⟩)), (4, .v (.string ⟨#[101, 120, 112]⟩)), (5, .v (.string ⟨#[119, 97, 118, 101]⟩))] = some (.agg (strCells cwords)) := by kernel_rfl
theorem zeroWords6 : zeroCells Tryz.prog 163 = some (strCells [⟨#[]⟩, ⟨#[]⟩, ⟨#[]⟩, ⟨#[]⟩, ⟨#[]⟩, ⟨#[]⟩]) := by kernel_rfl
theorem okWords6 : (strCells [⟨#[]⟩, ⟨#[]⟩, ⟨#[]⟩, ⟨#[]⟩, ⟨#[]⟩, ⟨#[]⟩]).all okCell = true := rfl
theorem szWords6 : tSize Tryz.prog 163 = some 6 := by kernel_rfl
theorem arrWords6 : tArr Tryz.prog 163 = some (6, 9) := by simp only [tArr, Tryz.underlying163]
theorem newWords6 {m : Mem} : newVar m m.vars.length (strCells [⟨#[]⟩, ⟨#[]⟩, ⟨#[]⟩, ⟨#[]⟩, ⟨#[]⟩, ⟨#[]⟩]) = some (m.push (strCells [⟨#[]⟩, ⟨#[]⟩, ⟨#[]⟩, ⟨#[]⟩, ⟨#[]⟩, ⟨#[]⟩])) := newVar_push rfl
theorem putWords6 {m : Mem} : evStore Tryz.prog (m.push (strCells [⟨#[]⟩, ⟨#[]⟩, ⟨#[]⟩, ⟨#[]⟩, ⟨#[]⟩, ⟨#[]⟩])) 163 (.ptr m.vars.length 0) (.agg (strCells cwords)) = some (m.push (strCells cwords)) := by
  rw [store_push (cs := strCells cwords) rfl szWords6 (by decide) rfl]
  rfl
attribute [local go_sem] szStr szInt Option.getD_some isNil loadStr loadInt mkInts0 mkInts1 mkStrs0 mkStrs1 rowsS_len rowsI_len rowsN_len evStr fldOp ldOp mkWords6 zeroWords6 okWords6 newWords6 putWords6
def cword (op : Int) : ByteArray := if 0 ≤ op ∧ op < 6 then cwords.getD op.toNat ⟨#[]⟩ else ⟨#[]⟩
def wordG : List AV → Mem → Option (AV × Mem)
  | [.v (.int .i64 op)], m => some (.v (.string (cword op)), m)
  | _, _ => none
def kpWord : Nat → Option (List Nat) := fun _ => some [0, 2, 3, 10]
attribute [go_sem] kpWord
theorem word_ok : FunOk Tryz.prog 150 wordG := by
  have hC := table_ok (P := Tryz.prog) (l := []) table_nil
  refine fun_ok mixed hC Tryz.func150 rfl kpWord false rfl fun args m r h => ?_
  unfold wordG at h
  split at h
  · rename_i op
    simp only [Option.some.injEq] at h
    subst h
    refine ⟨Nat.le_of_ble_eq_true rfl, ?_⟩
    simp only [entry, List.length_cons, List.length_nil, List.range, List.range.loop, List.zip_cons_cons, List.zip_nil_right]
    by_cases h0 : op < 0
    · have b0 : decide (op < 0) = true := decide_eq_true h0
      rw [show cword op = ⟨#[]⟩ from if_neg (by omega)]
      refine go1 @b0 ?_
      refine runs_cond rfl (fun hc => ?_) (fun hc => by cases hc)
      refine go0 ?_
      exact leaves_fin rfl rfl fin_push
    · have b0 : decide (op < 0) = false := decide_eq_false h0
      refine go1 @b0 ?_
      refine runs_cond rfl (fun hc => ?_) (fun hc => ?_)
      · have := of_decide_eq_true hc
        rw [show cword op = ⟨#[]⟩ from if_neg (by omega)]
        refine go0 ?_
        exact leaves_fin rfl rfl fin_push
      · have h6 := of_decide_eq_false hc
        obtain ⟨i, rfl⟩ := Int.eq_ofNat_of_zero_le (by omega : 0 ≤ op)
        have f1 := indexAddr_arr (P := Tryz.prog) (kk := .i64) (r := m.vars.length) (off := 0) arrWords6 szStr (by omega : i < 6)
        have f2 := loadVarS (m := m) (cs := strCells cwords) (off := 0 + i * 1)
        have f3 : ((strCells cwords).drop (0 + i * 1)).head? = some (.v (.string (cword (i : Int)))) := by
          rw [show cword (i : Int) = cwords.getD i ⟨#[]⟩ from if_pos ⟨by omega, by omega⟩]
          rcases (by omega : i = 0 ∨ i = 1 ∨ i = 2 ∨ i = 3 ∨ i = 4 ∨ i = 5) with rfl | rfl | rfl | rfl | rfl | rfl <;> rfl
        rw [f3] at f2
        refine go1 (jn @f1 @f2) ?_
        exact leaves_fin rfl rfl fin_push
  · cases h
/-! ### arity -/
def arityOf (op : Int) : Int := if op < 1 ∨ 9 < op then -1 else if op ≤ 7 then 0 else op - 7
theorem arity_in (op : Int) : -1 ≤ arityOf op ∧ arityOf op ≤ 2 := by unfold arityOf; split <;> (try split) <;> omega
def arityG : List AV → Mem → Option (AV × Mem)
  | [.v (.int .i64 op)], m => some (.v (.int .i64 (arityOf op)), m)
  | _, _ => none
def kpArity : Nat → Option (List Nat) := fun _ => some [0, 2, 3, 11, 14]
attribute [go_sem] kpArity
set_option maxHeartbeats 1000000 in
theorem arity_ok : FunOk Tryz.prog 115 arityG := by
  have hC := table_ok (P := Tryz.prog) (l := [(150, wordG)]) (table_more word_ok table_nil)
  have t1 := fun args mm => table_at (l := [(150, wordG)]) (f := 150) (args := args) (m := mm) rfl
  refine fun_ok mixed hC Tryz.func115 rfl kpArity false rfl fun args m r h => ?_
  unfold arityG at h
  split at h
  · rename_i op
    simp only [Option.some.injEq] at h
    subst h
    refine ⟨Nat.le_of_ble_eq_true rfl, ?_⟩
    simp only [entry, List.length_cons, List.length_nil, List.range, List.range.loop, List.zip_cons_cons, List.zip_nil_right]
    have fw : ∀ mm, wordG [.v (.int .i64 op)] mm = some (.v (.string (cword op)), mm) := fun _ => rfl
    refine go1 (jn @t1 @fw) ?_
    refine runs_cond rfl (fun hc => ?_) (fun hc => ?_)
    · have hop : 1 ≤ op ∧ op ≤ 5 := by
        have hne := bytes_ne.1 hc
        unfold cword at hne
        split at hne
        · rename_i h
          refine ⟨?_, by omega⟩
          rcases (by omega : op = 0 ∨ 1 ≤ op) with rfl | h1
          · exact absurd rfl hne
          · exact h1
        · exact absurd rfl hne
      rw [show arityOf op = 0 by unfold arityOf; rw [if_neg (by omega), if_pos (by omega)]]
      refine go0 ?_
      refine runs_cond rfl (fun _ => ?_) (fun hf => absurd (hc.symm.trans hf) (by decide))
      refine go0 ?_
      exact leaves_v rfl rfl
    · have hop : ¬ (1 ≤ op ∧ op ≤ 5) := by
        intro h
        have hne : (cword op != ⟨#[]⟩) = true := by
          rcases (by omega : op = 1 ∨ op = 2 ∨ op = 3 ∨ op = 4 ∨ op = 5) with rfl | rfl | rfl | rfl | rfl <;> decide
        exact absurd (hne.symm.trans hc) (by decide)
      refine go0 ?_
      refine runs_cond rfl (fun h6 => ?_) (fun h6 => ?_)
      · have := eq_of_beq h6
        subst this
        refine go0 ?_
        refine runs_cond rfl (fun _ => ?_) (fun hf => by cases hf)
        refine go0 ?_
        exact leaves_v rfl rfl
      · refine go0 ?_
        refine runs_cond rfl (fun h7 => ?_) (fun h7 => ?_)
        · have := eq_of_beq h7
          subst this
          refine go0 ?_
          exact leaves_v rfl rfl
        · refine go0 ?_
          refine runs_cond rfl (fun h8 => ?_) (fun h8 => ?_)
          · have := eq_of_beq h8
            subst this
            refine go0 ?_
            exact leaves_v rfl rfl
          · refine go0 ?_
            refine runs_cond rfl (fun h9 => ?_) (fun h9 => ?_)
            · have := eq_of_beq h9
              subst this
              refine go0 ?_
              exact leaves_v rfl rfl
            · have e6 := ne_of_beq_false h6
              have e7 := ne_of_beq_false h7
              have e8 := ne_of_beq_false h8
              have e9 := ne_of_beq_false h9
              rw [show arityOf op = -1 by unfold arityOf; exact if_pos (by omega)]
              refine go0 ?_
              exact leaves_v rfl rfl
  · cases h
def kpRefArity : Nat → Option (List Nat) := fun _ => some [0, 2, 8, 10]
attribute [go_sem] kpRefArity
theorem refArity_ok : FunOk Tryz.prog 156 arityG := by
  have hC := table_ok (P := Tryz.prog) (l := []) table_nil
  refine fun_ok mixed hC Tryz.func156 rfl kpRefArity false rfl fun args m r h => ?_
  unfold arityG at h
  split at h
  · rename_i op
    simp only [Option.some.injEq] at h
    subst h
    refine ⟨Nat.le_of_ble_eq_true rfl, ?_⟩
    simp only [entry, List.length_cons, List.length_nil, List.range, List.range.loop, List.zip_cons_cons, List.zip_nil_right]
    by_cases h0 : op < 1
    · have b0 : decide (op < 1) = true := decide_eq_true h0
      rw [show arityOf op = -1 from if_pos (.inl h0)]
      refine go1 @b0 ?_
      refine runs_cond rfl (fun hc => ?_) (fun hc => by cases hc)
      refine go0 ?_
      exact leaves_v rfl rfl
    · have b0 : decide (op < 1) = false := decide_eq_false h0
      refine go1 @b0 ?_
      refine runs_cond rfl (fun hc => ?_) (fun hc => ?_)
      · rw [show arityOf op = -1 from if_pos (.inr (of_decide_eq_true hc))]
        refine go0 ?_
        exact leaves_v rfl rfl
      · have h9 := of_decide_eq_false hc
        have e : arityOf op = if op ≤ 7 then 0 else op - 7 := if_neg (by omega)
        refine go0 ?_
        refine runs_cond rfl (fun hc => ?_) (fun hc => ?_)
        · rw [e, if_pos (of_decide_eq_true hc)]
          refine go0 ?_
          exact leaves_v rfl rfl
        · have r1 : IntKind.i64.wrap (op - 7) = op - 7 := i64_wrap (by omega) (by omega)
          rw [e, if_neg (of_decide_eq_false hc)]
          refine go1 @r1 ?_
          exact leaves_v rfl rfl
  · cases h
end Go.Proofs.YtojaokhkbmiidaaGreat.Ev

namespace Go.Proofs.YtojaokhkbmiidaaGreat.Ev
open Go Go.Proofs
set_option maxRecDepth 10000
set_option maxHeartbeats 4000000
set_option linter.unusedVariables false
set_option linter.unusedSimpArgs false
attribute [local irreducible] Next Inside Runs Ops table
attribute [local go_sem] szStr szInt Option.getD_some isNil loadStr loadInt mkInts0 mkInts1 mkStrs0 mkStrs1 rowsS_len rowsI_len rowsN_len evStr fldOp ldOp
/-- The place behind so many trees, of nodes that begin at a place. -/
def endW : List Nd → Nat → Nat → Int
  | _, 0, p => p
  | [], _ + 1, _ => -1
  | x :: r, k + 1, p => if arityOf x.op < 0 then -1 else endW r (k + (arityOf x.op).toNat) (p + 1)
theorem endW_in : ∀ (xs : List Nd) (k p : Nat), endW xs k p = -1 ∨ ((p : Int) ≤ endW xs k p ∧ endW xs k p ≤ ((p + xs.length : Nat) : Int) ∧ (0 < k → (p : Int) < endW xs k p))
  | _, 0, p => by rw [endW]; exact .inr ⟨Int.le_refl _, by omega, fun h => by omega⟩
  | [], k + 1, p => .inl rfl
  | x :: r, k + 1, p => by
    rw [endW]
    split
    · exact .inl rfl
    · rcases endW_in r (k + (arityOf x.op).toNat) (p + 1) with h | ⟨h1, h2, _⟩
      · exact .inl h
      · refine .inr ⟨by omega, ?_, fun _ => by omega⟩
        simp only [List.length_cons]
        omega
theorem endW_add (l : List Nd) : ∀ (xs : List Nd) (k j p : Nat), xs = l.drop p → endW xs (k + j) p = if endW xs k p < 0 then -1 else endW (l.drop (endW xs k p).toNat) j (endW xs k p).toNat
  | xs, 0, j, p, h => by
    rw [Nat.zero_add, show endW xs 0 p = (p : Int) by unfold endW; rfl, if_neg (by omega), Int.toNat_natCast, h]
  | [], k + 1, j, p, h => by
    rw [show k + 1 + j = k + j + 1 by omega]
    rfl
  | x :: r, k + 1, j, p, h => by
    have hr : r = l.drop (p + 1) := by
      rw [show p + 1 = p + 1 from rfl, ← List.drop_drop, ← h]
      rfl
    rw [show k + 1 + j = k + j + 1 by omega, endW, endW]
    split
    · rfl
    · rw [show k + j + (arityOf x.op).toNat = k + (arityOf x.op).toNat + j by omega]
      exact endW_add l r (k + (arityOf x.op).toNat) j (p + 1) hr
def endOf (l : List Nd) (at_ : Int) : Int := if at_ < 0 then -1 else endW (l.drop at_.toNat) 1 at_.toNat
theorem endOf_nat (l : List Nd) (p : Nat) : endOf l (p : Int) = endW (l.drop p) 1 p := by
  unfold endOf
  rw [if_neg (by omega), Int.toNat_natCast]
theorem endOf_in (l : List Nd) (at_ : Int) : endOf l at_ = -1 ∨ (0 ≤ at_ ∧ at_ < endOf l at_ ∧ endOf l at_ ≤ (l.length : Int)) := by
  unfold endOf
  split
  · exact .inl rfl
  · obtain ⟨p, rfl⟩ := Int.eq_ofNat_of_zero_le (by omega : 0 ≤ at_)
    rw [Int.toNat_natCast]
    rcases endW_in (l.drop p) 1 p with h | ⟨h1, h2, h3⟩
    · exact .inl h
    · refine .inr ⟨by omega, h3 (by decide), ?_⟩
      rw [List.length_drop] at h2
      rcases Nat.lt_or_ge p l.length with h4 | h4
      · omega
      · exfalso
        have : l.drop p = [] := List.drop_eq_nil_of_le h4
        rw [this] at h3
        have := h3 (by decide)
        rw [endW] at this
        omega
def endG : List AV → Mem → Option (AV × Mem)
  | [.lst _ 7 rows, .v (.int .i64 at_)], m =>
    match unN rows with
    | some l => if l.length ≤ big40 ∧ inI at_ then some (.v (.int .i64 (endOf l at_)), m) else none
    | none => none
  | _, _ => none
theorem endG_eq {m : Mem} {g : Grow} {l : List Nd} {at_ : Int} (h : l.length ≤ big40) (h2 : inI at_) : endG [.lst g 7 (rowsN l), .v (.int .i64 at_)] m = some (.v (.int .i64 (endOf l at_)), m) := by
  simp only [endG, unN_rowsN]
  rw [if_pos ⟨h, h2⟩]
def kpEnd : Nat → Option (List Nat) := fun _ => some [0, 1, 4, 5, 7, 9, 24]
attribute [go_sem] kpEnd
theorem end_ok : FunOk Tryz.prog 157 endG := by
  have hC := table_ok (P := Tryz.prog) (l := [(115, arityG)]) (table_more arity_ok table_nil)
  have t1 := fun args mm => table_at (l := [(115, arityG)]) (f := 115) (args := args) (m := mm) rfl
  refine fun_ok mixed hC Tryz.func157 rfl kpEnd false rfl fun args m r h => ?_
  unfold endG at h
  split at h
  · rename_i g rows at_
    split at h
    · rename_i l hl0
      obtain rfl := unN_some hl0
      split at h
      · rename_i hb
        obtain ⟨hlen, hat⟩ := hb
        simp only [Option.some.injEq] at h
        subst h
        unfold big40 at hlen
        unfold inI at hat
        refine ⟨Nat.le_of_ble_eq_true rfl, ?_⟩
        simp only [entry, List.length_cons, List.length_nil, List.range, List.range.loop, List.zip_cons_cons, List.zip_nil_right]
        refine go0 ?_
        refine runs_cond rfl (fun hc => ?_) (fun hc => ?_)
        · rw [show endOf l at_ = -1 from if_pos (of_decide_eq_true hc)]
          refine go0 ?_
          exact leaves_v rfl rfl
        · have h0 := of_decide_eq_false hc
          obtain ⟨p0, rfl⟩ := Int.eq_ofNat_of_zero_le (by omega : 0 ≤ at_)
          rw [endOf_nat]
          refine go0 ?_
          refine runs_loop (fun k e m' => ∃ (p j : Nat) (x9 x24 : AV), endW (l.drop p) j p = endW (l.drop p0) 1 p0 ∧ (p ≤ l.length ∨ p = p0) ∧ j ≤ 1 + 2 * p ∧ (j ≤ 1 ∨ p ≤ l.length) ∧ m = m' ∧ k = l.length - p ∧
            e = [(0, AV.lst g 7 (rowsN l)), (1, .v (.int .i64 (p : Int))), (4, .v (.int .i64 0)), (5, .v (.int .i64 (j : Int))), (7, .v (.bool false)), (9, x9), (24, x24)]) (k := l.length - p0) ⟨p0, 1, _, _, rfl, .inr rfl, by omega, .inl (by decide), rfl, rfl, rfl⟩ ?_
          rintro k e m' ⟨p, j, x9, x24, hw, hp, hj, hj2, rfl, rfl, rfl⟩
          refine go0 ?_
          refine runs_cond rfl (fun hc => ?_) (fun hc => ?_)
          · obtain ⟨j, rfl⟩ : ∃ i, j = i + 1 := ⟨j - 1, by have := of_decide_eq_true hc; omega⟩
            by_cases hpl : l.length ≤ p
            · have b0 : decide ((p : Int) ≥ (l.length : Int)) = true := decide_eq_true (by omega)
              refine go1 @b0 ?_
              refine runs_cond rfl (fun hc => ?_) (fun hc => by cases hc)
              rw [List.drop_eq_nil_of_le hpl, endW] at hw
              rw [← hw]
              refine go0 ?_
              exact leaves_v rfl rfl
            · have hp1 : p < l.length := by omega
              have b0 : decide ((p : Int) ≥ (l.length : Int)) = false := decide_eq_false (by omega)
              have f1 := atNodes (g := g) (kk := .i64) hp1
              rw [drop_next (d := nd0) hp1, endW] at hw
              generalize l.getD p nd0 = x at f1 hw
              have fa : ∀ mm, arityG [.v (.int .i64 x.op)] mm = some (.v (.int .i64 (arityOf x.op)), mm) := fun _ => rfl
              have ha := arity_in x.op
              refine go1 (jn @b0 (jn @f1 (jn @t1 @fa))) ?_
              refine runs_cond rfl (fun hc => ?_) (fun hc => ?_)
              · rw [if_pos (of_decide_eq_true hc)] at hw
                rw [← hw]
                refine go0 ?_
                exact leaves_v rfl rfl
              · have hneg := of_decide_eq_false hc
                rw [if_neg hneg] at hw
                have r1 : IntKind.i64.wrap (arityOf x.op - 1) = arityOf x.op - 1 := i64_wrap (by omega) (by omega)
                have r2 : IntKind.i64.wrap (((j + 1 : Nat) : Int) + (arityOf x.op - 1)) = ((j + (arityOf x.op).toNat : Nat) : Int) := by
                  rw [i64_wrap (by omega) (by omega)]; omega
                have r6 := next_i64 (i := p) (by omega)
                refine go1 (jn @f1 (jn @t1 (jn @fa (jn @r1 (jn @r2 @r6))))) ?_
                exact ⟨l.length - (p + 1), by omega, p + 1, j + (arityOf x.op).toNat, _, _, hw, .inl hp1, by omega, .inr hp1, rfl, rfl, rfl⟩
          · have hj0 : j = 0 := by have := of_decide_eq_false hc; omega
            subst hj0
            rw [show endW (l.drop p) 0 p = (p : Int) by unfold endW; rfl] at hw
            rw [← hw]
            refine go0 ?_
            exact leaves_v rfl rfl
      · cases h
    · cases h
  · cases h
/-! ### the document's way: tree by tree -/
def endGk (n : Nat) : List AV → Mem → Option (AV × Mem)
  | [.lst _ 7 rows, .v (.int .i64 at_)], m =>
    match unN rows with
    | some l => if (l.length ≤ big40 ∧ inI at_) ∧ (l.length : Int) - at_ < (n : Int) then some (.v (.int .i64 (endOf l at_)), m) else none
    | none => none
  | _, _ => none
theorem endGk_eq {n : Nat} {m : Mem} {g : Grow} {l : List Nd} {at_ : Int} (h : l.length ≤ big40) (h2 : inI at_) (h3 : (l.length : Int) - at_ < (n : Int)) : endGk n [.lst g 7 (rowsN l), .v (.int .i64 at_)] m = some (.v (.int .i64 (endOf l at_)), m) := by
  simp only [endGk, unN_rowsN]
  rw [if_pos ⟨⟨h, h2⟩, h3⟩]
def prevG (g : Nat → List AV → Mem → Option (AV × Mem)) : Nat → List AV → Mem → Option (AV × Mem)
  | 0 => fun _ _ => none
  | n + 1 => g n
theorem prev_ok {P : Program} {f : FuncId} {g : Nat → List AV → Mem → Option (AV × Mem)} (step : ∀ n, FunOk P f (prevG g n) → FunOk P f (g n)) : ∀ n, FunOk P f (g n)
  | 0 => step 0 fun args m r m' h => by cases h
  | n + 1 => step (n + 1) (prev_ok step n)
def kpRefEnd : Nat → Option (List Nat) := fun _ => some [0, 1, 4, 5, 6, 23, 33, 40]
attribute [go_sem] kpRefEnd
theorem refEnd_k : ∀ n, FunOk Tryz.prog 135 (endGk n) := prev_ok fun n ih => by
  have hC := table_ok (P := Tryz.prog) (l := [(135, prevG endGk n), (156, arityG)]) (table_more ih (table_more refArity_ok table_nil))
  have t1 := fun args mm => table_at (l := [(135, prevG endGk n), (156, arityG)]) (f := 156) (args := args) (m := mm) rfl
  have t2 := fun args mm => table_at (l := [(135, prevG endGk n), (156, arityG)]) (f := 135) (args := args) (m := mm) rfl
  refine fun_ok mixed hC Tryz.func135 rfl kpRefEnd false rfl fun args m r h => ?_
  unfold endGk at h
  split at h
  · rename_i g rows at_
    split at h
    · rename_i l hl0
      obtain rfl := unN_some hl0
      split at h
      · rename_i hb
        obtain ⟨⟨hlen, hat⟩, hn⟩ := hb
        have hlen' := hlen
        have hat' := hat
        simp only [Option.some.injEq] at h
        subst h
        unfold big40 at hlen
        unfold inI at hat
        refine ⟨Nat.le_of_ble_eq_true rfl, ?_⟩
        simp only [entry, List.length_cons, List.length_nil, List.range, List.range.loop, List.zip_cons_cons, List.zip_nil_right]
        by_cases h0 : at_ < 0
        · have b0 : decide (at_ < 0) = true := decide_eq_true h0
          rw [show endOf l at_ = -1 from if_pos h0]
          refine go1 @b0 ?_
          refine runs_cond rfl (fun hc => ?_) (fun hc => by cases hc)
          refine go0 ?_
          exact leaves_v rfl rfl
        obtain ⟨p, rfl⟩ := Int.eq_ofNat_of_zero_le (by omega : 0 ≤ at_)
        have b0 : decide ((p : Int) < 0) = false := decide_eq_false h0
        rw [endOf_nat]
        by_cases hpl : l.length ≤ p
        · have b1 : decide ((p : Int) ≥ (l.length : Int)) = true := decide_eq_true (by omega)
          rw [List.drop_eq_nil_of_le hpl, endW]
          refine go1 (jn @b0 @b1) ?_
          refine runs_cond rfl (fun hc => ?_) (fun hc => by cases hc)
          refine go0 ?_
          exact leaves_v rfl rfl
        have hp1 : p < l.length := by omega
        have b1 : decide ((p : Int) ≥ (l.length : Int)) = false := decide_eq_false (by omega)
        have f1 := atNodes (g := g) (kk := .i64) hp1
        rw [drop_next (d := nd0) hp1, endW]
        generalize l.getD p nd0 = x at f1
        have fa : ∀ mm, arityG [.v (.int .i64 x.op)] mm = some (.v (.int .i64 (arityOf x.op)), mm) := fun _ => rfl
        have ha := arity_in x.op
        refine go1 (jn @b0 (jn @b1 (jn @f1 (jn @t1 @fa)))) ?_
        refine runs_cond rfl (fun hc => ?_) (fun hc => ?_)
        · rw [if_pos (of_decide_eq_true hc)]
          refine go0 ?_
          exact leaves_v rfl rfl
        · have hneg := of_decide_eq_false hc
          rw [if_neg hneg, Nat.zero_add]
          have r6 := next_i64 (i := p) (by omega)
          refine go1 @r6 ?_
          refine runs_loop (fun k e m' => ∃ (i q : Nat) (x33 x40 : AV), endW (l.drop (p + 1)) i (p + 1) = (q : Int) ∧ p + 1 ≤ q ∧ q ≤ l.length ∧ i ≤ (arityOf x.op).toNat ∧ m = m' ∧ k = (arityOf x.op).toNat - i ∧
            e = [(0, AV.lst g 7 (rowsN l)), (1, .v (.int .i64 (p : Int))), (4, .v (.int .i64 0)), (5, .v (.int .i64 (q : Int))), (6, .v (.int .i64 (i : Int))), (23, .v (.bool (decide (arityOf x.op < 0)))), (33, x33), (40, x40)])
            (k := (arityOf x.op).toNat) ⟨0, p + 1, _, _, by unfold endW; rfl, by omega, by omega, by omega, rfl, rfl, rfl⟩ ?_
          rintro k e m' ⟨i, q, x33, x40, hw, hq1, hq2, hi, rfl, rfl, rfl⟩
          refine go1 (jn @f1 (jn @t1 @fa)) ?_
          refine runs_cond rfl (fun hc => ?_) (fun hc => ?_)
          · have hi1 : i < (arityOf x.op).toNat := by have := of_decide_eq_true hc; omega
            obtain ⟨n', rfl⟩ : ∃ n', n = n' + 1 := ⟨n - 1, by omega⟩
            have f2 : ∀ mm, prevG endGk (n' + 1) [.lst .no 7 (rowsN l), .v (.int .i64 (q : Int))] mm = some (.v (.int .i64 (endOf l (q : Int))), mm) := fun mm => endGk_eq (g := .no) hlen' ⟨by omega, by omega⟩ (by omega)
            have hstep := endW_add l (l.drop (p + 1)) i 1 (p + 1) rfl
            rw [hw, if_neg (by omega), Int.toNat_natCast, ← endOf_nat] at hstep
            have hin := endOf_in l (q : Int)
            have hfin : endOf l (q : Int) < 0 → endW (l.drop (p + 1)) (arityOf x.op).toNat (p + 1) = -1 := fun h => by
              have := endW_add l (l.drop (p + 1)) (i + 1) ((arityOf x.op).toNat - (i + 1)) (p + 1) rfl
              rw [show i + 1 + ((arityOf x.op).toNat - (i + 1)) = (arityOf x.op).toNat by omega, hstep, if_pos h] at this
              exact this
            generalize endOf l (q : Int) = Q at f2 hstep hin hfin
            refine go1 (jn @t2 @f2) ?_
            refine runs_cond rfl (fun hc => ?_) (fun hc => ?_)
            · rw [hfin (of_decide_eq_true hc)]
              refine go0 ?_
              exact leaves_v rfl rfl
            · have hQ := of_decide_eq_false hc
              obtain ⟨q', rfl⟩ := Int.eq_ofNat_of_zero_le (by omega : 0 ≤ Q)
              have r7 := next_i64 (i := i) (by omega)
              refine go1 @r7 ?_
              exact ⟨(arityOf x.op).toNat - (i + 1), by omega, i + 1, q', _, _, hstep, by omega, by omega, hi1, rfl, rfl, rfl⟩
          · have hi1 : i = (arityOf x.op).toNat := by have := of_decide_eq_false hc; omega
            subst hi1
            rw [hw]
            refine go0 ?_
            exact leaves_v rfl rfl
      · cases h
    · cases h
  · cases h
theorem refEnd_ok : FunOk Tryz.prog 135 endG := by
  intro args m r m' h
  unfold endG at h
  split at h
  · rename_i g rows at_
    split at h
    · rename_i l hl0
      obtain rfl := unN_some hl0
      split at h
      · rename_i hb
        refine refEnd_k (((l.length : Int) - at_).toNat + 1) _ m r m' ?_
        rw [endGk_eq hb.1 hb.2 (by omega)]
        exact h
      · cases h
    · cases h
  · cases h
end Go.Proofs.YtojaokhkbmiidaaGreat.Ev

namespace Go.Proofs.YtojaokhkbmiidaaGreat.Ev
open Go Go.Proofs
set_option maxRecDepth 10000
set_option maxHeartbeats 4000000
set_option linter.unusedVariables false
set_option linter.unusedSimpArgs false
attribute [local irreducible] Next Inside Runs Ops table
attribute [local go_sem] szStr szInt Option.getD_some isNil loadStr loadInt mkInts0 mkInts1 mkStrs0 mkStrs1 rowsS_len rowsI_len rowsN_len evStr fldOp ldOp
def belowW (l : List Nd) : Nat → Int → List Int
  | 0, _ => []
  | k + 1, next => next :: belowW l k (endOf l next)
theorem belowW_len (l : List Nd) : ∀ (k : Nat) (n : Int), (belowW l k n).length = k
  | 0, _ => rfl
  | k + 1, n => by simp [belowW, belowW_len l k]
theorem belowW_okI {l : List Nd} (hl : l.length ≤ big40) : ∀ (k : Nat) (n : Int), inI n → OkI (belowW l k n)
  | 0, _, _ => .nil
  | k + 1, n, h => by
    intro b hb
    rcases List.mem_cons.1 hb with rfl | hb
    · exact h
    · refine belowW_okI hl k _ ?_ b hb
      unfold big40 at hl
      unfold inI
      rcases endOf_in l n with h | h <;> omega
def arAt (l : List Nd) (at_ : Int) : Nat := (arityOf (l.getD at_.toNat nd0).op).toNat
def belowOf (l : List Nd) (at_ : Int) : List Int := if endOf l at_ < 0 then [] else belowW l (arAt l at_) (at_ + 1)
def belowG : List AV → Mem → Option (AV × Mem)
  | [.lst _ 7 rows, .v (.int .i64 at_)], m =>
    match unN rows with
    | some l => if l.length ≤ big40 ∧ inI at_ then some (.lst .no 1 (rowsI (belowOf l at_)), m) else none
    | none => none
  | _, _ => none
theorem belowG_eq {m : Mem} {g : Grow} {l : List Nd} {at_ : Int} (h : l.length ≤ big40) (h2 : inI at_) : belowG [.lst g 7 (rowsN l), .v (.int .i64 at_)] m = some (.lst .no 1 (rowsI (belowOf l at_)), m) := by
  simp only [belowG, unN_rowsN]
  rw [if_pos ⟨h, h2⟩]
theorem belowOf_okI {l : List Nd} (hl : l.length ≤ big40) {at_ : Int} (h : inI at_) : OkI (belowOf l at_) ∧ (belowOf l at_).length ≤ 2 := by
  unfold belowOf
  split
  · exact ⟨.nil, by decide⟩
  · rename_i hn
    rcases endOf_in l at_ with h1 | h1
    · omega
    · refine ⟨belowW_okI hl _ _ ?_, ?_⟩
      · unfold big40 at hl
        unfold inI at h ⊢
        omega
      · rw [belowW_len]
        unfold arAt
        have := arity_in (l.getD at_.toNat nd0).op
        omega
def kpBelow : Nat → Option (List Nat) := fun _ => some [0, 1, 4, 5, 6, 10, 18, 19, 20]
attribute [go_sem] kpBelow
def tabBelow : List (FuncId × (List AV → Mem → Option (AV × Mem))) := [(157, endG), (115, arityG)]
theorem below_ok : FunOk Tryz.prog 146 belowG := by
  have hC := table_ok (P := Tryz.prog) (l := tabBelow) (table_more end_ok (table_more arity_ok table_nil))
  have t1 := fun args mm => table_at (l := tabBelow) (f := 157) (args := args) (m := mm) rfl
  have t2 := fun args mm => table_at (l := tabBelow) (f := 115) (args := args) (m := mm) rfl
  refine fun_ok mixed hC Tryz.func146 rfl kpBelow false rfl fun args m r h => ?_
  unfold belowG at h
  split at h
  · rename_i g rows at_
    split at h
    · rename_i l hl0
      obtain rfl := unN_some hl0
      split at h
      · rename_i hb
        obtain ⟨hlen, hat⟩ := hb
        have hlen' := hlen
        simp only [Option.some.injEq] at h
        subst h
        unfold big40 at hlen
        refine ⟨Nat.le_of_ble_eq_true rfl, ?_⟩
        simp only [entry, List.length_cons, List.length_nil, List.range, List.range.loop, List.zip_cons_cons, List.zip_nil_right]
        have f1 := fun mm => endG_eq (m := mm) (g := .no) hlen' hat
        refine go1 (jn @t1 @f1) ?_
        refine runs_cond rfl (fun hc => ?_) (fun hc => ?_)
        · rw [show belowOf l at_ = [] from if_pos (of_decide_eq_true hc)]
          refine go0 ?_
          exact leaves_lst rfl rfl (finMem_self _)
        · have hn := of_decide_eq_false hc
          rw [show belowOf l at_ = belowW l (arAt l at_) (at_ + 1) from if_neg hn]
          unfold inI at hat
          have hin := endOf_in l at_
          obtain ⟨p, rfl⟩ := Int.eq_ofNat_of_zero_le (by omega : 0 ≤ at_)
          have hp1 : p < l.length := by omega
          have f2 := atNodes (g := g) (kk := .i64) hp1
          have e1 : arAt l (p : Int) = (arityOf (l.getD p nd0).op).toNat := by unfold arAt; rw [Int.toNat_natCast]
          rw [e1]
          generalize l.getD p nd0 = x at f2
          have fa : ∀ mm, arityG [.v (.int .i64 x.op)] mm = some (.v (.int .i64 (arityOf x.op)), mm) := fun _ => rfl
          have ha := arity_in x.op
          have r6 := next_i64 (i := p) (by omega)
          refine go1 (jn @r6 (jn @f2 (jn @t2 @fa))) ?_
          refine runs_loop (fun k e m' => ∃ (j : Nat) (next : Int) (pre : List Int) (g5 : Grow) (x20 : AV), pre ++ belowW l ((arityOf x.op).toNat - j) next = belowW l (arityOf x.op).toNat ((p : Int) + 1) ∧ pre.length = j ∧ inI next ∧ j ≤ (arityOf x.op).toNat ∧ Grows m g5 m' ∧ k = (arityOf x.op).toNat - j ∧
            e = [(0, AV.lst g 7 (rowsN l)), (1, .v (.int .i64 (p : Int))), (4, .lst .full 1 []), (5, .lst g5 1 (rowsI pre)), (6, .v (.int .i64 next)), (10, .v (.bool (decide (endOf l (p : Int) < 0)))), (18, .v (.int .i64 (arityOf x.op))), (19, .v (.int .i64 (j : Int))), (20, x20)])
            (k := (arityOf x.op).toNat) ⟨0, (p : Int) + 1, [], .full, _, rfl, rfl, ⟨by omega, by omega⟩, by omega, grows_full, rfl, rfl⟩ ?_
          rintro k e m' ⟨j, next, pre, g5, x20, hpre, hpl, hnx, hj, hG, rfl, rfl⟩
          refine go0 ?_
          refine runs_cond rfl (fun hc => ?_) (fun hc => ?_)
          · have hj1 : j < (arityOf x.op).toNat := by have := of_decide_eq_true hc; omega
            obtain ⟨g', m'', a1, hG'⟩ := app_int appInts hG (g2 := .full) pre next (by unfold lim; omega)
            have f3 := fun mm => endG_eq (m := mm) (g := .no) hlen' hnx
            have r7 := next_i64 (i := j) (by omega)
            rw [show (arityOf x.op).toNat - j = (arityOf x.op).toNat - (j + 1) + 1 by omega, belowW] at hpre
            have hin2 := endOf_in l next
            refine go1 (jn @a1 (jn @t1 (jn @f3 @r7))) ?_
            refine ⟨(arityOf x.op).toNat - (j + 1), by omega, j + 1, endOf l next, pre ++ [next], _, _, by rw [List.append_assoc]; exact hpre, by simp [hpl], ?_, hj1, hG', rfl, rfl⟩
            unfold inI
            omega
          · have hj1 : j = (arityOf x.op).toNat := by have := of_decide_eq_false hc; omega
            rw [hj1, Nat.sub_self, belowW, List.append_nil] at hpre
            rw [← hpre]
            refine go0 ?_
            exact leaves_lst rfl rfl (fin_grows hG)
      · cases h
    · cases h
  · cases h
def refBelowG : List AV → Mem → Option (AV × Mem)
  | [.lst _ 7 rows, .v (.int .i64 at_)], m =>
    match unN rows with
    | some l => if l.length ≤ big40 ∧ 0 ≤ at_ ∧ at_ < (l.length : Int) then some (.lst .no 1 (rowsI (belowW l (arAt l at_) (at_ + 1))), m) else none
    | none => none
  | _, _ => none
theorem refBelowG_eq {m : Mem} {g : Grow} {l : List Nd} {at_ : Int} (h : l.length ≤ big40) (h2 : 0 ≤ at_) (h3 : at_ < (l.length : Int)) : refBelowG [.lst g 7 (rowsN l), .v (.int .i64 at_)] m = some (.lst .no 1 (rowsI (belowW l (arAt l at_) (at_ + 1))), m) := by
  simp only [refBelowG, unN_rowsN]
  rw [if_pos ⟨h, h2, h3⟩]
def kpRefBelow : Nat → Option (List Nat) := fun _ => some [0, 1, 4, 5, 6, 7, 18]
attribute [go_sem] kpRefBelow
def tabRefBelow : List (FuncId × (List AV → Mem → Option (AV × Mem))) := [(135, endG), (156, arityG)]
theorem refBelow_ok : FunOk Tryz.prog 137 refBelowG := by
  have hC := table_ok (P := Tryz.prog) (l := tabRefBelow) (table_more refEnd_ok (table_more refArity_ok table_nil))
  have t1 := fun args mm => table_at (l := tabRefBelow) (f := 135) (args := args) (m := mm) rfl
  have t2 := fun args mm => table_at (l := tabRefBelow) (f := 156) (args := args) (m := mm) rfl
  refine fun_ok mixed hC Tryz.func137 rfl kpRefBelow false rfl fun args m r h => ?_
  unfold refBelowG at h
  split at h
  · rename_i g rows at_
    split at h
    · rename_i l hl0
      obtain rfl := unN_some hl0
      split at h
      · rename_i hb
        obtain ⟨hlen, h0, h1⟩ := hb
        have hlen' := hlen
        simp only [Option.some.injEq] at h
        subst h
        unfold big40 at hlen
        refine ⟨Nat.le_of_ble_eq_true rfl, ?_⟩
        simp only [entry, List.length_cons, List.length_nil, List.range, List.range.loop, List.zip_cons_cons, List.zip_nil_right]
        obtain ⟨p, rfl⟩ := Int.eq_ofNat_of_zero_le h0
        have hp1 : p < l.length := by omega
        have f2 := atNodes (g := g) (kk := .i64) hp1
        have e1 : arAt l (p : Int) = (arityOf (l.getD p nd0).op).toNat := by unfold arAt; rw [Int.toNat_natCast]
        rw [e1]
        generalize l.getD p nd0 = x at f2
        have fa : ∀ mm, arityG [.v (.int .i64 x.op)] mm = some (.v (.int .i64 (arityOf x.op)), mm) := fun _ => rfl
        have ha := arity_in x.op
        have r6 := next_i64 (i := p) (by omega)
        refine go1 @r6 ?_
        refine runs_loop (fun k e m' => ∃ (j : Nat) (next : Int) (pre : List Int) (g5 : Grow) (x18 : AV), pre ++ belowW l ((arityOf x.op).toNat - j) next = belowW l (arityOf x.op).toNat ((p : Int) + 1) ∧ pre.length = j ∧ inI next ∧ j ≤ (arityOf x.op).toNat ∧ Grows m g5 m' ∧ k = (arityOf x.op).toNat - j ∧
          e = [(0, AV.lst g 7 (rowsN l)), (1, .v (.int .i64 (p : Int))), (4, .lst .full 1 []), (5, .lst g5 1 (rowsI pre)), (6, .v (.int .i64 next)), (7, .v (.int .i64 (j : Int))), (18, x18)])
          (k := (arityOf x.op).toNat) ⟨0, (p : Int) + 1, [], .full, _, rfl, rfl, ⟨by omega, by omega⟩, by omega, grows_full, rfl, rfl⟩ ?_
        rintro k e m' ⟨j, next, pre, g5, x18, hpre, hpl, hnx, hj, hG, rfl, rfl⟩
        refine go1 (jn @f2 (jn @t2 @fa)) ?_
        refine runs_cond rfl (fun hc => ?_) (fun hc => ?_)
        · have hj1 : j < (arityOf x.op).toNat := by have := of_decide_eq_true hc; omega
          obtain ⟨g', m'', a1, hG'⟩ := app_int appInts hG (g2 := .full) pre next (by unfold lim; omega)
          have f3 := fun mm => endG_eq (m := mm) (g := .no) hlen' hnx
          have r7 := next_i64 (i := j) (by omega)
          rw [show (arityOf x.op).toNat - j = (arityOf x.op).toNat - (j + 1) + 1 by omega, belowW] at hpre
          have hin2 := endOf_in l next
          refine go1 (jn @a1 (jn @t1 (jn @f3 @r7))) ?_
          refine ⟨(arityOf x.op).toNat - (j + 1), by omega, j + 1, endOf l next, pre ++ [next], _, _, by rw [List.append_assoc]; exact hpre, by simp [hpl], ?_, hj1, hG', rfl, rfl⟩
          unfold inI
          omega
        · have hj1 : j = (arityOf x.op).toNat := by have := of_decide_eq_false hc; omega
          rw [hj1, Nat.sub_self, belowW, List.append_nil] at hpre
          rw [← hpre]
          refine go0 ?_
          exact leaves_lst rfl rfl (fin_grows hG)
      · cases h
    · cases h
  · cases h
/-! ### the same numbers? -/
def sameIG : List AV → Mem → Option (AV × Mem)
  | [.lst _ 1 r1, .lst _ 1 r2], m =>
    match unI r1, unI r2 with
    | some l1, some l2 => if l1.length ≤ 4294967296 ∧ l2.length ≤ 4294967296 then some (.v (.bool (decide (l1 = l2))), m) else none
    | _, _ => none
  | _, _ => none
theorem sameIG_eq {m : Mem} {g g2 : Grow} {l l2 : List Int} (h1 : OkI l) (h2 : OkI l2) (hl : l.length ≤ 4294967296) (hl2 : l2.length ≤ 4294967296) : sameIG [.lst g 1 (rowsI l), .lst g2 1 (rowsI l2)] m = some (.v (.bool (decide (l = l2))), m) := by
  simp only [sameIG, unI_rowsI h1, unI_rowsI h2]
  rw [if_pos ⟨hl, hl2⟩]
def kpSame : Nat → Option (List Nat) := fun _ => some [0, 1, 4, 5, 10, 14, 25]
attribute [go_sem] kpSame
end Go.Proofs.YtojaokhkbmiidaaGreat.Ev

namespace Go.Proofs.YtojaokhkbmiidaaGreat.Ev
open Go Go.Proofs
set_option maxRecDepth 10000
set_option maxHeartbeats 4000000
set_option linter.unusedVariables false
set_option linter.unusedSimpArgs false
attribute [local irreducible] Next Inside Runs Ops table
attribute [local go_sem] szStr szInt Option.getD_some isNil loadStr loadInt mkInts0 mkInts1 mkStrs0 mkStrs1 rowsS_len rowsI_len rowsN_len evStr fldOp ldOp
def wholeB (l : List Nd) : Bool := decide (0 < l.length) && decide (l.length ≤ 64) && decide (endOf l 0 = (l.length : Int))
def wholeG : List AV → Mem → Option (AV × Mem)
  | [.lst _ 7 rows], m =>
    match unN rows with
    | some l => if l.length ≤ big40 then some (.v (.bool (wholeB l)), m) else none
    | none => none
  | _, _ => none
theorem wholeG_eq {m : Mem} {g : Grow} {l : List Nd} (h : l.length ≤ big40) : wholeG [.lst g 7 (rowsN l)] m = some (.v (.bool (wholeB l)), m) := by
  simp only [wholeG, unN_rowsN]
  rw [if_pos h]
def kpWhole : Nat → Option (List Nat) := fun _ => some [0, 2]
attribute [go_sem] kpWhole
theorem whole_ok : FunOk Tryz.prog 141 wholeG := by
  have hC := table_ok (P := Tryz.prog) (l := [(157, endG)]) (table_more end_ok table_nil)
  have t1 := fun args mm => table_at (l := [(157, endG)]) (f := 157) (args := args) (m := mm) rfl
  refine fun_ok mixed hC Tryz.func141 rfl kpWhole false rfl fun args m r h => ?_
  unfold wholeG at h
  split at h
  · rename_i g rows
    split at h
    · rename_i l hl0
      obtain rfl := unN_some hl0
      split at h
      · rename_i hlen
        simp only [Option.some.injEq] at h
        subst h
        refine ⟨Nat.le_of_ble_eq_true rfl, ?_⟩
        simp only [entry, List.length_cons, List.length_nil, List.range, List.range.loop, List.zip_cons_cons, List.zip_nil_right]
        have f1 := fun mm => endG_eq (m := mm) (g := .no) (at_ := 0) hlen (by decide)
        by_cases h0 : 0 < l.length
        · have b0 : decide ((l.length : Int) > 0) = true := decide_eq_true (by omega)
          by_cases h1 : l.length ≤ 64
          · have b1 : decide ((l.length : Int) ≤ 64) = true := decide_eq_true (by omega)
            have e1 : (endOf l 0 == (l.length : Int)) = wholeB l := by
              unfold wholeB
              rw [decide_eq_true h0, decide_eq_true h1]
              rfl
            refine go1 (jn @b0 (jn @b1 (jn @t1 (jn @f1 @e1)))) ?_
            exact leaves_v rfl rfl
          · have b1 : decide ((l.length : Int) ≤ 64) = false := decide_eq_false (by omega)
            rw [show wholeB l = false by unfold wholeB; rw [decide_eq_false h1]; simp]
            refine go1 (jn @b0 (jn @b1 (jn @t1 @f1))) ?_
            exact leaves_v rfl rfl
        · have b0 : decide ((l.length : Int) > 0) = false := decide_eq_false (by omega)
          rw [show wholeB l = false by unfold wholeB; rw [decide_eq_false h0]; simp]
          refine go1 (jn @b0 (jn @t1 @f1)) ?_
          exact leaves_v rfl rfl
      · cases h
    · cases h
  · cases h
theorem refWhole_ok : FunOk Tryz.prog 95 wholeG := by
  have hC := table_ok (P := Tryz.prog) (l := [(135, endG)]) (table_more refEnd_ok table_nil)
  have t1 := fun args mm => table_at (l := [(135, endG)]) (f := 135) (args := args) (m := mm) rfl
  refine fun_ok mixed hC Tryz.func95 rfl kpWhole false rfl fun args m r h => ?_
  unfold wholeG at h
  split at h
  · rename_i g rows
    split at h
    · rename_i l hl0
      obtain rfl := unN_some hl0
      split at h
      · rename_i hlen
        simp only [Option.some.injEq] at h
        subst h
        refine ⟨Nat.le_of_ble_eq_true rfl, ?_⟩
        simp only [entry, List.length_cons, List.length_nil, List.range, List.range.loop, List.zip_cons_cons, List.zip_nil_right]
        have f1 := fun mm => endG_eq (m := mm) (g := .no) (at_ := 0) hlen (by decide)
        by_cases h1 : l.length ≤ 64
        · have b1 : decide ((l.length : Int) ≤ 64) = true := decide_eq_true (by omega)
          have e1 : (endOf l 0 == (l.length : Int)) = wholeB l := by
            unfold wholeB
            rw [decide_eq_true h1]
            by_cases h0 : 0 < l.length
            · rw [decide_eq_true h0]; rfl
            · rw [decide_eq_false h0]
              have : l = [] := List.eq_nil_of_length_eq_zero (by omega)
              subst this
              rfl
          refine go1 (jn @b1 (jn @t1 (jn @f1 @e1))) ?_
          exact leaves_v rfl rfl
        · have b1 : decide ((l.length : Int) ≤ 64) = false := decide_eq_false (by omega)
          rw [show wholeB l = false by unfold wholeB; rw [decide_eq_false h1]; simp]
          refine go1 (jn @b1 (jn @t1 @f1)) ?_
          exact leaves_v rfl rfl
      · cases h
    · cases h
  · cases h
/-! ### how deep -/
def maxL : List Nat → Nat
  | [] => 0
  | a :: l => max a (maxL l)
theorem maxL_app : ∀ (l : List Nat) (a : Nat), maxL (l ++ [a]) = max (maxL l) a
  | [], a => by simp [maxL]
  | b :: l, a => by simp only [List.cons_append, maxL, maxL_app l a]; omega
theorem maxL_le {n : Nat} : ∀ {l : List Nat}, (∀ a ∈ l, a ≤ n) → maxL l ≤ n
  | [], _ => Nat.zero_le _
  | a :: l, h => by
    have h1 := h a (List.mem_cons_self ..)
    have h2 := maxL_le (l := l) fun b hb => h b (List.mem_cons_of_mem _ hb)
    simp only [maxL]
    omega
def depthF (l : List Nd) : Nat → Int → Nat
  | 0, _ => 0
  | f + 1, a => maxL ((belowOf l a).map (depthF l f)) + 1
theorem depthF_le (l : List Nd) : ∀ (f : Nat) (a : Int), depthF l f a ≤ f
  | 0, _ => Nat.le_refl _
  | f + 1, a => by
    unfold depthF
    have := maxL_le (n := f) (l := (belowOf l a).map (depthF l f)) fun b hb => by
      obtain ⟨c, _, rfl⟩ := List.mem_map.1 hb
      exact depthF_le l f c
    omega
theorem belowW_mem (l : List Nd) : ∀ (k n : Nat) (b : Int), 0 ≤ endW (l.drop n) k n → b ∈ belowW l k (n : Int) → (n : Int) ≤ b ∧ b < (l.length : Int) ∧ 0 ≤ endOf l b
  | 0, n, b, _, hb => by simp [belowW] at hb
  | k + 1, n, b, h, hb => by
    have h1 := endW_add l (l.drop n) 1 k n rfl
    rw [show 1 + k = k + 1 by omega, ← endOf_nat] at h1
    rw [h1] at h
    split at h
    · omega
    · rename_i hn
      have hin := endOf_in l (n : Int)
      rcases List.mem_cons.1 hb with rfl | hb
      · exact ⟨Int.le_refl _, by omega, by omega⟩
      · obtain ⟨q, hq⟩ := Int.eq_ofNat_of_zero_le (by omega : 0 ≤ endOf l (n : Int))
        rw [hq] at hb h
        rw [Int.toNat_natCast] at h
        obtain ⟨g1, g2, g3⟩ := belowW_mem l k q b h hb
        exact ⟨by omega, g2, g3⟩
theorem end_arity {l : List Nd} {p : Nat} (h : 0 ≤ endOf l (p : Int)) : p < l.length ∧ endOf l (p : Int) = endW (l.drop (p + 1)) (arAt l (p : Int)) (p + 1) := by
  have hin := endOf_in l (p : Int)
  have hp : p < l.length := by omega
  refine ⟨hp, ?_⟩
  rw [endOf_nat] at h ⊢
  rw [drop_next (d := nd0) hp, endW] at h ⊢
  unfold arAt
  rw [Int.toNat_natCast]
  split at h
  · omega
  · rename_i hn
    rw [if_neg hn, Nat.zero_add]
theorem below_mem {l : List Nd} {a b : Int} (ha : 0 ≤ a) (hb : b ∈ belowOf l a) : a < b ∧ b < (l.length : Int) ∧ 0 ≤ endOf l b := by
  unfold belowOf at hb
  split at hb
  · simp at hb
  · rename_i hn
    obtain ⟨p, rfl⟩ := Int.eq_ofNat_of_zero_le ha
    obtain ⟨_, h1⟩ := end_arity (l := l) (p := p) (by omega)
    obtain ⟨g1, g2, g3⟩ := belowW_mem l (arAt l (p : Int)) (p + 1) b (by omega) hb
    exact ⟨by omega, g2, g3⟩
theorem depthF_same (l : List Nd) : ∀ (f : Nat) (a : Int), 0 ≤ a → a < (l.length : Int) → (l.length : Int) - a ≤ (f : Int) → depthF l f a = depthF l (f + 1) a
  | 0, a, ha, h1, h => by omega
  | f + 1, a, ha, h1, h => by
    rw [depthF, depthF]
    congr 2
    refine List.map_congr_left fun b hb => ?_
    obtain ⟨h1, h2, _⟩ := below_mem ha hb
    exact depthF_same l f b (by omega) h2 (by omega)
def depthD (l : List Nd) (a : Int) : Nat := depthF l l.length a
theorem depthD_eq {l : List Nd} {a : Int} (h0 : 0 ≤ a) (h1 : a < (l.length : Int)) : depthD l a = maxL ((belowOf l a).map (depthD l)) + 1 := by
  unfold depthD
  obtain ⟨f, hf⟩ : ∃ f, l.length = f + 1 := ⟨l.length - 1, by omega⟩
  conv => lhs; rw [hf, depthF]
  congr 2
  refine List.map_congr_left fun b hb => ?_
  obtain ⟨h2, h3, _⟩ := below_mem h0 hb
  rw [hf]
  exact depthF_same l f b (by omega) h3 (by omega)
theorem depthD_le (l : List Nd) (a : Int) : depthD l a ≤ l.length := depthF_le l _ _
def depthOf (l : List Nd) : Nat := if wholeB l then depthD l 0 else 0
/-! ### the document's way -/
def refDepthGk (n : Nat) : List AV → Mem → Option (AV × Mem)
  | [.lst _ 7 rows, .v (.int .i64 at_)], m =>
    match unN rows with
    | some l => if (l.length ≤ big40 ∧ 0 ≤ at_ ∧ 0 ≤ endOf l at_) ∧ (l.length : Int) - at_ < (n : Int) then some (.v (.int .i64 (depthD l at_ : Nat)), m) else none
    | none => none
  | _, _ => none
theorem refDepthGk_eq {n : Nat} {m : Mem} {g : Grow} {l : List Nd} {at_ : Int} (h : l.length ≤ big40) (h1 : 0 ≤ at_) (h2 : 0 ≤ endOf l at_) (h3 : (l.length : Int) - at_ < (n : Int)) : refDepthGk n [.lst g 7 (rowsN l), .v (.int .i64 at_)] m = some (.v (.int .i64 (depthD l at_ : Nat)), m) := by
  simp only [refDepthGk, unN_rowsN]
  rw [if_pos ⟨⟨h, h1, h2⟩, h3⟩]
def kpRefDepth : Nat → Option (List Nat) := fun _ => some [0, 1, 4, 5, 6, 7, 8, 15, 26]
attribute [go_sem] kpRefDepth
theorem refDepth_k : ∀ n, FunOk Tryz.prog 97 (refDepthGk n) := prev_ok fun n ih => by
  have hC := table_ok (P := Tryz.prog) (l := [(97, prevG refDepthGk n), (137, refBelowG)]) (table_more ih (table_more refBelow_ok table_nil))
  have t1 := fun args mm => table_at (l := [(97, prevG refDepthGk n), (137, refBelowG)]) (f := 137) (args := args) (m := mm) rfl
  have t2 := fun args mm => table_at (l := [(97, prevG refDepthGk n), (137, refBelowG)]) (f := 97) (args := args) (m := mm) rfl
  refine fun_ok mixed hC Tryz.func97 rfl kpRefDepth false rfl fun args m r h => ?_
  unfold refDepthGk at h
  split at h
  · rename_i g rows at_
    split at h
    · rename_i l hl0
      obtain rfl := unN_some hl0
      split at h
      · rename_i hb
        obtain ⟨⟨hlen, h0, he⟩, hn⟩ := hb
        have hlen' := hlen
        simp only [Option.some.injEq] at h
        subst h
        unfold big40 at hlen
        refine ⟨Nat.le_of_ble_eq_true rfl, ?_⟩
        simp only [entry, List.length_cons, List.length_nil, List.range, List.range.loop, List.zip_cons_cons, List.zip_nil_right]
        have hin := endOf_in l at_
        have h1 : at_ < (l.length : Int) := by omega
        have e1 : belowOf l at_ = belowW l (arAt l at_) (at_ + 1) := if_neg (by omega)
        have f1 := fun mm => refBelowG_eq (m := mm) (g := .no) hlen' h0 h1
        rw [← e1] at f1
        have hD := depthD_eq h0 h1
        have hmem := fun b => below_mem (l := l) (b := b) h0
        have hle2 := (belowOf_okI hlen' (at_ := at_) ⟨by omega, by omega⟩).2
        generalize belowOf l at_ = lb at f1 hD hmem hle2
        refine go1 (jn @t1 @f1) ?_
        refine runs_loop (fun k e m' => ∃ (i : Nat) (x8 x15 x26 : AV), i ≤ lb.length ∧ m = m' ∧ k = lb.length - i ∧
          e = [(0, AV.lst g 7 (rowsN l)), (1, .v (.int .i64 at_)), (4, .v (.int .i64 0)), (5, .v (.int .i64 (maxL ((lb.take i).map (depthD l)) : Nat))), (6, .lst .no 1 (rowsI lb)), (7, .v (.int .i64 (i : Int))), (8, x8), (15, x15), (26, x26)])
          (k := lb.length) ⟨0, _, _, _, Nat.zero_le _, rfl, rfl, rfl⟩ ?_
        rintro k e m' ⟨i, x8, x15, x26, hi, rfl, rfl, rfl⟩
        refine go0 ?_
        refine runs_cond rfl (fun hc => ?_) (fun hc => ?_)
        · have hi1 : i < lb.length := by have := of_decide_eq_true hc; omega
          have f2 := atInts (g := .no) (kk := .i64) hi1
          have hm : lb.getD i 0 ∈ lb := by simp [List.getD, List.getElem?_eq_getElem hi1]
          have htk : (lb.take (i + 1)).map (depthD l) = (lb.take i).map (depthD l) ++ [depthD l (lb.getD i 0)] := by rw [take_next (d := 0) hi1, List.map_append]; rfl
          obtain ⟨g1, g2, g3⟩ := hmem _ hm
          obtain ⟨n', rfl⟩ : ∃ n', n = n' + 1 := ⟨n - 1, by omega⟩
          have f3 : ∀ mm, prevG refDepthGk (n' + 1) [.lst .no 7 (rowsN l), .v (.int .i64 (lb.getD i 0))] mm = some (.v (.int .i64 (depthD l (lb.getD i 0) : Nat)), mm) := fun mm => refDepthGk_eq (g := .no) hlen' (by omega) g3 (by omega)
          generalize lb.getD i 0 = b at f2 f3 htk
          have hmx : maxL ((lb.take (i + 1)).map (depthD l)) = max (maxL ((lb.take i).map (depthD l))) (depthD l b) := by rw [htk, maxL_app]
          generalize maxL ((lb.take i).map (depthD l)) = M at hmx ⊢
          refine go1 (jn @f2 (jn @t2 @f3)) ?_
          have r7 := next_i64 (i := i) (by omega)
          refine runs_cond rfl (fun hc => ?_) (fun hc => ?_)
          · have hgt := of_decide_eq_true hc
            refine go1 @r7 ?_
            exact ⟨lb.length - (i + 1), by omega, i + 1, _, _, _, hi1, rfl, rfl, by rw [hmx, show max M (depthD l b) = depthD l b by omega]⟩
          · have hgt := of_decide_eq_false hc
            refine go1 @r7 ?_
            exact ⟨lb.length - (i + 1), by omega, i + 1, _, _, _, hi1, rfl, rfl, by rw [hmx, show max M (depthD l b) = M by omega]⟩
        · have hi1 : i = lb.length := by have := of_decide_eq_false hc; omega
          subst hi1
          rw [List.take_length]
          have hdl := depthD_le l at_
          have r7 := next_i64 (i := maxL (lb.map (depthD l))) (by omega)
          rw [hD]
          refine go1 @r7 ?_
          exact leaves_v rfl rfl
      · cases h
    · cases h
  · cases h
def refDepthG : List AV → Mem → Option (AV × Mem)
  | [.lst _ 7 rows, .v (.int .i64 at_)], m =>
    match unN rows with
    | some l => if l.length ≤ big40 ∧ 0 ≤ at_ ∧ 0 ≤ endOf l at_ then some (.v (.int .i64 (depthD l at_ : Nat)), m) else none
    | none => none
  | _, _ => none
theorem refDepthG_eq {m : Mem} {g : Grow} {l : List Nd} {at_ : Int} (h : l.length ≤ big40) (h1 : 0 ≤ at_) (h2 : 0 ≤ endOf l at_) : refDepthG [.lst g 7 (rowsN l), .v (.int .i64 at_)] m = some (.v (.int .i64 (depthD l at_ : Nat)), m) := by
  simp only [refDepthG, unN_rowsN]
  rw [if_pos ⟨h, h1, h2⟩]
theorem refDepth_ok : FunOk Tryz.prog 97 refDepthG := by
  intro args m r m' h
  unfold refDepthG at h
  split at h
  · rename_i g rows at_
    split at h
    · rename_i l hl0
      obtain rfl := unN_some hl0
      split at h
      · rename_i hb
        refine refDepth_k (((l.length : Int) - at_).toNat + 1) _ m r m' ?_
        rw [refDepthGk_eq hb.1 hb.2.1 hb.2.2 (by omega)]
        exact h
      · cases h
    · cases h
  · cases h
end Go.Proofs.YtojaokhkbmiidaaGreat.Ev

namespace Go.Proofs.YtojaokhkbmiidaaGreat.Ev
open Go Go.Proofs
set_option maxRecDepth 10000
set_option maxHeartbeats 4000000
set_option linter.unusedVariables false
set_option linter.unusedSimpArgs false
attribute [local irreducible] Next Inside Runs Ops table
attribute [local go_sem] szStr szInt Option.getD_some isNil loadStr loadInt mkInts0 mkInts1 mkStrs0 mkStrs1 rowsS_len rowsI_len rowsN_len evStr fldOp ldOp evMinMax evFoldI
def intCells (l : List Int) : List AV := l.map iv
theorem intCells_len (l : List Int) : (intCells l).length = l.length := List.length_map ..
theorem loadTab {m : Mem} {l : List Int} {i : Nat} (hi : i < l.length) : evLoad Tryz.prog (m.push (intCells l)) 3 (.ptr m.vars.length i) = some (.v (.int .i64 (l.getD i 0))) := by
  unfold evLoad
  simp only [ptrCells, push_var, Option.map_some, szInt, agInt]
  simp [intCells, List.head?_drop, List.getD, List.getElem?_eq_getElem hi, iv]
theorem splice_set : ∀ (l : List Int) (i : Nat) (v : Int), i < l.length → splice (intCells l) i [iv v] = intCells (l.set i v)
  | [], i, v, h => by simp at h
  | a :: l, 0, v, _ => by simp [splice, intCells]
  | a :: l, i + 1, v, h => by
    have := splice_set l i v (by simpa using h)
    simp only [splice, intCells, List.map_cons, List.length_cons, List.length_nil, List.take_succ_cons, List.set_cons_succ] at this ⊢
    rw [show i + 1 + (0 + 1) = (i + (0 + 1)) + 1 by omega, List.drop_succ_cons]
    simpa using this
theorem storeTab {m : Mem} {l : List Int} {i : Nat} {v : Int} (hi : i < l.length) : evStore Tryz.prog (m.push (intCells l)) 3 (.ptr m.vars.length i) (.v (.int .i64 v)) = some (m.push (intCells (l.set i v))) := by
  rw [store_push (cs := [iv v]) rfl szInt (by rw [intCells_len]; exact hi) rfl, splice_set l i v hi]
theorem vsAt {r n i : Nat} {kk : IntKind} (hi : i < n) : evIndexAddr Tryz.prog 77 (.vs r 0 1 n n) (.v (.int kk (i : Int))) = some (.ptr r i) := by
  unfold evIndexAddr
  simp only [naInts, elInts, szInt]
  rw [if_pos ⟨trivial, by omega, by omega⟩, Int.toNat_natCast]
  simp
theorem makeTab {n : Nat} (h : n ≤ 4294967296) : evMakeSlice Tryz.prog 77 (.v (.int .i64 (n : Int))) (.v (.int .i64 (n : Int))) = some (intCells (List.replicate n 0), 1, n) := by
  have hb : tBytes Tryz.prog 3 = some 8 := by kernel_rfl
  have hz : zeroCells Tryz.prog 3 = some [.v (.int .i64 0)] := by kernel_rfl
  unfold evMakeSlice
  simp only [elInts, szInt, hb, hz]
  rw [if_pos ⟨rfl, trivial, by omega, by omega, by omega⟩, Int.toNat_natCast]
  simp [intCells, iv]
theorem newTab {m : Mem} {l : List Int} : newVar m m.vars.length (intCells l) = some (m.push (intCells l)) := newVar_push (by
  rw [List.all_eq_true]
  intro c hc
  obtain ⟨n, _, rfl⟩ := List.mem_map.1 hc
  rfl)
theorem getD_set {l : List Int} {i j : Nat} {v : Int} (hi : i < l.length) : (l.set i v).getD j 0 = if i = j then v else l.getD j 0 := by
  simp only [List.getD, List.getElem?_set]
  by_cases h : i = j
  · subst h; simp [hi]
  · simp [h]
theorem set_set (l : List Int) (i : Nat) (a b : Int) : (l.set i a).set i b = l.set i b := List.set_set ..
def depthG : List AV → Mem → Option (AV × Mem)
  | [.lst _ 7 rows], m =>
    match unN rows with
    | some l => if l.length ≤ big40 then some (.v (.int .i64 (depthOf l : Nat)), m) else none
    | none => none
  | _, _ => none
theorem depthG_eq {m : Mem} {g : Grow} {l : List Nd} (h : l.length ≤ big40) : depthG [.lst g 7 (rowsN l)] m = some (.v (.int .i64 (depthOf l : Nat)), m) := by
  simp only [depthG, unN_rowsN]
  rw [if_pos h]
theorem mx_nat (a b : Nat) : mx (a : Int) (b : Int) = ((max a b : Nat) : Int) := by
  unfold mx
  split <;> omega
def kpDepth : Nat → Option (List Nat) := fun _ => some [0, 2, 3, 4, 6, 9, 17, 22, 23, 24, 25]
attribute [go_sem] kpDepth
def tabDepth : List (FuncId × (List AV → Mem → Option (AV × Mem))) := [(141, wholeG), (146, belowG)]
theorem depth_ok : FunOk Tryz.prog 144 depthG := by
  have hC := table_ok (P := Tryz.prog) (l := tabDepth) (table_more whole_ok (table_more below_ok table_nil))
  have t1 := fun args mm => table_at (l := tabDepth) (f := 141) (args := args) (m := mm) rfl
  have t2 := fun args mm => table_at (l := tabDepth) (f := 146) (args := args) (m := mm) rfl
  refine fun_ok mixed hC Tryz.func144 rfl kpDepth false rfl fun args m r h => ?_
  unfold depthG at h
  split at h
  · rename_i g rows
    split at h
    · rename_i l hl0
      obtain rfl := unN_some hl0
      split at h
      · rename_i hlen
        simp only [Option.some.injEq] at h
        subst h
        refine ⟨Nat.le_of_ble_eq_true rfl, ?_⟩
        simp only [entry, List.length_cons, List.length_nil, List.range, List.range.loop, List.zip_cons_cons, List.zip_nil_right]
        have f1 := fun mm => wholeG_eq (m := mm) (g := .no) hlen
        have hlen' := hlen
        unfold depthOf
        cases hw : wholeB l with
        | false =>
          rw [hw] at f1
          have b1 : (!false) = true := rfl
          refine go1 (jn @t1 (jn @f1 @b1)) ?_
          refine runs_cond rfl (fun hc => ?_) (fun hc => by cases hc)
          refine go0 ?_
          exact leaves_v rfl rfl
        | true =>
          rw [hw] at f1
          have b1 : (!true) = false := rfl
          unfold wholeB at hw
          simp only [Bool.and_eq_true, decide_eq_true_eq] at hw
          obtain ⟨⟨hpos, h64⟩, hend⟩ := hw
          have mk := makeTab (n := l.length) (by omega)
          have nv := newTab (m := m) (l := List.replicate l.length 0)
          have r0 : IntKind.i64.wrap ((l.length : Int) - 1) = (l.length : Int) - 1 := i64_wrap (by omega) (by omega)
          refine go1 (jn @t1 (jn @f1 @b1)) ?_
          refine runs_cond rfl (fun hc => by cases hc) (fun hc => ?_)
          refine go1 (jn @mk (jn @nv @r0)) ?_
          refine runs_loop (fun k e m' => ∃ (j : Nat) (ds : List Int) (x6 x17 x22 x23 x24 x25 : AV), j ≤ l.length ∧ ds.length = l.length ∧ (∀ a : Nat, j ≤ a → a < l.length → ds.getD a 0 = ((depthD l (a : Int) : Nat) : Int)) ∧ (∀ a : Nat, a < j → ds.getD a 0 = 0) ∧ m' = m.push (intCells ds) ∧ k = j ∧
            e = [(0, AV.lst g 7 (rowsN l)), (2, .v (.int .i64 0)), (3, .vs m.vars.length 0 1 l.length l.length), (4, .v (.int .i64 ((j : Int) - 1))), (6, x6), (9, .v (.bool false)), (17, x17), (22, x22), (23, x23), (24, x24), (25, x25)])
            (k := l.length) ⟨l.length, List.replicate l.length 0, _, _, _, _, _, _, Nat.le_refl _, by simp, fun a h1 h2 => by omega, fun a h => by simp only [List.getD, List.getElem?_replicate]; split <;> rfl, rfl, rfl, rfl⟩ ?_
          rintro k e m' ⟨j, ds, x6, x17, x22, x23, x24, x25, hj, hds, hdone, hzero, rfl, rfl, rfl⟩
          refine go0 ?_
          refine runs_cond rfl (fun hc => ?_) (fun hc => ?_)
          · obtain ⟨i, rfl⟩ : ∃ i, k = i + 1 := ⟨k - 1, by have := of_decide_eq_true hc; omega⟩
            have e0 : ((i + 1 : Nat) : Int) - 1 = (i : Int) := by omega
            rw [e0]
            have hi1 : i < l.length := by omega
            have f2 := fun mm => belowG_eq (m := mm) (g := .no) (at_ := (i : Int)) hlen' ⟨by omega, by omega⟩
            have hD := depthD_eq (l := l) (a := (i : Int)) (by omega) (by omega)
            have hmem := fun b => below_mem (l := l) (a := (i : Int)) (b := b) (by omega)
            have hle2 := (belowOf_okI hlen' (at_ := (i : Int)) ⟨by omega, by omega⟩).2
            generalize belowOf l (i : Int) = lb at f2 hD hmem hle2
            have hzi := hzero i (by omega)
            have hself : ds.set i 0 = ds := by
              apply getD_ext (d := 0) (by simp)
              intro a ha
              rw [getD_set (by omega)]
              split
              · rename_i h; rw [← h]; exact hzi.symm
              · rfl
            refine go1 (jn @t2 @f2) ?_
            refine runs_loop (fun k e m' => ∃ (t : Nat) (x6 x25 : AV), t ≤ lb.length ∧ m' = m.push (intCells (ds.set i (maxL ((lb.take t).map (depthD l)) : Nat))) ∧ k = lb.length - t ∧
              e = [(0, AV.lst g 7 (rowsN l)), (2, .v (.int .i64 0)), (3, .vs m.vars.length 0 1 l.length l.length), (4, .v (.int .i64 (i : Int))), (6, x6), (9, .v (.bool false)), (17, .v (.bool (decide ((i : Int) ≥ 0)))), (22, .lst .no 1 (rowsI lb)), (23, .v (.int .i64 (lb.length : Int))), (24, .v (.int .i64 (t : Int))), (25, x25)])
              (k := lb.length) ⟨0, _, _, Nat.zero_le _, by rw [List.take_zero]; simp only [List.map_nil, maxL]; rw [show ((0 : Nat) : Int) = 0 from rfl, hself], rfl, rfl⟩ ?_
            rintro k e m' ⟨t, x6, x25, ht, rfl, rfl, rfl⟩
            refine go0 ?_
            refine runs_cond rfl (fun hc => ?_) (fun hc => ?_)
            · have ht1 : t < lb.length := by have := of_decide_eq_true hc; omega
              have f3 := atInts (g := .no) (kk := .i64) ht1
              have hm : lb.getD t 0 ∈ lb := by simp [List.getD, List.getElem?_eq_getElem ht1]
              have htk : (lb.take (t + 1)).map (depthD l) = (lb.take t).map (depthD l) ++ [depthD l (lb.getD t 0)] := by rw [take_next (d := 0) ht1, List.map_append]; rfl
              obtain ⟨g1, g2, g3⟩ := hmem _ hm
              generalize lb.getD t 0 = b at f3 htk g1 g2 g3
              obtain ⟨b', rfl⟩ := Int.eq_ofNat_of_zero_le (by omega : 0 ≤ b)
              have hmx : maxL ((lb.take (t + 1)).map (depthD l)) = max (maxL ((lb.take t).map (depthD l))) (depthD l (b' : Int)) := by rw [htk, maxL_app]
              generalize maxL ((lb.take t).map (depthD l)) = M at hmx ⊢
              have v1 := vsAt (r := m.vars.length) (kk := .i64) hi1
              have v2 := vsAt (r := m.vars.length) (n := l.length) (i := b') (kk := .i64) (by omega)
              have l1 := loadTab (m := m) (l := ds.set i (M : Int)) (i := i) (by rw [List.length_set]; omega)
              rw [getD_set (by omega), if_pos rfl] at l1
              have l2 := loadTab (m := m) (l := ds.set i (M : Int)) (i := b') (by rw [List.length_set]; omega)
              rw [getD_set (by omega), if_neg (by omega), hdone b' (by omega) (by omega)] at l2
              have s1 := storeTab (m := m) (l := ds.set i (M : Int)) (i := i) (v := ((max M (depthD l (b' : Int)) : Nat) : Int)) (by rw [List.length_set]; omega)
              rw [set_set] at s1
              have mxn := mx_nat M (depthD l (b' : Int))
              have r7 := next_i64 (i := t) (by omega)
              refine go1 @f3 ?_
              refine runs_ops_drawn_kept (by kernel_rfl) ?_
              refine go1 (jn @v1 (jn @v2 (jn @l1 (jn @l2 (jn @mxn (jn @s1 @r7)))))) ?_
              exact ⟨lb.length - (t + 1), by omega, t + 1, _, _, ht1, by rw [hmx], rfl, rfl⟩
            · have ht1 : t = lb.length := by have := of_decide_eq_false hc; omega
              subst ht1
              rw [List.take_length]
              have hdl := depthD_le l (i : Int)
              generalize hM : maxL (lb.map (depthD l)) = M at hD ⊢
              have v1 := vsAt (r := m.vars.length) (kk := .i64) hi1
              have l1 := loadTab (m := m) (l := ds.set i (M : Int)) (i := i) (by rw [List.length_set]; omega)
              rw [getD_set (by omega), if_pos rfl] at l1
              have r7 := next_i64 (i := M) (by omega)
              have s1 := storeTab (m := m) (l := ds.set i (M : Int)) (i := i) (v := ((M + 1 : Nat) : Int)) (by rw [List.length_set]; omega)
              rw [set_set] at s1
              have r8 : IntKind.i64.wrap ((i : Int) - 1) = (i : Int) - 1 := i64_wrap (by omega) (by omega)
              refine go1 (jn @v1 (jn @l1 (jn @r7 (jn @s1 @r8)))) ?_
              refine ⟨i, by omega, i, ds.set i ((M + 1 : Nat) : Int), _, _, _, _, _, _, by omega, by rw [List.length_set]; exact hds, fun a h1 h2 => ?_, fun a h => ?_, rfl, rfl, rfl⟩
              · rw [getD_set (by omega)]
                split
                · rename_i h; rw [← h, hD]
                · exact hdone a (by omega) h2
              · rw [getD_set (by omega), if_neg (by omega)]
                exact hzero a (by omega)
          · have hk0 : k = 0 := by have := of_decide_eq_false hc; omega
            subst hk0
            have v1 := vsAt (r := m.vars.length) (kk := .i64) (i := 0) hpos
            have v1' : evIndexAddr Tryz.prog 77 (.vs m.vars.length 0 1 l.length l.length) (.v (.int .i64 0)) = some (.ptr m.vars.length 0) := v1
            have l1 := loadTab (m := m) (l := ds) (i := 0) (by omega)
            rw [hdone 0 (Nat.le_refl _) hpos] at l1
            refine go1 (jn @v1' @l1) ?_
            exact leaves_fin rfl rfl fin_push
      · cases h
    · cases h
  · cases h
end Go.Proofs.YtojaokhkbmiidaaGreat.Ev

namespace Go.Proofs.YtojaokhkbmiidaaGreat.Ev
open Go Go.Proofs
set_option maxRecDepth 10000
set_option maxHeartbeats 8000000
set_option linter.unusedVariables false
set_option linter.unusedSimpArgs false
attribute [local irreducible] Next Inside Runs Ops table
attribute [local go_sem] szStr szInt Option.getD_some isNil loadStr loadInt rowsS_len rowsI_len rowsN_len evStr fldOp ldOp ldNode newNode cellsNode topNode
theorem unNd_of (x : Nd) : unNd x.row = some x := rfl
theorem mayG_eq (x : Nd) (mm : Mem) : mayG [.agg x.row] mm = some (.v (.bool (decide (mayN x))), mm) := by
  simp only [mayG, mayAt, unNd_of]
  rfl
def notMayG : List AV → Mem → Option (AV × Mem)
  | [.agg cs], m =>
    match unNd cs with
    | some x => some (.v (.bool (!decide (mayN x))), m)
    | none => none
  | _, _ => none
def kpNotMay : Nat → Option (List Nat) := fun _ => some [0, 1, 2]
attribute [go_sem] kpNotMay
theorem notMay_ok : FunOk Tryz.prog 142 notMayG := by
  have hC := table_ok (P := Tryz.prog) (l := [(143, mayG)]) (table_more may_ok table_nil)
  have t1 := fun args mm => table_at (l := [(143, mayG)]) (f := 143) (args := args) (m := mm) rfl
  refine fun_ok mixed hC Tryz.func142 rfl kpNotMay false rfl fun args m r h => ?_
  unfold notMayG at h
  split at h
  · rename_i cs
    split at h
    · rename_i x hx
      obtain rfl := unNd_row hx
      simp only [Option.some.injEq] at h
      subst h
      refine ⟨Nat.le_of_ble_eq_true rfl, ?_⟩
      simp only [entry, List.length_cons, List.length_nil, List.range, List.range.loop, List.zip_cons_cons, List.zip_nil_right]
      have f1 : ∀ mm, mayG [.agg (nrow x.op x.a x.b x.c x.k x.u x.n)] mm = some (.v (.bool (decide (mayN x))), mm) := fun mm => mayG_eq x mm
      generalize hR : nrow x.op x.a x.b x.c x.k x.u x.n = R at *
      subst hR
      refine go1 (jn @t1 @f1) ?_
      exact leaves_fin rfl rfl fin_push
    · cases h
  · cases h
def badN (x : Nd) : Bool := !decide (mayN x)
def findBadNG : List AV → Mem → Option (AV × Mem)
  | [.lst _ 7 rows, .fn (.func 142) [] []], m =>
    match unN rows with
    | some l => if l.length ≤ big40 then some (.v (.int .i64 (firstBy badN l 0)), m) else none
    | none => none
  | _, _ => none
theorem findBadNG_eq {m : Mem} {g : Grow} {l : List Nd} (h : l.length ≤ big40) : findBadNG [.lst g 7 (rowsN l), .fn (.func 142) [] []] m = some (.v (.int .i64 (firstBy badN l 0)), m) := by
  simp only [findBadNG, unN_rowsN]
  rw [if_pos h]
def kpIndexN : Nat → Option (List Nat) := fun _ => some [0, 1, 4, 5, 7, 8, 9, 16]
attribute [go_sem] kpIndexN
theorem findBadN_ok : FunOk Tryz.prog 133 findBadNG := by
  have hC := table_ok (P := Tryz.prog) (l := [(142, notMayG)]) (table_more notMay_ok table_nil)
  have t1 := fun args mm => table_at (l := [(142, notMayG)]) (f := 142) (args := args) (m := mm) rfl
  refine fun_ok mixed hC Tryz.func133 rfl kpIndexN false rfl fun args m r h => ?_
  unfold findBadNG at h
  split at h
  · rename_i g rows
    split at h
    · rename_i l hl0
      obtain rfl := unN_some hl0
      split at h
      · rename_i hlen
        simp only [Option.some.injEq] at h
        subst h
        unfold big40 at hlen
        refine ⟨Nat.le_of_ble_eq_true rfl, ?_⟩
        simp only [entry, List.length_cons, List.length_nil, List.range, List.range.loop, List.zip_cons_cons, List.zip_nil_right]
        refine go0 ?_
        refine runs_loop (fun k e m' => ∃ (i : Nat) (x5 x9 x16 : AV), i ≤ l.length ∧ firstBy badN (l.drop i) i = firstBy badN l 0 ∧ m = m' ∧ k = l.length - i ∧
          e = [(0, AV.lst g 7 (rowsN l)), (1, .fn (.func 142) [] []), (4, .v (.int .i64 0)), (5, x5), (7, .v (.int .i64 l.length)), (8, .v (.int .i64 (i : Int))), (9, x9), (16, x16)]) (k := l.length) ⟨0, _, _, _, Nat.zero_le _, rfl, rfl, rfl, rfl⟩ ?_
        rintro k e m' ⟨i, x5, x9, x16, hi, hf, rfl, rfl, rfl⟩
        refine go0 ?_
        refine runs_cond rfl (fun hc => ?_) (fun hc => ?_)
        · have hi1 : i < l.length := by have := of_decide_eq_true hc; omega
          have f1 := atNodes (g := g) (kk := .i64) hi1
          have f2 : ∀ mm, notMayG [.agg (l.getD i nd0).row] mm = some (.v (.bool (badN (l.getD i nd0))), mm) := fun mm => by
            simp only [notMayG, unNd_of]
            rfl
          refine go1 (jn @f1 (jn @t1 @f2)) ?_
          refine runs_cond rfl (fun hc => ?_) (fun hc => ?_)
          · rw [by_yes hi1 hc hf]
            refine go0 ?_
            exact leaves_v rfl rfl
          · have r6 := next_i64 (i := i) (by omega)
            refine go1 @r6 ?_
            exact ⟨l.length - (i + 1), by omega, i + 1, _, _, _, hi1, by_no hi1 hc hf, rfl, rfl, rfl⟩
        · have hi1 : i = l.length := by have := of_decide_eq_false hc; omega
          subst hi1
          rw [by_end hf]
          refine go0 ?_
          exact leaves_v rfl rfl
      · cases h
    · cases h
  · cases h
def anyBadNG : List AV → Mem → Option (AV × Mem)
  | [.lst _ 7 rows, .fn (.func 142) [] []], m =>
    match unN rows with
    | some l => if l.length ≤ big40 then some (.v (.bool (l.any badN)), m) else none
    | none => none
  | _, _ => none
theorem anyBadNG_eq {m : Mem} {g : Grow} {l : List Nd} (h : l.length ≤ big40) : anyBadNG [.lst g 7 (rowsN l), .fn (.func 142) [] []] m = some (.v (.bool (l.any badN)), m) := by
  simp only [anyBadNG, unN_rowsN]
  rw [if_pos h]
def kpContainsN : Nat → Option (List Nat) := fun _ => some [0, 1, 4]
attribute [go_sem] kpContainsN
theorem anyBadN_ok : FunOk Tryz.prog 89 anyBadNG := by
  have hC := table_ok (P := Tryz.prog) (l := [(133, findBadNG)]) (table_more findBadN_ok table_nil)
  have t1 := fun args mm => table_at (l := [(133, findBadNG)]) (f := 133) (args := args) (m := mm) rfl
  refine fun_ok mixed hC Tryz.func89 rfl kpContainsN false rfl fun args m r h => ?_
  unfold anyBadNG at h
  split at h
  · rename_i g rows
    split at h
    · rename_i l hl0
      obtain rfl := unN_some hl0
      split at h
      · rename_i hlen
        simp only [Option.some.injEq] at h
        subst h
        refine ⟨Nat.le_of_ble_eq_true rfl, ?_⟩
        simp only [entry, List.length_cons, List.length_nil, List.range, List.range.loop, List.zip_cons_cons, List.zip_nil_right]
        have f1 := fun mm => findBadNG_eq (m := mm) (g := .no) hlen
        have f3 : decide (firstBy badN l 0 ≥ 0) = l.any badN := firstBy_any badN l 0
        refine go1 (jn @t1 (jn @f1 @f3)) ?_
        exact leaves_v rfl rfl
      · cases h
    · cases h
  · cases h
/-! ### check -/
def checkT (l : List Nd) : Int := if 64 < l.length then 9 else if wholeB l = false ∨ l.any badN = true then 1 else if 32 < depthOf l then 7 else 0
def checkTG : List AV → Mem → Option (AV × Mem)
  | [.lst _ 7 rows], m =>
    match unN rows with
    | some l => if l.length ≤ big40 then some (.v (.int .i64 (checkT l)), m) else none
    | none => none
  | _, _ => none
theorem checkTG_eq {m : Mem} {g : Grow} {l : List Nd} (h : l.length ≤ big40) : checkTG [.lst g 7 (rowsN l)] m = some (.v (.int .i64 (checkT l)), m) := by
  simp only [checkTG, unN_rowsN]
  rw [if_pos h]
def kpCheckT : Nat → Option (List Nat) := fun _ => some [0, 2, 3, 7, 13]
attribute [go_sem] kpCheckT
def tabCheckT : List (FuncId × (List AV → Mem → Option (AV × Mem))) := [(141, wholeG), (89, anyBadNG), (144, depthG)]
theorem checkT_ok : FunOk Tryz.prog 107 checkTG := by
  have hC := table_ok (P := Tryz.prog) (l := tabCheckT) (table_more whole_ok (table_more anyBadN_ok (table_more depth_ok table_nil)))
  have t1 := fun args mm => table_at (l := tabCheckT) (f := 141) (args := args) (m := mm) rfl
  have t2 := fun args mm => table_at (l := tabCheckT) (f := 89) (args := args) (m := mm) rfl
  have t3 := fun args mm => table_at (l := tabCheckT) (f := 144) (args := args) (m := mm) rfl
  refine fun_ok mixed hC Tryz.func107 rfl kpCheckT false rfl fun args m r h => ?_
  unfold checkTG at h
  split at h
  · rename_i g rows
    split at h
    · rename_i l hl0
      obtain rfl := unN_some hl0
      split at h
      · rename_i hlen
        simp only [Option.some.injEq] at h
        subst h
        refine ⟨Nat.le_of_ble_eq_true rfl, ?_⟩
        simp only [entry, List.length_cons, List.length_nil, List.range, List.range.loop, List.zip_cons_cons, List.zip_nil_right]
        have f1 := fun mm => wholeG_eq (m := mm) (g := .no) hlen
        have f2 := fun mm => anyBadNG_eq (m := mm) (g := .no) hlen
        have f3 := fun mm => depthG_eq (m := mm) (g := .no) hlen
        refine go0 ?_
        refine runs_cond rfl (fun hc => ?_) (fun hc => ?_)
        · have := of_decide_eq_true hc
          rw [show checkT l = 9 from if_pos (by omega)]
          refine go0 ?_
          exact leaves_v rfl rfl
        · have h64 := of_decide_eq_false hc
          have e : checkT l = if wholeB l = false ∨ l.any badN = true then 1 else if 32 < depthOf l then 7 else 0 := if_neg (by omega)
          cases hw : wholeB l with
          | false =>
            rw [hw] at f1
            have b1 : (!false) = true := rfl
            rw [e, if_pos (.inl hw)]
            refine go1 (jn @t1 (jn @f1 @b1)) ?_
            refine runs_cond rfl (fun hc => ?_) (fun hc => by cases hc)
            refine go0 ?_
            refine runs_cond rfl (fun hc => ?_) (fun hc => by cases hc)
            refine go0 ?_
            exact leaves_v rfl rfl
          | true =>
            rw [hw] at f1
            have b1 : (!true) = false := rfl
            refine go1 (jn @t1 (jn @f1 @b1)) ?_
            refine runs_cond rfl (fun hc => by cases hc) (fun hc => ?_)
            refine go1 (jn @t2 @f2) ?_
            refine runs_cond rfl (fun hc => ?_) (fun hc => ?_)
            · rw [e, if_pos (.inr hc)]
              refine go0 ?_
              exact leaves_v rfl rfl
            · have hn : ¬ (wholeB l = false ∨ l.any badN = true) := by rw [hw, hc]; simp
              rw [e, if_neg hn]
              refine go1 (jn @t3 @f3) ?_
              refine runs_cond rfl (fun hc => ?_) (fun hc => ?_)
              · have := of_decide_eq_true hc
                rw [if_pos (by omega)]
                refine go0 ?_
                exact leaves_v rfl rfl
              · have := of_decide_eq_false hc
                rw [if_neg (by omega)]
                refine go0 ?_
                exact leaves_v rfl rfl
      · cases h
    · cases h
  · cases h
end Go.Proofs.YtojaokhkbmiidaaGreat.Ev
