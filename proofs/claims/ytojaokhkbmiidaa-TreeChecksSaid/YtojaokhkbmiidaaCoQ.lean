/- Trees: the least and the greatest number. -/
import Derived.Test.YtojaokhkbmiidaaCoZb
namespace Go.Proofs.Ytojaokhkbmiidaa.Ev
open Go Go.Proofs
set_option maxRecDepth 10000
set_option maxHeartbeats 8000000
set_option linter.unusedVariables false
set_option linter.unusedSimpArgs false
attribute [local irreducible] Next Inside Runs Ops table
theorem mkInts2 {a b : Int} : evBuildSlice Try.prog 25 2 [(0, .v (.int .i64 a)), (1, .v (.int .i64 b))] = some (.lst .full 1 [[.v (.int .i64 a)], [.v (.int .i64 b)]]) := build_rows appInts rfl rfl (by decide)
theorem mkInts3 {a b c : Int} : evBuildSlice Try.prog 25 3 [(0, .v (.int .i64 a)), (1, .v (.int .i64 b)), (2, .v (.int .i64 c))] = some (.lst .full 1 [[.v (.int .i64 a)], [.v (.int .i64 b)], [.v (.int .i64 c)]]) := build_rows appInts rfl rfl (by decide)
def endsN (x : Nd) : List Int := if x.op = 9 then [] else if x.op = 1 ∨ x.op = 8 then [x.a] else if x.op = 6 then [x.a, x.b, x.c] else [x.a, x.b]
theorem endsN_len (x : Nd) : (endsN x).length ≤ 3 := by
  unfold endsN
  split <;> (try split) <;> (try split) <;> simp
def endsNG : List AV → Mem → Option (AV × Mem)
  | [.agg cs], m =>
    match unNd cs with
    | some x => some (.lst .no 1 (rowsI (endsN x)), m)
    | none => none
  | _, _ => none
theorem endsNG_eq (x : Nd) (mm : Mem) : endsNG [.agg x.row] mm = some (.lst .no 1 (rowsI (endsN x)), mm) := by
  simp only [endsNG, unNd_of]
def kpEndsN : Nat → Option (List Nat) := fun
  | 0 => some [1]
  | 1 => some [1, 4]
  | 2 => some [1, 4, 5]
  | 3 => some [2]
  | 4 => some [1, 4, 7]
  | 5 => some [1, 4, 7]
  | 6 => some [2]
  | 7 => some [1, 13]
  | 8 => some [2]
  | 9 => some [2]
  | _ => none
attribute [local irreducible] nrow
theorem endsN_ok : FunOk Try.prog 35 endsNG := by
  have hC := table_ok (P := Try.prog) (l := []) table_nil
  refine fun_ok mixed hC Try.func35 rfl kpEndsN false rfl fun args m r h => ?_
  unfold endsNG at h
  split at h
  · rename_i cs
    split at h
    · rename_i x hx
      obtain rfl := unNd_row hx
      simp only [Option.some.injEq] at h
      subst h
      refine ⟨Nat.le_of_ble_eq_true rfl, ?_⟩
      simp only [entry, List.length_cons, List.length_nil, List.range, List.range.loop, List.zip_cons_cons, List.zip_nil_right]
      have fin : ∀ (e : Env) (m' : Mem) (L : List Int), Ev.get e 2 = .lst .full 1 (rowsI L) → finMem m m' = m → L = endsN x → Leaves Try.prog false Try.f35 m (.lst .no 1 (rowsI (endsN x)), m) .ret e m' := fun e m' L h1 h2 h3 => by
        rw [← h3]; exact leaves_lst rfl h1 h2
      obtain ⟨op, a, b, c, k, u, n⟩ := x
      simp only at *
      by_cases h9 : op = 9
      · subst h9
        repeat' (first
          | (first | refine runs_seq ?_ | refine runs_block ?_ | refine next_normal ?_ | refine inside_normal ?_ | refine next_exit ?_ | refine inside_exit ?_ | refine inside_other (by decide) ?_ | refine next_ret ?_ | refine inside_ret ?_ | refine runs_ops_kept ?_ | refine runs_skip ?_ | refine runs_exit ?_ | refine runs_ret ?_ | ((first | refine' ops_op rfl rfl (by decide) ?_ ?_ ?_ | refine' ops_yes rfl rfl (by simp only [Ev.get, reduceIte, Nat.reduceEqDiff, szStr, szInt, Option.getD_some, isNil, evStr, loadOne, newNode, cellsNode, nf0, nf1, nf2, nf3, nf4, nf5, nh0, nh1, nh2, nh3, nh4, nh5, Nat.zero_add, mkInts0, mkInts1, mkInts2, mkInts3]; first | done | rfl) rfl (by decide) ?_ ?_ ?_ | refine' ops_op0 rfl rfl ?_ ?_ ?_); rotate_left 2; (focus (simp only [evOp, opd, constAV, constCell, Ev.get, reduceIte, Nat.reduceEqDiff, reduceCtorEq, evBinN, nilCmp, evBin, evInt, evUn, evConvert, evBuiltin, evLen, evField, evPart, tStr, tInt, tElem, tArr, tBool, tAgg, tField, Try.underlying9, Try.underlying3, Try.underlying4, Try.underlying5, Try.underlying21, Try.underlying121, Try.underlying38, Try.underlying25, Try.underlying135, Try.underlying33, Try.underlying2, Try.underlying147, Try.underlying22, Try.underlying56, Try.underlying54, List.zipWith, Option.map_some, Option.map_none, List.length_cons, List.length_nil, ne_eq, Int.reduceEq, not_false_eq_true, and_self, and_true, true_and, szStr, szInt, Option.getD_some, isNil, evStr, loadOne, newNode, cellsNode, nf0, nf1, nf2, nf3, nf4, nf5, nh0, nh1, nh2, nh3, nh4, nh5, Nat.zero_add, mkInts0, mkInts1, mkInts2, mkInts3, evCall, List.size_toArray, List.append_nil, List.nil_append, List.map_cons, List.map_nil, argAV, argCell, List.toList_toArray, fieldTy]; first | done | rfl)); exact (fun h => by first | rfl | (simp at h; done) | exact absurd (Bool.and_eq_true_iff.mp h).2 (by decide))) | refine ops_no rfl rfl (by simp only [Ev.get, reduceIte, Nat.reduceEqDiff, szStr, szInt, Option.getD_some, isNil, evStr, loadOne, newNode, cellsNode, nf0, nf1, nf2, nf3, nf4, nf5, nh0, nh1, nh2, nh3, nh4, nh5, Nat.zero_add, mkInts0, mkInts1, mkInts2, mkInts3]; first | done | rfl) (by decide) rfl (by decide) ?_ | refine ops_off rfl rfl rfl rfl (by decide) ?_ | (refine ops_nil ?_; intro e2 h2; simp only [restr, kpEndsN, List.map_cons, List.map_nil, Ev.get, reduceIte, Nat.reduceEqDiff] at h2; subst h2))
          | (refine ops_here ?_; (fail_if_success (refine ops_case (B := true) rfl rfl rfl ?_ ?_)); (fail_if_success (refine ops_case (B := false) rfl rfl rfl ?_ ?_)); refine ops_case rfl rfl rfl (fun hB => ?_) (fun hB => ?_) <;> rw [hB])
          | (refine runs_here ?_; refine runs_cond rfl (fun hc => ?_) (fun hc => ?_) <;> first | (cases hc; done) | skip))
        all_goals first | exact fin _ _ [] rfl fin_push rfl | (exfalso; simp at *; done)
      by_cases h1 : op = 1 ∨ op = 8
      · have e1 : endsN ⟨op, a, b, c, k, u, n⟩ = [a] := by unfold endsN; rw [if_neg h9, if_pos h1]
        have b9 : (op == 9) = false := by simpa using h9
        rcases h1 with rfl | rfl
        · repeat' (first
            | (first | refine runs_seq ?_ | refine runs_block ?_ | refine next_normal ?_ | refine inside_normal ?_ | refine next_exit ?_ | refine inside_exit ?_ | refine inside_other (by decide) ?_ | refine next_ret ?_ | refine inside_ret ?_ | refine runs_ops_kept ?_ | refine runs_skip ?_ | refine runs_exit ?_ | refine runs_ret ?_ | ((first | refine' ops_op rfl rfl (by decide) ?_ ?_ ?_ | refine' ops_yes rfl rfl (by simp only [Ev.get, reduceIte, Nat.reduceEqDiff, szStr, szInt, Option.getD_some, isNil, evStr, loadOne, newNode, cellsNode, nf0, nf1, nf2, nf3, nf4, nf5, nh0, nh1, nh2, nh3, nh4, nh5, Nat.zero_add, mkInts0, mkInts1, mkInts2, mkInts3]; first | done | rfl) rfl (by decide) ?_ ?_ ?_ | refine' ops_op0 rfl rfl ?_ ?_ ?_); rotate_left 2; (focus (simp only [evOp, opd, constAV, constCell, Ev.get, reduceIte, Nat.reduceEqDiff, reduceCtorEq, evBinN, nilCmp, evBin, evInt, evUn, evConvert, evBuiltin, evLen, evField, evPart, tStr, tInt, tElem, tArr, tBool, tAgg, tField, Try.underlying9, Try.underlying3, Try.underlying4, Try.underlying5, Try.underlying21, Try.underlying121, Try.underlying38, Try.underlying25, Try.underlying135, Try.underlying33, Try.underlying2, Try.underlying147, Try.underlying22, Try.underlying56, Try.underlying54, List.zipWith, Option.map_some, Option.map_none, List.length_cons, List.length_nil, ne_eq, Int.reduceEq, not_false_eq_true, and_self, and_true, true_and, szStr, szInt, Option.getD_some, isNil, evStr, loadOne, newNode, cellsNode, nf0, nf1, nf2, nf3, nf4, nf5, nh0, nh1, nh2, nh3, nh4, nh5, Nat.zero_add, mkInts0, mkInts1, mkInts2, mkInts3, evCall, List.size_toArray, List.append_nil, List.nil_append, List.map_cons, List.map_nil, argAV, argCell, List.toList_toArray, fieldTy]; first | done | rfl)); exact (fun h => by first | rfl | (simp at h; done) | exact absurd (Bool.and_eq_true_iff.mp h).2 (by decide))) | refine ops_no rfl rfl (by simp only [Ev.get, reduceIte, Nat.reduceEqDiff, szStr, szInt, Option.getD_some, isNil, evStr, loadOne, newNode, cellsNode, nf0, nf1, nf2, nf3, nf4, nf5, nh0, nh1, nh2, nh3, nh4, nh5, Nat.zero_add, mkInts0, mkInts1, mkInts2, mkInts3]; first | done | rfl) (by decide) rfl (by decide) ?_ | refine ops_off rfl rfl rfl rfl (by decide) ?_ | (refine ops_nil ?_; intro e2 h2; simp only [restr, kpEndsN, List.map_cons, List.map_nil, Ev.get, reduceIte, Nat.reduceEqDiff] at h2; subst h2))
            | (refine ops_here ?_; (fail_if_success (refine ops_case (B := true) rfl rfl rfl ?_ ?_)); (fail_if_success (refine ops_case (B := false) rfl rfl rfl ?_ ?_)); refine ops_case rfl rfl rfl (fun hB => ?_) (fun hB => ?_) <;> rw [hB])
            | (refine runs_here ?_; refine runs_cond rfl (fun hc => ?_) (fun hc => ?_) <;> first | (cases hc; done) | skip))
          all_goals first | exact fin _ _ [a] rfl fin_push e1.symm | (exfalso; simp at *; done)
        · repeat' (first
            | (first | refine runs_seq ?_ | refine runs_block ?_ | refine next_normal ?_ | refine inside_normal ?_ | refine next_exit ?_ | refine inside_exit ?_ | refine inside_other (by decide) ?_ | refine next_ret ?_ | refine inside_ret ?_ | refine runs_ops_kept ?_ | refine runs_skip ?_ | refine runs_exit ?_ | refine runs_ret ?_ | ((first | refine' ops_op rfl rfl (by decide) ?_ ?_ ?_ | refine' ops_yes rfl rfl (by simp only [Ev.get, reduceIte, Nat.reduceEqDiff, szStr, szInt, Option.getD_some, isNil, evStr, loadOne, newNode, cellsNode, nf0, nf1, nf2, nf3, nf4, nf5, nh0, nh1, nh2, nh3, nh4, nh5, Nat.zero_add, mkInts0, mkInts1, mkInts2, mkInts3]; first | done | rfl) rfl (by decide) ?_ ?_ ?_ | refine' ops_op0 rfl rfl ?_ ?_ ?_); rotate_left 2; (focus (simp only [evOp, opd, constAV, constCell, Ev.get, reduceIte, Nat.reduceEqDiff, reduceCtorEq, evBinN, nilCmp, evBin, evInt, evUn, evConvert, evBuiltin, evLen, evField, evPart, tStr, tInt, tElem, tArr, tBool, tAgg, tField, Try.underlying9, Try.underlying3, Try.underlying4, Try.underlying5, Try.underlying21, Try.underlying121, Try.underlying38, Try.underlying25, Try.underlying135, Try.underlying33, Try.underlying2, Try.underlying147, Try.underlying22, Try.underlying56, Try.underlying54, List.zipWith, Option.map_some, Option.map_none, List.length_cons, List.length_nil, ne_eq, Int.reduceEq, not_false_eq_true, and_self, and_true, true_and, szStr, szInt, Option.getD_some, isNil, evStr, loadOne, newNode, cellsNode, nf0, nf1, nf2, nf3, nf4, nf5, nh0, nh1, nh2, nh3, nh4, nh5, Nat.zero_add, mkInts0, mkInts1, mkInts2, mkInts3, evCall, List.size_toArray, List.append_nil, List.nil_append, List.map_cons, List.map_nil, argAV, argCell, List.toList_toArray, fieldTy]; first | done | rfl)); exact (fun h => by first | rfl | (simp at h; done) | exact absurd (Bool.and_eq_true_iff.mp h).2 (by decide))) | refine ops_no rfl rfl (by simp only [Ev.get, reduceIte, Nat.reduceEqDiff, szStr, szInt, Option.getD_some, isNil, evStr, loadOne, newNode, cellsNode, nf0, nf1, nf2, nf3, nf4, nf5, nh0, nh1, nh2, nh3, nh4, nh5, Nat.zero_add, mkInts0, mkInts1, mkInts2, mkInts3]; first | done | rfl) (by decide) rfl (by decide) ?_ | refine ops_off rfl rfl rfl rfl (by decide) ?_ | (refine ops_nil ?_; intro e2 h2; simp only [restr, kpEndsN, List.map_cons, List.map_nil, Ev.get, reduceIte, Nat.reduceEqDiff] at h2; subst h2))
            | (refine ops_here ?_; (fail_if_success (refine ops_case (B := true) rfl rfl rfl ?_ ?_)); (fail_if_success (refine ops_case (B := false) rfl rfl rfl ?_ ?_)); refine ops_case rfl rfl rfl (fun hB => ?_) (fun hB => ?_) <;> rw [hB])
            | (refine runs_here ?_; refine runs_cond rfl (fun hc => ?_) (fun hc => ?_) <;> first | (cases hc; done) | skip))
          all_goals first | exact fin _ _ [a] rfl fin_push e1.symm | (exfalso; simp at *; done)
      · have b9 : (op == 9) = false := by simpa using h9
        have b1 : (op == 1) = false := by simp; omega
        have b8 : (op == 8) = false := by simp; omega
        by_cases h6 : op = 6
        · have e1 : endsN ⟨op, a, b, c, k, u, n⟩ = [a, b, c] := by unfold endsN; rw [if_neg h9, if_neg h1, if_pos h6]
          have b6 : (op == 6) = true := by simpa using h6
          repeat' (first
            | (first | refine runs_seq ?_ | refine runs_block ?_ | refine next_normal ?_ | refine inside_normal ?_ | refine next_exit ?_ | refine inside_exit ?_ | refine inside_other (by decide) ?_ | refine next_ret ?_ | refine inside_ret ?_ | refine runs_ops_kept ?_ | refine runs_skip ?_ | refine runs_exit ?_ | refine runs_ret ?_ | ((first | refine' ops_op rfl rfl (by decide) ?_ ?_ ?_ | refine' ops_yes rfl rfl (by simp only [Ev.get, reduceIte, Nat.reduceEqDiff, szStr, szInt, Option.getD_some, isNil, evStr, loadOne, newNode, cellsNode, nf0, nf1, nf2, nf3, nf4, nf5, nh0, nh1, nh2, nh3, nh4, nh5, Nat.zero_add, mkInts0, mkInts1, mkInts2, mkInts3, b9, b1, b8, b6]; first | done | rfl) rfl (by decide) ?_ ?_ ?_ | refine' ops_op0 rfl rfl ?_ ?_ ?_); rotate_left 2; (focus (simp only [evOp, opd, constAV, constCell, Ev.get, reduceIte, Nat.reduceEqDiff, reduceCtorEq, evBinN, nilCmp, evBin, evInt, evUn, evConvert, evBuiltin, evLen, evField, evPart, tStr, tInt, tElem, tArr, tBool, tAgg, tField, Try.underlying9, Try.underlying3, Try.underlying4, Try.underlying5, Try.underlying21, Try.underlying121, Try.underlying38, Try.underlying25, Try.underlying135, Try.underlying33, Try.underlying2, Try.underlying147, Try.underlying22, Try.underlying56, Try.underlying54, List.zipWith, Option.map_some, Option.map_none, List.length_cons, List.length_nil, ne_eq, Int.reduceEq, not_false_eq_true, and_self, and_true, true_and, szStr, szInt, Option.getD_some, isNil, evStr, loadOne, newNode, cellsNode, nf0, nf1, nf2, nf3, nf4, nf5, nh0, nh1, nh2, nh3, nh4, nh5, Nat.zero_add, mkInts0, mkInts1, mkInts2, mkInts3, evCall, List.size_toArray, List.append_nil, List.nil_append, List.map_cons, List.map_nil, argAV, argCell, List.toList_toArray, fieldTy, b9, b1, b8, b6]; first | done | rfl)); exact (fun h => by first | rfl | (simp at h; done) | exact absurd (Bool.and_eq_true_iff.mp h).2 (by decide))) | refine ops_no rfl rfl (by simp only [Ev.get, reduceIte, Nat.reduceEqDiff, szStr, szInt, Option.getD_some, isNil, evStr, loadOne, newNode, cellsNode, nf0, nf1, nf2, nf3, nf4, nf5, nh0, nh1, nh2, nh3, nh4, nh5, Nat.zero_add, mkInts0, mkInts1, mkInts2, mkInts3, b9, b1, b8, b6]; first | done | rfl) (by decide) rfl (by decide) ?_ | refine ops_off rfl rfl rfl rfl (by decide) ?_ | (refine ops_nil ?_; intro e2 h2; simp only [restr, kpEndsN, List.map_cons, List.map_nil, Ev.get, reduceIte, Nat.reduceEqDiff] at h2; subst h2))
            | (refine ops_here ?_; (fail_if_success (refine ops_case (B := true) rfl rfl rfl ?_ ?_)); (fail_if_success (refine ops_case (B := false) rfl rfl rfl ?_ ?_)); refine ops_case rfl rfl rfl (fun hB => ?_) (fun hB => ?_) <;> rw [hB])
            | (refine runs_here ?_; refine runs_cond rfl (fun hc => ?_) (fun hc => ?_) <;> first | (cases hc; done) | skip))
          all_goals first | exact fin _ _ [a, b, c] rfl fin_push e1.symm | (exfalso; simp at *; done)
        · have e1 : endsN ⟨op, a, b, c, k, u, n⟩ = [a, b] := by unfold endsN; rw [if_neg h9, if_neg h1, if_neg h6]
          have b6 : (op == 6) = false := by simpa using h6
          repeat' (first
            | (first | refine runs_seq ?_ | refine runs_block ?_ | refine next_normal ?_ | refine inside_normal ?_ | refine next_exit ?_ | refine inside_exit ?_ | refine inside_other (by decide) ?_ | refine next_ret ?_ | refine inside_ret ?_ | refine runs_ops_kept ?_ | refine runs_skip ?_ | refine runs_exit ?_ | refine runs_ret ?_ | ((first | refine' ops_op rfl rfl (by decide) ?_ ?_ ?_ | refine' ops_yes rfl rfl (by simp only [Ev.get, reduceIte, Nat.reduceEqDiff, szStr, szInt, Option.getD_some, isNil, evStr, loadOne, newNode, cellsNode, nf0, nf1, nf2, nf3, nf4, nf5, nh0, nh1, nh2, nh3, nh4, nh5, Nat.zero_add, mkInts0, mkInts1, mkInts2, mkInts3, b9, b1, b8, b6]; first | done | rfl) rfl (by decide) ?_ ?_ ?_ | refine' ops_op0 rfl rfl ?_ ?_ ?_); rotate_left 2; (focus (simp only [evOp, opd, constAV, constCell, Ev.get, reduceIte, Nat.reduceEqDiff, reduceCtorEq, evBinN, nilCmp, evBin, evInt, evUn, evConvert, evBuiltin, evLen, evField, evPart, tStr, tInt, tElem, tArr, tBool, tAgg, tField, Try.underlying9, Try.underlying3, Try.underlying4, Try.underlying5, Try.underlying21, Try.underlying121, Try.underlying38, Try.underlying25, Try.underlying135, Try.underlying33, Try.underlying2, Try.underlying147, Try.underlying22, Try.underlying56, Try.underlying54, List.zipWith, Option.map_some, Option.map_none, List.length_cons, List.length_nil, ne_eq, Int.reduceEq, not_false_eq_true, and_self, and_true, true_and, szStr, szInt, Option.getD_some, isNil, evStr, loadOne, newNode, cellsNode, nf0, nf1, nf2, nf3, nf4, nf5, nh0, nh1, nh2, nh3, nh4, nh5, Nat.zero_add, mkInts0, mkInts1, mkInts2, mkInts3, evCall, List.size_toArray, List.append_nil, List.nil_append, List.map_cons, List.map_nil, argAV, argCell, List.toList_toArray, fieldTy, b9, b1, b8, b6]; first | done | rfl)); exact (fun h => by first | rfl | (simp at h; done) | exact absurd (Bool.and_eq_true_iff.mp h).2 (by decide))) | refine ops_no rfl rfl (by simp only [Ev.get, reduceIte, Nat.reduceEqDiff, szStr, szInt, Option.getD_some, isNil, evStr, loadOne, newNode, cellsNode, nf0, nf1, nf2, nf3, nf4, nf5, nh0, nh1, nh2, nh3, nh4, nh5, Nat.zero_add, mkInts0, mkInts1, mkInts2, mkInts3, b9, b1, b8, b6]; first | done | rfl) (by decide) rfl (by decide) ?_ | refine ops_off rfl rfl rfl rfl (by decide) ?_ | (refine ops_nil ?_; intro e2 h2; simp only [restr, kpEndsN, List.map_cons, List.map_nil, Ev.get, reduceIte, Nat.reduceEqDiff] at h2; subst h2))
            | (refine ops_here ?_; (fail_if_success (refine ops_case (B := true) rfl rfl rfl ?_ ?_)); (fail_if_success (refine ops_case (B := false) rfl rfl rfl ?_ ?_)); refine ops_case rfl rfl rfl (fun hB => ?_) (fun hB => ?_) <;> rw [hB])
            | (refine runs_here ?_; refine runs_cond rfl (fun hc => ?_) (fun hc => ?_) <;> first | (cases hc; done) | skip))
          all_goals first | exact fin _ _ [a, b] rfl fin_push e1.symm | (exfalso; simp at *; done)
    · cases h
  · cases h
end Go.Proofs.Ytojaokhkbmiidaa.Ev
