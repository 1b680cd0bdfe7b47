/- Bytes: the law Puts. -/
import Derived.Test.YtbehhlbcffbkoaaSeP
namespace Go.Proofs.Ytbehhlbcffbkoaa.Ev
open Go Go.Proofs
set_option maxRecDepth 10000
set_option linter.unusedVariables false
set_option linter.unusedSimpArgs false
attribute [local irreducible] Next Inside Runs Ops table
def putsLawG : List AV → Mem → Option (AV × Mem)
  | [.lst _ 1 r0, .v (.int .i64 n), .lst _ 1 r2], m =>
    match unB r0, unB r2 with
    | some _, some _ => if inI n then some (.v (.bool true), m) else none
    | _, _ => none
  | _, _ => none
def tab7 : List (FuncId × (List AV → Mem → Option (AV × Mem))) := [(27, yesG), (28, putG), (29, codeG), (30, getG), (31, foldG), (32, foldG), (33, unfoldG), (34, sameG)]
def kp7 : Nat → Option (List Nat) := fun _ => some [0, 1, 2, 6, 7, 8, 9, 10, 18, 45]
theorem putsLaw_ok : FunOk Try.prog 7 putsLawG := by
  have hC := table_ok (P := Try.prog) (l := tab7) (table_more awake40_ok (table_more put_ok (table_more code_ok (table_more get_ok (table_more fold_ok (table_more refFold_ok (table_more unfold_ok (table_more same_ok table_nil))))))))
  refine fun_ok mixed hC Try.func7 rfl kp7 false rfl fun args m r h => ?_
  unfold putsLawG at h
  split at h
  · rename_i g0 r0 n g2 r2
    split at h
    · rename_i l0 l2 e0 e2
      obtain ⟨rfl, ok0⟩ := unB_some e0
      obtain ⟨rfl, ok2⟩ := unB_some e2
      split at h
      · rename_i hn
        simp only [Option.some.injEq] at h
        subst h
        refine ⟨Nat.le_of_ble_eq_true rfl, ?_⟩
        simp only [entry, List.length_cons, List.length_nil, List.range, List.range.loop, List.zip_cons_cons, List.zip_nil_right]
        have t27 := fun args mm => table_at (l := tab7) (f := 27) (args := args) (m := mm) rfl
        have t28 := fun args mm => table_at (l := tab7) (f := 28) (args := args) (m := mm) rfl
        have t29 := fun args mm => table_at (l := tab7) (f := 29) (args := args) (m := mm) rfl
        have t30 := fun args mm => table_at (l := tab7) (f := 30) (args := args) (m := mm) rfl
        have t31 := fun args mm => table_at (l := tab7) (f := 31) (args := args) (m := mm) rfl
        have t32 := fun args mm => table_at (l := tab7) (f := 32) (args := args) (m := mm) rfl
        have t33 := fun args mm => table_at (l := tab7) (f := 33) (args := args) (m := mm) rfl
        have t34 := fun args mm => table_at (l := tab7) (f := 34) (args := args) (m := mm) rfl
        have wake : ∀ mm, yesG [] mm = some (.v (.bool true), mm) := fun _ => rfl
        repeat (first
          | refine runs_seq ?_ | refine runs_block ?_ | refine next_normal ?_ | refine inside_normal ?_ | refine next_exit ?_ | refine inside_exit ?_ | refine inside_other (by decide) ?_ | refine next_ret ?_ | refine inside_ret ?_
          | refine runs_ops_kept ?_ | refine runs_skip ?_ | refine runs_exit ?_ | refine runs_ret ?_
          | refine ops_op rfl rfl (by decide) (by simp only [evOp, opd, constAV, constCell, Ev.get, reduceIte, Nat.reduceEqDiff, reduceCtorEq, evBinN, nilCmp, evBin, evInt, evUn, evConvert, evBuiltin, evLen, evField, evPart, tStr, tInt, tElem, tArr, tBool, tAgg, tField, Try.underlying3, Try.underlying4, Try.underlying5, Try.underlying9, Try.underlying26, Try.underlying29, Try.underlying34, Try.underlying40, Try.underlying45, Try.underlying56, Try.underlying134, List.zipWith, Option.map_some, Option.map_none, List.length_cons, List.length_nil, ne_eq, Int.reduceEq, not_false_eq_true, and_self, and_true, true_and, sz5, sz3, Option.getD_some, isNil, load5, load3, mk40_0, mk40_1, mk56_0, mk56_1, mk56_2, rowsB_len, rowsI_len, evCall, List.size_toArray, List.append_nil, List.nil_append, List.map_cons, List.map_nil, argAV, argCell, List.toList_toArray, fieldTy]; rfl) (fun h => by first | rfl | (simp at h; done)) ?_
          | refine ops_yes rfl rfl (by simp only [Ev.get, reduceIte, Nat.reduceEqDiff, sz5, sz3, Option.getD_some, isNil, load5, load3, mk40_0, mk40_1, mk56_0, mk56_1, mk56_2, rowsB_len, rowsI_len]; first | done | rfl) rfl (by decide) (by simp only [evOp, opd, constAV, constCell, Ev.get, reduceIte, Nat.reduceEqDiff, reduceCtorEq, evBinN, nilCmp, evBin, evInt, evUn, evConvert, evBuiltin, evLen, evField, evPart, tStr, tInt, tElem, tArr, tBool, tAgg, tField, Try.underlying3, Try.underlying4, Try.underlying5, Try.underlying9, Try.underlying26, Try.underlying29, Try.underlying34, Try.underlying40, Try.underlying45, Try.underlying56, Try.underlying134, List.zipWith, Option.map_some, Option.map_none, List.length_cons, List.length_nil, ne_eq, Int.reduceEq, not_false_eq_true, and_self, and_true, true_and, sz5, sz3, Option.getD_some, isNil, load5, load3, mk40_0, mk40_1, mk56_0, mk56_1, mk56_2, rowsB_len, rowsI_len, evCall, List.size_toArray, List.append_nil, List.nil_append, List.map_cons, List.map_nil, argAV, argCell, List.toList_toArray, fieldTy]; rfl) (fun h => by first | rfl | (simp at h; done)) ?_
          | refine ops_no rfl rfl (by simp only [Ev.get, reduceIte, Nat.reduceEqDiff, sz5, sz3, Option.getD_some, isNil, load5, load3, mk40_0, mk40_1, mk56_0, mk56_1, mk56_2, rowsB_len, rowsI_len]; first | done | rfl) (by decide) rfl (by decide) ?_
          | refine ops_off rfl rfl rfl rfl (by decide) ?_
          | (refine ops_nil ?_; intro e2 h2; simp only [restr, kp7, List.map_cons, List.map_nil, Ev.get, reduceIte, Nat.reduceEqDiff] at h2; subst h2))
        by_cases b0 : l0.length > 100
        · have d0 : decide ((l0.length : Int) > 100) = true := decide_eq_true (by omega)
          repeat (first
            | refine runs_seq ?_ | refine runs_block ?_ | refine next_normal ?_ | refine inside_normal ?_ | refine next_exit ?_ | refine inside_exit ?_ | refine inside_other (by decide) ?_ | refine next_ret ?_ | refine inside_ret ?_
            | refine runs_ops_kept ?_ | refine runs_skip ?_ | refine runs_exit ?_ | refine runs_ret ?_
            | refine ops_op rfl rfl (by decide) (by simp only [evOp, opd, constAV, constCell, Ev.get, reduceIte, Nat.reduceEqDiff, reduceCtorEq, evBinN, nilCmp, evBin, evInt, evUn, evConvert, evBuiltin, evLen, evField, evPart, tStr, tInt, tElem, tArr, tBool, tAgg, tField, Try.underlying3, Try.underlying4, Try.underlying5, Try.underlying9, Try.underlying26, Try.underlying29, Try.underlying34, Try.underlying40, Try.underlying45, Try.underlying56, Try.underlying134, List.zipWith, Option.map_some, Option.map_none, List.length_cons, List.length_nil, ne_eq, Int.reduceEq, not_false_eq_true, and_self, and_true, true_and, sz5, sz3, Option.getD_some, isNil, load5, load3, mk40_0, mk40_1, mk56_0, mk56_1, mk56_2, rowsB_len, rowsI_len, evCall, List.size_toArray, List.append_nil, List.nil_append, List.map_cons, List.map_nil, argAV, argCell, List.toList_toArray, fieldTy, d0]; rfl) (fun h => by first | rfl | (simp at h; done)) ?_
            | refine ops_yes rfl rfl (by simp only [Ev.get, reduceIte, Nat.reduceEqDiff, sz5, sz3, Option.getD_some, isNil, load5, load3, mk40_0, mk40_1, mk56_0, mk56_1, mk56_2, rowsB_len, rowsI_len, d0]; first | done | rfl) rfl (by decide) (by simp only [evOp, opd, constAV, constCell, Ev.get, reduceIte, Nat.reduceEqDiff, reduceCtorEq, evBinN, nilCmp, evBin, evInt, evUn, evConvert, evBuiltin, evLen, evField, evPart, tStr, tInt, tElem, tArr, tBool, tAgg, tField, Try.underlying3, Try.underlying4, Try.underlying5, Try.underlying9, Try.underlying26, Try.underlying29, Try.underlying34, Try.underlying40, Try.underlying45, Try.underlying56, Try.underlying134, List.zipWith, Option.map_some, Option.map_none, List.length_cons, List.length_nil, ne_eq, Int.reduceEq, not_false_eq_true, and_self, and_true, true_and, sz5, sz3, Option.getD_some, isNil, load5, load3, mk40_0, mk40_1, mk56_0, mk56_1, mk56_2, rowsB_len, rowsI_len, evCall, List.size_toArray, List.append_nil, List.nil_append, List.map_cons, List.map_nil, argAV, argCell, List.toList_toArray, fieldTy, d0]; rfl) (fun h => by first | rfl | (simp at h; done)) ?_
            | refine ops_no rfl rfl (by simp only [Ev.get, reduceIte, Nat.reduceEqDiff, sz5, sz3, Option.getD_some, isNil, load5, load3, mk40_0, mk40_1, mk56_0, mk56_1, mk56_2, rowsB_len, rowsI_len, d0]; first | done | rfl) (by decide) rfl (by decide) ?_
            | refine ops_off rfl rfl rfl rfl (by decide) ?_
            | (refine ops_nil ?_; intro e2 h2; simp only [restr, kp7, List.map_cons, List.map_nil, Ev.get, reduceIte, Nat.reduceEqDiff] at h2; subst h2))
          refine runs_cond rfl (fun hc => ?_) (fun hc => by cases hc)
          repeat (first
            | refine runs_seq ?_ | refine runs_block ?_ | refine next_normal ?_ | refine inside_normal ?_ | refine next_exit ?_ | refine inside_exit ?_ | refine inside_other (by decide) ?_ | refine next_ret ?_ | refine inside_ret ?_
            | refine runs_ops_kept ?_ | refine runs_skip ?_ | refine runs_exit ?_ | refine runs_ret ?_
            | refine ops_op rfl rfl (by decide) (by simp only [evOp, opd, constAV, constCell, Ev.get, reduceIte, Nat.reduceEqDiff, reduceCtorEq, evBinN, nilCmp, evBin, evInt, evUn, evConvert, evBuiltin, evLen, evField, evPart, tStr, tInt, tElem, tArr, tBool, tAgg, tField, Try.underlying3, Try.underlying4, Try.underlying5, Try.underlying9, Try.underlying26, Try.underlying29, Try.underlying34, Try.underlying40, Try.underlying45, Try.underlying56, Try.underlying134, List.zipWith, Option.map_some, Option.map_none, List.length_cons, List.length_nil, ne_eq, Int.reduceEq, not_false_eq_true, and_self, and_true, true_and, sz5, sz3, Option.getD_some, isNil, load5, load3, mk40_0, mk40_1, mk56_0, mk56_1, mk56_2, rowsB_len, rowsI_len, evCall, List.size_toArray, List.append_nil, List.nil_append, List.map_cons, List.map_nil, argAV, argCell, List.toList_toArray, fieldTy, t27, wake]; rfl) (fun h => by first | rfl | (simp at h; done)) ?_
            | refine ops_yes rfl rfl (by simp only [Ev.get, reduceIte, Nat.reduceEqDiff, sz5, sz3, Option.getD_some, isNil, load5, load3, mk40_0, mk40_1, mk56_0, mk56_1, mk56_2, rowsB_len, rowsI_len, t27, wake]; first | done | rfl) rfl (by decide) (by simp only [evOp, opd, constAV, constCell, Ev.get, reduceIte, Nat.reduceEqDiff, reduceCtorEq, evBinN, nilCmp, evBin, evInt, evUn, evConvert, evBuiltin, evLen, evField, evPart, tStr, tInt, tElem, tArr, tBool, tAgg, tField, Try.underlying3, Try.underlying4, Try.underlying5, Try.underlying9, Try.underlying26, Try.underlying29, Try.underlying34, Try.underlying40, Try.underlying45, Try.underlying56, Try.underlying134, List.zipWith, Option.map_some, Option.map_none, List.length_cons, List.length_nil, ne_eq, Int.reduceEq, not_false_eq_true, and_self, and_true, true_and, sz5, sz3, Option.getD_some, isNil, load5, load3, mk40_0, mk40_1, mk56_0, mk56_1, mk56_2, rowsB_len, rowsI_len, evCall, List.size_toArray, List.append_nil, List.nil_append, List.map_cons, List.map_nil, argAV, argCell, List.toList_toArray, fieldTy, t27, wake]; rfl) (fun h => by first | rfl | (simp at h; done)) ?_
            | refine ops_no rfl rfl (by simp only [Ev.get, reduceIte, Nat.reduceEqDiff, sz5, sz3, Option.getD_some, isNil, load5, load3, mk40_0, mk40_1, mk56_0, mk56_1, mk56_2, rowsB_len, rowsI_len, t27, wake]; first | done | rfl) (by decide) rfl (by decide) ?_
            | refine ops_off rfl rfl rfl rfl (by decide) ?_
            | (refine ops_nil ?_; intro e2 h2; simp only [restr, kp7, List.map_cons, List.map_nil, Ev.get, reduceIte, Nat.reduceEqDiff] at h2; subst h2))
          exact leaves_v rfl rfl
        · have d0 : decide ((l0.length : Int) > 100) = false := decide_eq_false (by omega)
          by_cases b2 : l2.length > 100
          · have d2 : decide ((l2.length : Int) > 100) = true := decide_eq_true (by omega)
            repeat (first
              | refine runs_seq ?_ | refine runs_block ?_ | refine next_normal ?_ | refine inside_normal ?_ | refine next_exit ?_ | refine inside_exit ?_ | refine inside_other (by decide) ?_ | refine next_ret ?_ | refine inside_ret ?_
              | refine runs_ops_kept ?_ | refine runs_skip ?_ | refine runs_exit ?_ | refine runs_ret ?_
              | refine ops_op rfl rfl (by decide) (by simp only [evOp, opd, constAV, constCell, Ev.get, reduceIte, Nat.reduceEqDiff, reduceCtorEq, evBinN, nilCmp, evBin, evInt, evUn, evConvert, evBuiltin, evLen, evField, evPart, tStr, tInt, tElem, tArr, tBool, tAgg, tField, Try.underlying3, Try.underlying4, Try.underlying5, Try.underlying9, Try.underlying26, Try.underlying29, Try.underlying34, Try.underlying40, Try.underlying45, Try.underlying56, Try.underlying134, List.zipWith, Option.map_some, Option.map_none, List.length_cons, List.length_nil, ne_eq, Int.reduceEq, not_false_eq_true, and_self, and_true, true_and, sz5, sz3, Option.getD_some, isNil, load5, load3, mk40_0, mk40_1, mk56_0, mk56_1, mk56_2, rowsB_len, rowsI_len, evCall, List.size_toArray, List.append_nil, List.nil_append, List.map_cons, List.map_nil, argAV, argCell, List.toList_toArray, fieldTy, d0, d2]; rfl) (fun h => by first | rfl | (simp at h; done)) ?_
              | refine ops_yes rfl rfl (by simp only [Ev.get, reduceIte, Nat.reduceEqDiff, sz5, sz3, Option.getD_some, isNil, load5, load3, mk40_0, mk40_1, mk56_0, mk56_1, mk56_2, rowsB_len, rowsI_len, d0, d2]; first | done | rfl) rfl (by decide) (by simp only [evOp, opd, constAV, constCell, Ev.get, reduceIte, Nat.reduceEqDiff, reduceCtorEq, evBinN, nilCmp, evBin, evInt, evUn, evConvert, evBuiltin, evLen, evField, evPart, tStr, tInt, tElem, tArr, tBool, tAgg, tField, Try.underlying3, Try.underlying4, Try.underlying5, Try.underlying9, Try.underlying26, Try.underlying29, Try.underlying34, Try.underlying40, Try.underlying45, Try.underlying56, Try.underlying134, List.zipWith, Option.map_some, Option.map_none, List.length_cons, List.length_nil, ne_eq, Int.reduceEq, not_false_eq_true, and_self, and_true, true_and, sz5, sz3, Option.getD_some, isNil, load5, load3, mk40_0, mk40_1, mk56_0, mk56_1, mk56_2, rowsB_len, rowsI_len, evCall, List.size_toArray, List.append_nil, List.nil_append, List.map_cons, List.map_nil, argAV, argCell, List.toList_toArray, fieldTy, d0, d2]; rfl) (fun h => by first | rfl | (simp at h; done)) ?_
              | refine ops_no rfl rfl (by simp only [Ev.get, reduceIte, Nat.reduceEqDiff, sz5, sz3, Option.getD_some, isNil, load5, load3, mk40_0, mk40_1, mk56_0, mk56_1, mk56_2, rowsB_len, rowsI_len, d0, d2]; first | done | rfl) (by decide) rfl (by decide) ?_
              | refine ops_off rfl rfl rfl rfl (by decide) ?_
              | (refine ops_nil ?_; intro e2 h2; simp only [restr, kp7, List.map_cons, List.map_nil, Ev.get, reduceIte, Nat.reduceEqDiff] at h2; subst h2))
            refine runs_cond rfl (fun hc => ?_) (fun hc => by cases hc)
            repeat (first
              | refine runs_seq ?_ | refine runs_block ?_ | refine next_normal ?_ | refine inside_normal ?_ | refine next_exit ?_ | refine inside_exit ?_ | refine inside_other (by decide) ?_ | refine next_ret ?_ | refine inside_ret ?_
              | refine runs_ops_kept ?_ | refine runs_skip ?_ | refine runs_exit ?_ | refine runs_ret ?_
              | refine ops_op rfl rfl (by decide) (by simp only [evOp, opd, constAV, constCell, Ev.get, reduceIte, Nat.reduceEqDiff, reduceCtorEq, evBinN, nilCmp, evBin, evInt, evUn, evConvert, evBuiltin, evLen, evField, evPart, tStr, tInt, tElem, tArr, tBool, tAgg, tField, Try.underlying3, Try.underlying4, Try.underlying5, Try.underlying9, Try.underlying26, Try.underlying29, Try.underlying34, Try.underlying40, Try.underlying45, Try.underlying56, Try.underlying134, List.zipWith, Option.map_some, Option.map_none, List.length_cons, List.length_nil, ne_eq, Int.reduceEq, not_false_eq_true, and_self, and_true, true_and, sz5, sz3, Option.getD_some, isNil, load5, load3, mk40_0, mk40_1, mk56_0, mk56_1, mk56_2, rowsB_len, rowsI_len, evCall, List.size_toArray, List.append_nil, List.nil_append, List.map_cons, List.map_nil, argAV, argCell, List.toList_toArray, fieldTy, t27, wake]; rfl) (fun h => by first | rfl | (simp at h; done)) ?_
              | refine ops_yes rfl rfl (by simp only [Ev.get, reduceIte, Nat.reduceEqDiff, sz5, sz3, Option.getD_some, isNil, load5, load3, mk40_0, mk40_1, mk56_0, mk56_1, mk56_2, rowsB_len, rowsI_len, t27, wake]; first | done | rfl) rfl (by decide) (by simp only [evOp, opd, constAV, constCell, Ev.get, reduceIte, Nat.reduceEqDiff, reduceCtorEq, evBinN, nilCmp, evBin, evInt, evUn, evConvert, evBuiltin, evLen, evField, evPart, tStr, tInt, tElem, tArr, tBool, tAgg, tField, Try.underlying3, Try.underlying4, Try.underlying5, Try.underlying9, Try.underlying26, Try.underlying29, Try.underlying34, Try.underlying40, Try.underlying45, Try.underlying56, Try.underlying134, List.zipWith, Option.map_some, Option.map_none, List.length_cons, List.length_nil, ne_eq, Int.reduceEq, not_false_eq_true, and_self, and_true, true_and, sz5, sz3, Option.getD_some, isNil, load5, load3, mk40_0, mk40_1, mk56_0, mk56_1, mk56_2, rowsB_len, rowsI_len, evCall, List.size_toArray, List.append_nil, List.nil_append, List.map_cons, List.map_nil, argAV, argCell, List.toList_toArray, fieldTy, t27, wake]; rfl) (fun h => by first | rfl | (simp at h; done)) ?_
              | refine ops_no rfl rfl (by simp only [Ev.get, reduceIte, Nat.reduceEqDiff, sz5, sz3, Option.getD_some, isNil, load5, load3, mk40_0, mk40_1, mk56_0, mk56_1, mk56_2, rowsB_len, rowsI_len, t27, wake]; first | done | rfl) (by decide) rfl (by decide) ?_
              | refine ops_off rfl rfl rfl rfl (by decide) ?_
              | (refine ops_nil ?_; intro e2 h2; simp only [restr, kp7, List.map_cons, List.map_nil, Ev.get, reduceIte, Nat.reduceEqDiff] at h2; subst h2))
            exact leaves_v rfl rfl
          · have d2 : decide ((l2.length : Int) > 100) = false := decide_eq_false (by omega)
            repeat (first
              | refine runs_seq ?_ | refine runs_block ?_ | refine next_normal ?_ | refine inside_normal ?_ | refine next_exit ?_ | refine inside_exit ?_ | refine inside_other (by decide) ?_ | refine next_ret ?_ | refine inside_ret ?_
              | refine runs_ops_kept ?_ | refine runs_skip ?_ | refine runs_exit ?_ | refine runs_ret ?_
              | refine ops_op rfl rfl (by decide) (by simp only [evOp, opd, constAV, constCell, Ev.get, reduceIte, Nat.reduceEqDiff, reduceCtorEq, evBinN, nilCmp, evBin, evInt, evUn, evConvert, evBuiltin, evLen, evField, evPart, tStr, tInt, tElem, tArr, tBool, tAgg, tField, Try.underlying3, Try.underlying4, Try.underlying5, Try.underlying9, Try.underlying26, Try.underlying29, Try.underlying34, Try.underlying40, Try.underlying45, Try.underlying56, Try.underlying134, List.zipWith, Option.map_some, Option.map_none, List.length_cons, List.length_nil, ne_eq, Int.reduceEq, not_false_eq_true, and_self, and_true, true_and, sz5, sz3, Option.getD_some, isNil, load5, load3, mk40_0, mk40_1, mk56_0, mk56_1, mk56_2, rowsB_len, rowsI_len, evCall, List.size_toArray, List.append_nil, List.nil_append, List.map_cons, List.map_nil, argAV, argCell, List.toList_toArray, fieldTy, d0, d2]; rfl) (fun h => by first | rfl | (simp at h; done)) ?_
              | refine ops_yes rfl rfl (by simp only [Ev.get, reduceIte, Nat.reduceEqDiff, sz5, sz3, Option.getD_some, isNil, load5, load3, mk40_0, mk40_1, mk56_0, mk56_1, mk56_2, rowsB_len, rowsI_len, d0, d2]; first | done | rfl) rfl (by decide) (by simp only [evOp, opd, constAV, constCell, Ev.get, reduceIte, Nat.reduceEqDiff, reduceCtorEq, evBinN, nilCmp, evBin, evInt, evUn, evConvert, evBuiltin, evLen, evField, evPart, tStr, tInt, tElem, tArr, tBool, tAgg, tField, Try.underlying3, Try.underlying4, Try.underlying5, Try.underlying9, Try.underlying26, Try.underlying29, Try.underlying34, Try.underlying40, Try.underlying45, Try.underlying56, Try.underlying134, List.zipWith, Option.map_some, Option.map_none, List.length_cons, List.length_nil, ne_eq, Int.reduceEq, not_false_eq_true, and_self, and_true, true_and, sz5, sz3, Option.getD_some, isNil, load5, load3, mk40_0, mk40_1, mk56_0, mk56_1, mk56_2, rowsB_len, rowsI_len, evCall, List.size_toArray, List.append_nil, List.nil_append, List.map_cons, List.map_nil, argAV, argCell, List.toList_toArray, fieldTy, d0, d2]; rfl) (fun h => by first | rfl | (simp at h; done)) ?_
              | refine ops_no rfl rfl (by simp only [Ev.get, reduceIte, Nat.reduceEqDiff, sz5, sz3, Option.getD_some, isNil, load5, load3, mk40_0, mk40_1, mk56_0, mk56_1, mk56_2, rowsB_len, rowsI_len, d0, d2]; first | done | rfl) (by decide) rfl (by decide) ?_
              | refine ops_off rfl rfl rfl rfl (by decide) ?_
              | (refine ops_nil ?_; intro e2 h2; simp only [restr, kp7, List.map_cons, List.map_nil, Ev.get, reduceIte, Nat.reduceEqDiff] at h2; subst h2))
            refine runs_cond rfl (fun hc => by cases hc) (fun hc => ?_)
            have c10 := code_ten (foldOf_lt hn)
            have cok := code_okB (foldOf n)
            have f28 := fun mm => putG_eq (g := .no) (m := mm) ok0 (by omega) hn
            have f29 := fun mm => codeG_eq (m := mm) hn
            have f31 := fun mm => fold_eq (m := mm) hn
            have f33 := fun mm => unfold_eq (m := mm) (foldOf_lt hn)
            rw [unfold_fold] at f33
            have hgo := getOf_code l2 (foldOf_lt hn)
            rw [unfold_fold] at hgo
            generalize hC : codeB (foldOf n) = C at *
            generalize foldOf n = F at *
            have f30 := fun mm => getG_eq (g := .no) (m := mm) (cok.app ok2) (by rw [List.length_append]; omega)
            rw [hgo] at f30
            have a1 := app_full (m := m) (xs := []) app40 (asList_lst (g := .no) (k := 1) (rows := rowsB C)) (by simp [rowsB_len]; unfold lim; omega)
            rw [List.nil_append] at a1
            have a2 := app_one (m := m) (v := 0) (xs := rowsB C) app40 (asList_lst (g := g2) (k := 1) (rows := rowsB l2)) (by simp only [rowsB_len]; unfold lim; omega)
            rw [rowsB_app] at a2
            have a3 := app_new (m := m) (l := [0 + 1]) (xs := []) app40 (asList_lst (g := g0) (k := 1) (rows := rowsB l0)) (by simp [rowsB_len]; unfold lim; omega)
            rw [List.nil_append] at a3
            have a4 := app_tok (m := m) (l := [0 + 1, 0]) (j := 1) (v := 0) (xs := rowsB l0) app40 rfl (asList_lst (g := .no) (k := 1) (rows := rowsB C)) (by simp only [rowsB_len]; unfold lim; omega)
            rw [rowsB_app] at a4
            simp only [List.length_cons, List.length_nil, List.cons_append, List.nil_append, List.set_cons_succ, List.set_cons_zero] at a3 a4
            have f34 := fun mm => sameG_eq (m := mm) (g := .no) (g2 := .no) (ok0.app cok) (ok0.app cok) (by rw [List.length_append]; omega) (by rw [List.length_append]; omega)
            rw [decide_eq_true rfl] at f34
            have d10 : decide ((C.length : Int) ≤ 10) = true := decide_eq_true (by omega)
            repeat (first
              | refine runs_seq ?_ | refine runs_block ?_ | refine next_normal ?_ | refine inside_normal ?_ | refine next_exit ?_ | refine inside_exit ?_ | refine inside_other (by decide) ?_ | refine next_ret ?_ | refine inside_ret ?_
              | refine runs_ops_kept ?_ | refine runs_skip ?_ | refine runs_exit ?_ | refine runs_ret ?_
              | refine ops_op rfl rfl (by decide) (by simp only [evOp, opd, constAV, constCell, Ev.get, reduceIte, Nat.reduceEqDiff, reduceCtorEq, evBinN, nilCmp, evBin, evInt, evUn, evConvert, evBuiltin, evLen, evField, evPart, tStr, tInt, tElem, tArr, tBool, tAgg, tField, Try.underlying3, Try.underlying4, Try.underlying5, Try.underlying9, Try.underlying26, Try.underlying29, Try.underlying34, Try.underlying40, Try.underlying45, Try.underlying56, Try.underlying134, List.zipWith, Option.map_some, Option.map_none, List.length_cons, List.length_nil, ne_eq, Int.reduceEq, not_false_eq_true, and_self, and_true, true_and, sz5, sz3, Option.getD_some, isNil, load5, load3, mk40_0, mk40_1, mk56_0, mk56_1, mk56_2, rowsB_len, rowsI_len, evCall, List.size_toArray, List.append_nil, List.nil_append, List.map_cons, List.map_nil, argAV, argCell, List.toList_toArray, fieldTy, t28, f28, t29, f29, a1, a2, t30, f30, t31, f31, t32, t33, f33, bne_self_eq_false]; rfl) (fun h => by first | rfl | (simp at h; done)) ?_
              | refine ops_yes rfl rfl (by simp only [Ev.get, reduceIte, Nat.reduceEqDiff, sz5, sz3, Option.getD_some, isNil, load5, load3, mk40_0, mk40_1, mk56_0, mk56_1, mk56_2, rowsB_len, rowsI_len, t28, f28, t29, f29, a1, a2, t30, f30, t31, f31, t32, t33, f33, bne_self_eq_false]; first | done | rfl) rfl (by decide) (by simp only [evOp, opd, constAV, constCell, Ev.get, reduceIte, Nat.reduceEqDiff, reduceCtorEq, evBinN, nilCmp, evBin, evInt, evUn, evConvert, evBuiltin, evLen, evField, evPart, tStr, tInt, tElem, tArr, tBool, tAgg, tField, Try.underlying3, Try.underlying4, Try.underlying5, Try.underlying9, Try.underlying26, Try.underlying29, Try.underlying34, Try.underlying40, Try.underlying45, Try.underlying56, Try.underlying134, List.zipWith, Option.map_some, Option.map_none, List.length_cons, List.length_nil, ne_eq, Int.reduceEq, not_false_eq_true, and_self, and_true, true_and, sz5, sz3, Option.getD_some, isNil, load5, load3, mk40_0, mk40_1, mk56_0, mk56_1, mk56_2, rowsB_len, rowsI_len, evCall, List.size_toArray, List.append_nil, List.nil_append, List.map_cons, List.map_nil, argAV, argCell, List.toList_toArray, fieldTy, t28, f28, t29, f29, a1, a2, t30, f30, t31, f31, t32, t33, f33, bne_self_eq_false]; rfl) (fun h => by first | rfl | (simp at h; done)) ?_
              | refine ops_no rfl rfl (by simp only [Ev.get, reduceIte, Nat.reduceEqDiff, sz5, sz3, Option.getD_some, isNil, load5, load3, mk40_0, mk40_1, mk56_0, mk56_1, mk56_2, rowsB_len, rowsI_len, t28, f28, t29, f29, a1, a2, t30, f30, t31, f31, t32, t33, f33, bne_self_eq_false]; first | done | rfl) (by decide) rfl (by decide) ?_
              | refine ops_off rfl rfl rfl rfl (by decide) ?_
              | (refine ops_nil ?_; intro e2 h2; simp only [restr, kp7, List.map_cons, List.map_nil, Ev.get, reduceIte, Nat.reduceEqDiff] at h2; subst h2))
            refine runs_cond rfl (fun hc => by cases hc) (fun hc => ?_)
            repeat (first
              | refine runs_seq ?_ | refine runs_block ?_ | refine next_normal ?_ | refine inside_normal ?_ | refine next_exit ?_ | refine inside_exit ?_ | refine inside_other (by decide) ?_ | refine next_ret ?_ | refine inside_ret ?_
              | refine runs_ops_kept ?_ | refine runs_skip ?_ | refine runs_exit ?_ | refine runs_ret ?_
              | refine ops_op rfl rfl (by decide) (by simp only [evOp, opd, constAV, constCell, Ev.get, reduceIte, Nat.reduceEqDiff, reduceCtorEq, evBinN, nilCmp, evBin, evInt, evUn, evConvert, evBuiltin, evLen, evField, evPart, tStr, tInt, tElem, tArr, tBool, tAgg, tField, Try.underlying3, Try.underlying4, Try.underlying5, Try.underlying9, Try.underlying26, Try.underlying29, Try.underlying34, Try.underlying40, Try.underlying45, Try.underlying56, Try.underlying134, List.zipWith, Option.map_some, Option.map_none, List.length_cons, List.length_nil, ne_eq, Int.reduceEq, not_false_eq_true, and_self, and_true, true_and, sz5, sz3, Option.getD_some, isNil, load5, load3, mk40_0, mk40_1, mk56_0, mk56_1, mk56_2, rowsB_len, rowsI_len, evCall, List.size_toArray, List.append_nil, List.nil_append, List.map_cons, List.map_nil, argAV, argCell, List.toList_toArray, fieldTy, a3, a4, t34, f34, beq_self_eq_true, d10, t27, wake]; rfl) (fun h => by first | rfl | (simp at h; done)) ?_
              | refine ops_yes rfl rfl (by simp only [Ev.get, reduceIte, Nat.reduceEqDiff, sz5, sz3, Option.getD_some, isNil, load5, load3, mk40_0, mk40_1, mk56_0, mk56_1, mk56_2, rowsB_len, rowsI_len, a3, a4, t34, f34, beq_self_eq_true, d10, t27, wake]; first | done | rfl) rfl (by decide) (by simp only [evOp, opd, constAV, constCell, Ev.get, reduceIte, Nat.reduceEqDiff, reduceCtorEq, evBinN, nilCmp, evBin, evInt, evUn, evConvert, evBuiltin, evLen, evField, evPart, tStr, tInt, tElem, tArr, tBool, tAgg, tField, Try.underlying3, Try.underlying4, Try.underlying5, Try.underlying9, Try.underlying26, Try.underlying29, Try.underlying34, Try.underlying40, Try.underlying45, Try.underlying56, Try.underlying134, List.zipWith, Option.map_some, Option.map_none, List.length_cons, List.length_nil, ne_eq, Int.reduceEq, not_false_eq_true, and_self, and_true, true_and, sz5, sz3, Option.getD_some, isNil, load5, load3, mk40_0, mk40_1, mk56_0, mk56_1, mk56_2, rowsB_len, rowsI_len, evCall, List.size_toArray, List.append_nil, List.nil_append, List.map_cons, List.map_nil, argAV, argCell, List.toList_toArray, fieldTy, a3, a4, t34, f34, beq_self_eq_true, d10, t27, wake]; rfl) (fun h => by first | rfl | (simp at h; done)) ?_
              | refine ops_no rfl rfl (by simp only [Ev.get, reduceIte, Nat.reduceEqDiff, sz5, sz3, Option.getD_some, isNil, load5, load3, mk40_0, mk40_1, mk56_0, mk56_1, mk56_2, rowsB_len, rowsI_len, a3, a4, t34, f34, beq_self_eq_true, d10, t27, wake]; first | done | rfl) (by decide) rfl (by decide) ?_
              | refine ops_off rfl rfl rfl rfl (by decide) ?_
              | (refine ops_nil ?_; intro e2 h2; simp only [restr, kp7, List.map_cons, List.map_nil, Ev.get, reduceIte, Nat.reduceEqDiff] at h2; subst h2))
            exact leaves_fin rfl rfl fin_tk
      · cases h
    · cases h
  · cases h
end Go.Proofs.Ytbehhlbcffbkoaa.Ev
