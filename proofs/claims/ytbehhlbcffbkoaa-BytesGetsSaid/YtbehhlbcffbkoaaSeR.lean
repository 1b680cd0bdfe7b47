/- Bytes: the law Gets. -/
import Derived.Test.YtbehhlbcffbkoaaSeP
namespace Go.Proofs.Ytbehhlbcffbkoaa.Ev
open Go Go.Proofs
set_option maxRecDepth 10000
set_option linter.unusedVariables false
set_option linter.unusedSimpArgs false
attribute [local irreducible] Next Inside Runs Ops table
theorem getOf_back {l : List Nat} (hok : OkB l) (h : (getOf l).2 ≠ 0) : codeB (foldOf (getOf l).1) = l.take (getOf l).2 := by
  rcases hg : getOf l with ⟨v, n⟩
  rw [hg] at h
  obtain ⟨y, rest, h1, h2, h3, h4, h5⟩ := getL_conv l 0 0 v n (by decide) (by decide) hok hg h
  rw [Nat.pow_zero, Nat.one_mul, Nat.zero_add] at h2 h4
  rw [Nat.zero_add] at h5
  simp only [h4, fold_unfold, h5]
  rw [h1]
  simp
def getsLawG : List AV → Mem → Option (AV × Mem)
  | [.lst _ 1 r0, .v (.int .u64 u)], m =>
    match unB r0 with
    | some _ => if 0 ≤ u ∧ u < 18446744073709551616 then some (.v (.bool true), m) else none
    | _ => none
  | _, _ => none
def tab8 : List (FuncId × (List AV → Mem → Option (AV × Mem))) := [(27, yesG), (29, codeG), (30, getG), (31, foldG), (33, unfoldG), (34, sameG), (35, getG)]
def kp8 : Nat → Option (List Nat) := fun _ => some [0, 1, 4, 5, 6, 7, 8, 11, 37]
theorem getsLaw_ok : FunOk Try.prog 8 getsLawG := by
  have hC := table_ok (P := Try.prog) (l := tab8) (table_more awake40_ok (table_more code_ok (table_more get_ok (table_more fold_ok (table_more unfold_ok (table_more same_ok (table_more refGet_ok table_nil)))))))
  refine fun_ok mixed hC Try.func8 rfl kp8 false rfl fun args m r h => ?_
  unfold getsLawG at h
  split at h
  · rename_i g0 r0 u0
    split at h
    · rename_i l e0
      obtain ⟨rfl, ok0⟩ := unB_some e0
      split at h
      · rename_i hn
        simp only [Option.some.injEq] at h
        subst h
        obtain ⟨u, rfl⟩ := Int.eq_ofNat_of_zero_le hn.1
        have hu : u < 18446744073709551616 := by omega
        refine ⟨Nat.le_of_ble_eq_true rfl, ?_⟩
        simp only [entry, List.length_cons, List.length_nil, List.range, List.range.loop, List.zip_cons_cons, List.zip_nil_right]
        have t27 := fun args mm => table_at (l := tab8) (f := 27) (args := args) (m := mm) rfl
        have t29 := fun args mm => table_at (l := tab8) (f := 29) (args := args) (m := mm) rfl
        have t30 := fun args mm => table_at (l := tab8) (f := 30) (args := args) (m := mm) rfl
        have t31 := fun args mm => table_at (l := tab8) (f := 31) (args := args) (m := mm) rfl
        have t33 := fun args mm => table_at (l := tab8) (f := 33) (args := args) (m := mm) rfl
        have t34 := fun args mm => table_at (l := tab8) (f := 34) (args := args) (m := mm) rfl
        have t35 := fun args mm => table_at (l := tab8) (f := 35) (args := args) (m := mm) rfl
        have wake : ∀ mm, yesG [] mm = some (.v (.bool true), mm) := fun _ => rfl
        repeat (first
          | refine runs_seq ?_ | refine runs_block ?_ | refine next_normal ?_ | refine inside_normal ?_ | refine next_exit ?_ | refine inside_exit ?_ | refine inside_other (by decide) ?_ | refine next_ret ?_ | refine inside_ret ?_
          | refine runs_ops_kept ?_ | refine runs_skip ?_ | refine runs_exit ?_ | refine runs_ret ?_
          | refine ops_op rfl rfl (by decide) (by simp only [evOp, opd, constAV, constCell, Ev.get, reduceIte, Nat.reduceEqDiff, reduceCtorEq, evBinN, nilCmp, evBin, evInt, evUn, evConvert, evBuiltin, evLen, evField, evPart, tStr, tInt, tElem, tArr, tBool, tAgg, tField, Try.underlying3, Try.underlying4, Try.underlying5, Try.underlying9, Try.underlying26, Try.underlying29, Try.underlying34, Try.underlying40, Try.underlying45, Try.underlying56, Try.underlying134, List.zipWith, Option.map_some, Option.map_none, List.length_cons, List.length_nil, ne_eq, Int.reduceEq, not_false_eq_true, and_self, and_true, true_and, sz5, sz3, Option.getD_some, isNil, load5, load3, mk40_0, mk40_1, mk56_0, mk56_1, mk56_2, rowsB_len, rowsI_len, evCall, List.size_toArray, List.append_nil, List.nil_append, List.map_cons, List.map_nil, argAV, argCell, List.toList_toArray, fieldTy]; rfl) (fun h => by first | rfl | (simp at h; done)) ?_
          | refine ops_yes rfl rfl (by simp only [Ev.get, reduceIte, Nat.reduceEqDiff, sz5, sz3, Option.getD_some, isNil, load5, load3, mk40_0, mk40_1, mk56_0, mk56_1, mk56_2, rowsB_len, rowsI_len]; first | done | rfl) rfl (by decide) (by simp only [evOp, opd, constAV, constCell, Ev.get, reduceIte, Nat.reduceEqDiff, reduceCtorEq, evBinN, nilCmp, evBin, evInt, evUn, evConvert, evBuiltin, evLen, evField, evPart, tStr, tInt, tElem, tArr, tBool, tAgg, tField, Try.underlying3, Try.underlying4, Try.underlying5, Try.underlying9, Try.underlying26, Try.underlying29, Try.underlying34, Try.underlying40, Try.underlying45, Try.underlying56, Try.underlying134, List.zipWith, Option.map_some, Option.map_none, List.length_cons, List.length_nil, ne_eq, Int.reduceEq, not_false_eq_true, and_self, and_true, true_and, sz5, sz3, Option.getD_some, isNil, load5, load3, mk40_0, mk40_1, mk56_0, mk56_1, mk56_2, rowsB_len, rowsI_len, evCall, List.size_toArray, List.append_nil, List.nil_append, List.map_cons, List.map_nil, argAV, argCell, List.toList_toArray, fieldTy]; rfl) (fun h => by first | rfl | (simp at h; done)) ?_
          | refine ops_no rfl rfl (by simp only [Ev.get, reduceIte, Nat.reduceEqDiff, sz5, sz3, Option.getD_some, isNil, load5, load3, mk40_0, mk40_1, mk56_0, mk56_1, mk56_2, rowsB_len, rowsI_len]; first | done | rfl) (by decide) rfl (by decide) ?_
          | refine ops_off rfl rfl rfl rfl (by decide) ?_
          | (refine ops_nil ?_; intro e2 h2; simp only [restr, kp8, List.map_cons, List.map_nil, Ev.get, reduceIte, Nat.reduceEqDiff] at h2; subst h2))
        refine runs_cond rfl (fun hc => ?_) (fun hc => ?_)
        · repeat (first
            | refine runs_seq ?_ | refine runs_block ?_ | refine next_normal ?_ | refine inside_normal ?_ | refine next_exit ?_ | refine inside_exit ?_ | refine inside_other (by decide) ?_ | refine next_ret ?_ | refine inside_ret ?_
            | refine runs_ops_kept ?_ | refine runs_skip ?_ | refine runs_exit ?_ | refine runs_ret ?_
            | refine ops_op rfl rfl (by decide) (by simp only [evOp, opd, constAV, constCell, Ev.get, reduceIte, Nat.reduceEqDiff, reduceCtorEq, evBinN, nilCmp, evBin, evInt, evUn, evConvert, evBuiltin, evLen, evField, evPart, tStr, tInt, tElem, tArr, tBool, tAgg, tField, Try.underlying3, Try.underlying4, Try.underlying5, Try.underlying9, Try.underlying26, Try.underlying29, Try.underlying34, Try.underlying40, Try.underlying45, Try.underlying56, Try.underlying134, List.zipWith, Option.map_some, Option.map_none, List.length_cons, List.length_nil, ne_eq, Int.reduceEq, not_false_eq_true, and_self, and_true, true_and, sz5, sz3, Option.getD_some, isNil, load5, load3, mk40_0, mk40_1, mk56_0, mk56_1, mk56_2, rowsB_len, rowsI_len, evCall, List.size_toArray, List.append_nil, List.nil_append, List.map_cons, List.map_nil, argAV, argCell, List.toList_toArray, fieldTy, t27, wake]; rfl) (fun h => by first | rfl | (simp at h; done)) ?_
            | refine ops_yes rfl rfl (by simp only [Ev.get, reduceIte, Nat.reduceEqDiff, sz5, sz3, Option.getD_some, isNil, load5, load3, mk40_0, mk40_1, mk56_0, mk56_1, mk56_2, rowsB_len, rowsI_len, t27, wake]; first | done | rfl) rfl (by decide) (by simp only [evOp, opd, constAV, constCell, Ev.get, reduceIte, Nat.reduceEqDiff, reduceCtorEq, evBinN, nilCmp, evBin, evInt, evUn, evConvert, evBuiltin, evLen, evField, evPart, tStr, tInt, tElem, tArr, tBool, tAgg, tField, Try.underlying3, Try.underlying4, Try.underlying5, Try.underlying9, Try.underlying26, Try.underlying29, Try.underlying34, Try.underlying40, Try.underlying45, Try.underlying56, Try.underlying134, List.zipWith, Option.map_some, Option.map_none, List.length_cons, List.length_nil, ne_eq, Int.reduceEq, not_false_eq_true, and_self, and_true, true_and, sz5, sz3, Option.getD_some, isNil, load5, load3, mk40_0, mk40_1, mk56_0, mk56_1, mk56_2, rowsB_len, rowsI_len, evCall, List.size_toArray, List.append_nil, List.nil_append, List.map_cons, List.map_nil, argAV, argCell, List.toList_toArray, fieldTy, t27, wake]; rfl) (fun h => by first | rfl | (simp at h; done)) ?_
            | refine ops_no rfl rfl (by simp only [Ev.get, reduceIte, Nat.reduceEqDiff, sz5, sz3, Option.getD_some, isNil, load5, load3, mk40_0, mk40_1, mk56_0, mk56_1, mk56_2, rowsB_len, rowsI_len, t27, wake]; first | done | rfl) (by decide) rfl (by decide) ?_
            | refine ops_off rfl rfl rfl rfl (by decide) ?_
            | (refine ops_nil ?_; intro e2 h2; simp only [restr, kp8, List.map_cons, List.map_nil, Ev.get, reduceIte, Nat.reduceEqDiff] at h2; subst h2))
          exact leaves_v rfl rfl
        · have b0 := of_decide_eq_false hc
          have f30 := fun mm => getG_eq (g := .no) (m := mm) ok0 (by omega)
          have f33 := fun mm => unfold_eq (m := mm) hu
          have f31 := fun mm => fold_eq (m := mm) (unfoldOf_in hu)
          rw [fold_unfold] at f31
          have hin := getOf_in ok0
          have hle := getOf_le l
          have hback := getOf_back ok0
          generalize getOf l = G at f30 hin hle hback
          obtain ⟨v, n⟩ := G
          simp only at f30 hin hle hback
          have f29 := fun mm => codeG_eq (m := mm) hin.1
          repeat (first
            | refine runs_seq ?_ | refine runs_block ?_ | refine next_normal ?_ | refine inside_normal ?_ | refine next_exit ?_ | refine inside_exit ?_ | refine inside_other (by decide) ?_ | refine next_ret ?_ | refine inside_ret ?_
            | refine runs_ops_kept ?_ | refine runs_skip ?_ | refine runs_exit ?_ | refine runs_ret ?_
            | refine ops_op rfl rfl (by decide) (by simp only [evOp, opd, constAV, constCell, Ev.get, reduceIte, Nat.reduceEqDiff, reduceCtorEq, evBinN, nilCmp, evBin, evInt, evUn, evConvert, evBuiltin, evLen, evField, evPart, tStr, tInt, tElem, tArr, tBool, tAgg, tField, Try.underlying3, Try.underlying4, Try.underlying5, Try.underlying9, Try.underlying26, Try.underlying29, Try.underlying34, Try.underlying40, Try.underlying45, Try.underlying56, Try.underlying134, List.zipWith, Option.map_some, Option.map_none, List.length_cons, List.length_nil, ne_eq, Int.reduceEq, not_false_eq_true, and_self, and_true, true_and, sz5, sz3, Option.getD_some, isNil, load5, load3, mk40_0, mk40_1, mk56_0, mk56_1, mk56_2, rowsB_len, rowsI_len, evCall, List.size_toArray, List.append_nil, List.nil_append, List.map_cons, List.map_nil, argAV, argCell, List.toList_toArray, fieldTy, t30, f30, t35, bne_self_eq_false, t33, f33, t31, f31]; rfl) (fun h => by first | rfl | (simp at h; done)) ?_
            | refine ops_yes rfl rfl (by simp only [Ev.get, reduceIte, Nat.reduceEqDiff, sz5, sz3, Option.getD_some, isNil, load5, load3, mk40_0, mk40_1, mk56_0, mk56_1, mk56_2, rowsB_len, rowsI_len, t30, f30, t35, bne_self_eq_false, t33, f33, t31, f31]; first | done | rfl) rfl (by decide) (by simp only [evOp, opd, constAV, constCell, Ev.get, reduceIte, Nat.reduceEqDiff, reduceCtorEq, evBinN, nilCmp, evBin, evInt, evUn, evConvert, evBuiltin, evLen, evField, evPart, tStr, tInt, tElem, tArr, tBool, tAgg, tField, Try.underlying3, Try.underlying4, Try.underlying5, Try.underlying9, Try.underlying26, Try.underlying29, Try.underlying34, Try.underlying40, Try.underlying45, Try.underlying56, Try.underlying134, List.zipWith, Option.map_some, Option.map_none, List.length_cons, List.length_nil, ne_eq, Int.reduceEq, not_false_eq_true, and_self, and_true, true_and, sz5, sz3, Option.getD_some, isNil, load5, load3, mk40_0, mk40_1, mk56_0, mk56_1, mk56_2, rowsB_len, rowsI_len, evCall, List.size_toArray, List.append_nil, List.nil_append, List.map_cons, List.map_nil, argAV, argCell, List.toList_toArray, fieldTy, t30, f30, t35, bne_self_eq_false, t33, f33, t31, f31]; rfl) (fun h => by first | rfl | (simp at h; done)) ?_
            | refine ops_no rfl rfl (by simp only [Ev.get, reduceIte, Nat.reduceEqDiff, sz5, sz3, Option.getD_some, isNil, load5, load3, mk40_0, mk40_1, mk56_0, mk56_1, mk56_2, rowsB_len, rowsI_len, t30, f30, t35, bne_self_eq_false, t33, f33, t31, f31]; first | done | rfl) (by decide) rfl (by decide) ?_
            | refine ops_off rfl rfl rfl rfl (by decide) ?_
            | (refine ops_nil ?_; intro e2 h2; simp only [restr, kp8, List.map_cons, List.map_nil, Ev.get, reduceIte, Nat.reduceEqDiff] at h2; subst h2))
          refine runs_cond rfl (fun hc => by cases hc) (fun hc => ?_)
          repeat (first
            | refine runs_seq ?_ | refine runs_block ?_ | refine next_normal ?_ | refine inside_normal ?_ | refine next_exit ?_ | refine inside_exit ?_ | refine inside_other (by decide) ?_ | refine next_ret ?_ | refine inside_ret ?_
            | refine runs_ops_kept ?_ | refine runs_skip ?_ | refine runs_exit ?_ | refine runs_ret ?_
            | refine ops_op rfl rfl (by decide) (by simp only [evOp, opd, constAV, constCell, Ev.get, reduceIte, Nat.reduceEqDiff, reduceCtorEq, evBinN, nilCmp, evBin, evInt, evUn, evConvert, evBuiltin, evLen, evField, evPart, tStr, tInt, tElem, tArr, tBool, tAgg, tField, Try.underlying3, Try.underlying4, Try.underlying5, Try.underlying9, Try.underlying26, Try.underlying29, Try.underlying34, Try.underlying40, Try.underlying45, Try.underlying56, Try.underlying134, List.zipWith, Option.map_some, Option.map_none, List.length_cons, List.length_nil, ne_eq, Int.reduceEq, not_false_eq_true, and_self, and_true, true_and, sz5, sz3, Option.getD_some, isNil, load5, load3, mk40_0, mk40_1, mk56_0, mk56_1, mk56_2, rowsB_len, rowsI_len, evCall, List.size_toArray, List.append_nil, List.nil_append, List.map_cons, List.map_nil, argAV, argCell, List.toList_toArray, fieldTy]; rfl) (fun h => by first | rfl | (simp at h; done)) ?_
            | refine ops_yes rfl rfl (by simp only [Ev.get, reduceIte, Nat.reduceEqDiff, sz5, sz3, Option.getD_some, isNil, load5, load3, mk40_0, mk40_1, mk56_0, mk56_1, mk56_2, rowsB_len, rowsI_len]; first | done | rfl) rfl (by decide) (by simp only [evOp, opd, constAV, constCell, Ev.get, reduceIte, Nat.reduceEqDiff, reduceCtorEq, evBinN, nilCmp, evBin, evInt, evUn, evConvert, evBuiltin, evLen, evField, evPart, tStr, tInt, tElem, tArr, tBool, tAgg, tField, Try.underlying3, Try.underlying4, Try.underlying5, Try.underlying9, Try.underlying26, Try.underlying29, Try.underlying34, Try.underlying40, Try.underlying45, Try.underlying56, Try.underlying134, List.zipWith, Option.map_some, Option.map_none, List.length_cons, List.length_nil, ne_eq, Int.reduceEq, not_false_eq_true, and_self, and_true, true_and, sz5, sz3, Option.getD_some, isNil, load5, load3, mk40_0, mk40_1, mk56_0, mk56_1, mk56_2, rowsB_len, rowsI_len, evCall, List.size_toArray, List.append_nil, List.nil_append, List.map_cons, List.map_nil, argAV, argCell, List.toList_toArray, fieldTy]; rfl) (fun h => by first | rfl | (simp at h; done)) ?_
            | refine ops_no rfl rfl (by simp only [Ev.get, reduceIte, Nat.reduceEqDiff, sz5, sz3, Option.getD_some, isNil, load5, load3, mk40_0, mk40_1, mk56_0, mk56_1, mk56_2, rowsB_len, rowsI_len]; first | done | rfl) (by decide) rfl (by decide) ?_
            | refine ops_off rfl rfl rfl rfl (by decide) ?_
            | (refine ops_nil ?_; intro e2 h2; simp only [restr, kp8, List.map_cons, List.map_nil, Ev.get, reduceIte, Nat.reduceEqDiff] at h2; subst h2))
          refine runs_ops_drawn_kept (by kernel_rfl) ?_
          by_cases h0 : n = 0
          · have b1 : ((n : Int) == 0) = true := by subst h0; rfl
            repeat (first
              | refine runs_seq ?_ | refine runs_block ?_ | refine next_normal ?_ | refine inside_normal ?_ | refine next_exit ?_ | refine inside_exit ?_ | refine inside_other (by decide) ?_ | refine next_ret ?_ | refine inside_ret ?_
              | refine runs_ops_kept ?_ | refine runs_skip ?_ | refine runs_exit ?_ | refine runs_ret ?_
              | refine ops_op rfl rfl (by decide) (by simp only [evOp, opd, constAV, constCell, Ev.get, reduceIte, Nat.reduceEqDiff, reduceCtorEq, evBinN, nilCmp, evBin, evInt, evUn, evConvert, evBuiltin, evLen, evField, evPart, tStr, tInt, tElem, tArr, tBool, tAgg, tField, Try.underlying3, Try.underlying4, Try.underlying5, Try.underlying9, Try.underlying26, Try.underlying29, Try.underlying34, Try.underlying40, Try.underlying45, Try.underlying56, Try.underlying134, List.zipWith, Option.map_some, Option.map_none, List.length_cons, List.length_nil, ne_eq, Int.reduceEq, not_false_eq_true, and_self, and_true, true_and, sz5, sz3, Option.getD_some, isNil, load5, load3, mk40_0, mk40_1, mk56_0, mk56_1, mk56_2, rowsB_len, rowsI_len, evCall, List.size_toArray, List.append_nil, List.nil_append, List.map_cons, List.map_nil, argAV, argCell, List.toList_toArray, fieldTy, b1, t27, wake]; rfl) (fun h => by first | rfl | (simp at h; done)) ?_
              | refine ops_yes rfl rfl (by simp only [Ev.get, reduceIte, Nat.reduceEqDiff, sz5, sz3, Option.getD_some, isNil, load5, load3, mk40_0, mk40_1, mk56_0, mk56_1, mk56_2, rowsB_len, rowsI_len, b1, t27, wake]; first | done | rfl) rfl (by decide) (by simp only [evOp, opd, constAV, constCell, Ev.get, reduceIte, Nat.reduceEqDiff, reduceCtorEq, evBinN, nilCmp, evBin, evInt, evUn, evConvert, evBuiltin, evLen, evField, evPart, tStr, tInt, tElem, tArr, tBool, tAgg, tField, Try.underlying3, Try.underlying4, Try.underlying5, Try.underlying9, Try.underlying26, Try.underlying29, Try.underlying34, Try.underlying40, Try.underlying45, Try.underlying56, Try.underlying134, List.zipWith, Option.map_some, Option.map_none, List.length_cons, List.length_nil, ne_eq, Int.reduceEq, not_false_eq_true, and_self, and_true, true_and, sz5, sz3, Option.getD_some, isNil, load5, load3, mk40_0, mk40_1, mk56_0, mk56_1, mk56_2, rowsB_len, rowsI_len, evCall, List.size_toArray, List.append_nil, List.nil_append, List.map_cons, List.map_nil, argAV, argCell, List.toList_toArray, fieldTy, b1, t27, wake]; rfl) (fun h => by first | rfl | (simp at h; done)) ?_
              | refine ops_no rfl rfl (by simp only [Ev.get, reduceIte, Nat.reduceEqDiff, sz5, sz3, Option.getD_some, isNil, load5, load3, mk40_0, mk40_1, mk56_0, mk56_1, mk56_2, rowsB_len, rowsI_len, b1, t27, wake]; first | done | rfl) (by decide) rfl (by decide) ?_
              | refine ops_off rfl rfl rfl rfl (by decide) ?_
              | (refine ops_nil ?_; intro e2 h2; simp only [restr, kp8, List.map_cons, List.map_nil, Ev.get, reduceIte, Nat.reduceEqDiff] at h2; subst h2))
            exact leaves_v rfl rfl
          · have b1 : ((n : Int) == 0) = false := beq_eq_false_iff_ne.2 (by omega)
            have f3 := slice_to (P := Try.prog) (m := m) (g := g0) (kk := .i64) el40 sz5 (show n ≤ (rowsB l).length by rw [rowsB_len]; exact hle)
            rw [rowsB_take] at f3
            have f34 := fun mm => sameG_eq (m := mm) (g := .no) (g2 := .no) (code_okB (foldOf v)) (ok0.take n) (by have := code_ten (foldOf_lt hin.1); omega) (by rw [List.length_take]; omega)
            rw [decide_eq_true (hback h0)] at f34
            repeat (first
              | refine runs_seq ?_ | refine runs_block ?_ | refine next_normal ?_ | refine inside_normal ?_ | refine next_exit ?_ | refine inside_exit ?_ | refine inside_other (by decide) ?_ | refine next_ret ?_ | refine inside_ret ?_
              | refine runs_ops_kept ?_ | refine runs_skip ?_ | refine runs_exit ?_ | refine runs_ret ?_
              | refine ops_op rfl rfl (by decide) (by simp only [evOp, opd, constAV, constCell, Ev.get, reduceIte, Nat.reduceEqDiff, reduceCtorEq, evBinN, nilCmp, evBin, evInt, evUn, evConvert, evBuiltin, evLen, evField, evPart, tStr, tInt, tElem, tArr, tBool, tAgg, tField, Try.underlying3, Try.underlying4, Try.underlying5, Try.underlying9, Try.underlying26, Try.underlying29, Try.underlying34, Try.underlying40, Try.underlying45, Try.underlying56, Try.underlying134, List.zipWith, Option.map_some, Option.map_none, List.length_cons, List.length_nil, ne_eq, Int.reduceEq, not_false_eq_true, and_self, and_true, true_and, sz5, sz3, Option.getD_some, isNil, load5, load3, mk40_0, mk40_1, mk56_0, mk56_1, mk56_2, rowsB_len, rowsI_len, evCall, List.size_toArray, List.append_nil, List.nil_append, List.map_cons, List.map_nil, argAV, argCell, List.toList_toArray, fieldTy, b1, t29, f29, f3, t34, f34, t27, wake]; rfl) (fun h => by first | rfl | (simp at h; done)) ?_
              | refine ops_yes rfl rfl (by simp only [Ev.get, reduceIte, Nat.reduceEqDiff, sz5, sz3, Option.getD_some, isNil, load5, load3, mk40_0, mk40_1, mk56_0, mk56_1, mk56_2, rowsB_len, rowsI_len, b1, t29, f29, f3, t34, f34, t27, wake]; first | done | rfl) rfl (by decide) (by simp only [evOp, opd, constAV, constCell, Ev.get, reduceIte, Nat.reduceEqDiff, reduceCtorEq, evBinN, nilCmp, evBin, evInt, evUn, evConvert, evBuiltin, evLen, evField, evPart, tStr, tInt, tElem, tArr, tBool, tAgg, tField, Try.underlying3, Try.underlying4, Try.underlying5, Try.underlying9, Try.underlying26, Try.underlying29, Try.underlying34, Try.underlying40, Try.underlying45, Try.underlying56, Try.underlying134, List.zipWith, Option.map_some, Option.map_none, List.length_cons, List.length_nil, ne_eq, Int.reduceEq, not_false_eq_true, and_self, and_true, true_and, sz5, sz3, Option.getD_some, isNil, load5, load3, mk40_0, mk40_1, mk56_0, mk56_1, mk56_2, rowsB_len, rowsI_len, evCall, List.size_toArray, List.append_nil, List.nil_append, List.map_cons, List.map_nil, argAV, argCell, List.toList_toArray, fieldTy, b1, t29, f29, f3, t34, f34, t27, wake]; rfl) (fun h => by first | rfl | (simp at h; done)) ?_
              | refine ops_no rfl rfl (by simp only [Ev.get, reduceIte, Nat.reduceEqDiff, sz5, sz3, Option.getD_some, isNil, load5, load3, mk40_0, mk40_1, mk56_0, mk56_1, mk56_2, rowsB_len, rowsI_len, b1, t29, f29, f3, t34, f34, t27, wake]; first | done | rfl) (by decide) rfl (by decide) ?_
              | refine ops_off rfl rfl rfl rfl (by decide) ?_
              | (refine ops_nil ?_; intro e2 h2; simp only [restr, kp8, List.map_cons, List.map_nil, Ev.get, reduceIte, Nat.reduceEqDiff] at h2; subst h2))
            exact leaves_v rfl rfl
      · cases h
    · cases h
  · cases h
end Go.Proofs.Ytbehhlbcffbkoaa.Ev
