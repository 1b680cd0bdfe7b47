/- Names: awake, and the two laws. -/
import Derived.Test.YtbehhlbcffbkoaaCoF
namespace Go.Proofs.Ytbehhlbcffbkoaa.Ev
open Go Go.Proofs
set_option maxRecDepth 10000
set_option linter.unusedVariables false
set_option linter.unusedSimpArgs false
attribute [local irreducible] Next Inside Runs Ops table
def yesG : List AV → Mem → Option (AV × Mem)
  | [], m => some (.v (.bool true), m)
  | _, _ => none
theorem mkAA : evBuildSlice Try.prog 64 2 [(0, .v (.string ⟨#[97]⟩)), (1, .v (.string ⟨#[97]⟩))] = some (.lst .full 1 (rowsS [⟨#[97]⟩, ⟨#[97]⟩])) := build_rows appStrs (by rfl) rfl (by decide)
def words : List ByteArray := [⟨#[108, 114]⟩, ⟨#[109, 111, 109]⟩, ⟨#[119, 100]⟩]
theorem mkWords : evBuildSlice Try.prog 64 3 [(0, .v (.string ⟨#[108, 114]⟩)), (1, .v (.string ⟨#[109, 111, 109]⟩)), (2, .v (.string ⟨#[119, 100]⟩))] = some (.lst .full 1 (rowsS words)) := build_rows appStrs (by rfl) rfl (by decide)
def tabAwake : List (FuncId × (List AV → Mem → Option (AV × Mem))) := [(49, paramG), (46, isNameG), (48, keywordG), (51, checkG)]
def kpAwake : Nat → Option (List Nat) := fun _ => some [0, 1, 2]
theorem awake_ok : FunOk Try.prog 43 yesG := by
  have hC := table_ok (P := Try.prog) (l := tabAwake) (table_more param_ok (table_more is_ok (table_more keyword_ok (table_more check_ok table_nil))))
  have t1 := fun args mm => table_at (l := tabAwake) (f := 49) (args := args) (m := mm) rfl
  have t2 := fun args mm => table_at (l := tabAwake) (f := 46) (args := args) (m := mm) rfl
  have t3 := fun args mm => table_at (l := tabAwake) (f := 48) (args := args) (m := mm) rfl
  have t4 := fun args mm => table_at (l := tabAwake) (f := 51) (args := args) (m := mm) rfl
  refine fun_ok mixed hC Try.func43 rfl kpAwake false rfl fun args m r h => ?_
  unfold yesG at h
  split at h
  · simp only [Option.some.injEq] at h
    subst h
    refine ⟨Nat.le_of_ble_eq_true rfl, ?_⟩
    simp only [entry, List.length_cons, List.length_nil, List.range, List.range.loop, List.zip_cons_cons, List.zip_nil_right]
    have f1 : ∀ mm, paramG [.v (.string ⟨#[119, 100]⟩)] mm = some (.tup [.v (.int .i64 2), .v (.bool true)], mm) := fun mm => by
      have : paramOf ⟨#[119, 100]⟩ = (2, true) := by decide
      simp only [paramG, this]
    have f2 : ∀ mm, isNameG [.v (.string ⟨#[104, 101, 97, 100, 95, 50]⟩)] mm = some (.v (.bool true), mm) := fun mm => by
      rw [isNameG_eq (by decide)]
      rw [show isName ⟨#[104, 101, 97, 100, 95, 50]⟩ = true by decide]
    have f3 : ∀ mm, isNameG [.v (.string ⟨#[108, 114]⟩)] mm = some (.v (.bool false), mm) := fun mm => by
      rw [isNameG_eq (by decide)]
      rw [show isName ⟨#[108, 114]⟩ = false by decide]
    have f4 : ∀ mm, keywordG [.v (.string ⟨#[108, 114]⟩)] mm = some (.v (.bool true), mm) := fun mm => by
      have : keyword ⟨#[108, 114]⟩ = true := by decide
      simp only [keywordG, this]
    have f5 : ∀ mm, isNameG [.v (.string ⟨#[50, 97]⟩)] mm = some (.v (.bool false), mm) := fun mm => by
      rw [isNameG_eq (by decide)]
      rw [show isName ⟨#[50, 97]⟩ = false by decide]
    have f6 : ∀ mm, checkG [.lst .no 1 (rowsS [⟨#[97]⟩, ⟨#[97]⟩]), .v (.int .i64 2)] mm = some (.v (.int .i64 11), mm) := fun mm => by
      rw [checkG_eq (by decide)]
      rw [show checkOf [⟨#[97]⟩, ⟨#[97]⟩] 2 = 11 by decide]
    have b1 : (!false) = true := rfl
    repeat (first
      | refine runs_seq ?_ | refine runs_block ?_ | refine next_normal ?_ | refine inside_normal ?_ | refine next_exit ?_ | refine inside_exit ?_ | refine inside_other (by decide) ?_ | refine next_ret ?_ | refine inside_ret ?_
      | refine runs_ops_kept ?_ | refine runs_skip ?_ | refine runs_exit ?_ | refine runs_ret ?_
      | refine ops_op rfl rfl (by decide) (by simp only [evOp, opd, constAV, constCell, Ev.get, reduceIte, Nat.reduceEqDiff, reduceCtorEq, evBinN, nilCmp, evBin, evInt, evUn, evConvert, evBuiltin, evLen, evField, evPart, tStr, tInt, tElem, tArr, tBool, tAgg, tField, Try.underlying9, Try.underlying3, Try.underlying4, Try.underlying5, Try.underlying21, Try.underlying45, Try.underlying64, Try.underlying56, Try.underlying40, Try.underlying34, Try.underlying2, Try.underlying26, List.zipWith, Option.map_some, Option.map_none, List.length_cons, List.length_nil, ne_eq, Int.reduceEq, not_false_eq_true, and_self, and_true, true_and, szStr, szInt, Option.getD_some, isNil, loadStr, loadInt, mkInts0, mkInts1, mkStrs0, mkStrs1, rowsS_len, rowsI_len, evStr, mkAA, mkWords, evCall, List.size_toArray, List.append_nil, List.nil_append, List.map_cons, List.map_nil, argAV, argCell, List.toList_toArray, fieldTy, t1, f1, t2, f2, f3, t3, f4, f5, b1, t4, f6]; rfl) (fun h => by first | rfl | (simp at h; done)) ?_
      | refine ops_yes rfl rfl (by simp only [Ev.get, reduceIte, Nat.reduceEqDiff, szStr, szInt, Option.getD_some, isNil, loadStr, loadInt, mkInts0, mkInts1, mkStrs0, mkStrs1, rowsS_len, rowsI_len, evStr, mkAA, mkWords, t1, f1, t2, f2, f3, t3, f4, f5, b1, t4, f6]; first | done | rfl) rfl (by decide) (by simp only [evOp, opd, constAV, constCell, Ev.get, reduceIte, Nat.reduceEqDiff, reduceCtorEq, evBinN, nilCmp, evBin, evInt, evUn, evConvert, evBuiltin, evLen, evField, evPart, tStr, tInt, tElem, tArr, tBool, tAgg, tField, Try.underlying9, Try.underlying3, Try.underlying4, Try.underlying5, Try.underlying21, Try.underlying45, Try.underlying64, Try.underlying56, Try.underlying40, Try.underlying34, Try.underlying2, Try.underlying26, List.zipWith, Option.map_some, Option.map_none, List.length_cons, List.length_nil, ne_eq, Int.reduceEq, not_false_eq_true, and_self, and_true, true_and, szStr, szInt, Option.getD_some, isNil, loadStr, loadInt, mkInts0, mkInts1, mkStrs0, mkStrs1, rowsS_len, rowsI_len, evStr, mkAA, mkWords, evCall, List.size_toArray, List.append_nil, List.nil_append, List.map_cons, List.map_nil, argAV, argCell, List.toList_toArray, fieldTy, t1, f1, t2, f2, f3, t3, f4, f5, b1, t4, f6]; rfl) (fun h => by first | rfl | (simp at h; done)) ?_
      | refine ops_no rfl rfl (by simp only [Ev.get, reduceIte, Nat.reduceEqDiff, szStr, szInt, Option.getD_some, isNil, loadStr, loadInt, mkInts0, mkInts1, mkStrs0, mkStrs1, rowsS_len, rowsI_len, evStr, mkAA, mkWords, t1, f1, t2, f2, f3, t3, f4, f5, b1, t4, f6]; first | done | rfl) (by decide) rfl (by decide) ?_
      | refine ops_off rfl rfl rfl rfl (by decide) ?_
      | (refine ops_nil ?_; intro e2 h2; simp only [restr, kpAwake, List.map_cons, List.map_nil, Ev.get, reduceIte, Nat.reduceEqDiff] at h2; subst h2))
    exact leaves_v rfl rfl
  · cases h
theorem yes_eq : ∀ mm, yesG [] mm = some (.v (.bool true), mm) := fun _ => rfl
/-! ### NamesIs -/
def namesIsLawG : List AV → Mem → Option (AV × Mem)
  | [.v (.string s)], m => if s.size ≤ 9223372036854775807 then some (.v (.bool true), m) else none
  | _, _ => none
def tabLaw10 : List (FuncId × (List AV → Mem → Option (AV × Mem))) := [(43, yesG), (44, placeG), (45, keywordsG), (46, isNameG), (47, isNameG), (48, keywordG)]
def kpNamesIs : Nat → Option (List Nat) := fun _ => some [0, 2, 3, 6]
theorem namesIsLaw_ok : FunOk Try.prog 12 namesIsLawG := by
  have hC := table_ok (P := Try.prog) (l := tabLaw10) (table_more awake_ok (table_more refPlace_ok (table_more keywords_ok (table_more is_ok (table_more refIs_ok (table_more keyword_ok table_nil))))))
  have t1 := fun args mm => table_at (l := tabLaw10) (f := 43) (args := args) (m := mm) rfl
  have t2 := fun args mm => table_at (l := tabLaw10) (f := 44) (args := args) (m := mm) rfl
  have t3 := fun args mm => table_at (l := tabLaw10) (f := 45) (args := args) (m := mm) rfl
  have t4 := fun args mm => table_at (l := tabLaw10) (f := 46) (args := args) (m := mm) rfl
  have t5 := fun args mm => table_at (l := tabLaw10) (f := 47) (args := args) (m := mm) rfl
  have t6 := fun args mm => table_at (l := tabLaw10) (f := 48) (args := args) (m := mm) rfl
  refine fun_ok mixed hC Try.func12 rfl kpNamesIs false rfl fun args m r h => ?_
  unfold namesIsLawG at h
  split at h
  · rename_i s
    split at h
    · rename_i hs
      simp only [Option.some.injEq] at h
      subst h
      refine ⟨Nat.le_of_ble_eq_true rfl, ?_⟩
      simp only [entry, List.length_cons, List.length_nil, List.range, List.range.loop, List.zip_cons_cons, List.zip_nil_right]
      repeat (first
        | refine runs_seq ?_ | refine runs_block ?_ | refine next_normal ?_ | refine inside_normal ?_ | refine next_exit ?_ | refine inside_exit ?_ | refine inside_other (by decide) ?_ | refine next_ret ?_ | refine inside_ret ?_
        | refine runs_ops_kept ?_ | refine runs_skip ?_ | refine runs_exit ?_ | refine runs_ret ?_
        | refine ops_op rfl rfl (by decide) (by simp only [evOp, opd, constAV, constCell, Ev.get, reduceIte, Nat.reduceEqDiff, reduceCtorEq, evBinN, nilCmp, evBin, evInt, evUn, evConvert, evBuiltin, evLen, evField, evPart, tStr, tInt, tElem, tArr, tBool, tAgg, tField, Try.underlying9, Try.underlying3, Try.underlying4, Try.underlying5, Try.underlying21, Try.underlying45, Try.underlying64, Try.underlying56, Try.underlying40, Try.underlying34, Try.underlying2, Try.underlying26, List.zipWith, Option.map_some, Option.map_none, List.length_cons, List.length_nil, ne_eq, Int.reduceEq, not_false_eq_true, and_self, and_true, true_and, szStr, szInt, Option.getD_some, isNil, loadStr, loadInt, mkInts0, mkInts1, mkStrs0, mkStrs1, rowsS_len, rowsI_len, evStr, mkAA, mkWords, evCall, List.size_toArray, List.append_nil, List.nil_append, List.map_cons, List.map_nil, argAV, argCell, List.toList_toArray, fieldTy]; rfl) (fun h => by first | rfl | (simp at h; done)) ?_
        | refine ops_yes rfl rfl (by simp only [Ev.get, reduceIte, Nat.reduceEqDiff, szStr, szInt, Option.getD_some, isNil, loadStr, loadInt, mkInts0, mkInts1, mkStrs0, mkStrs1, rowsS_len, rowsI_len, evStr, mkAA, mkWords]; first | done | rfl) rfl (by decide) (by simp only [evOp, opd, constAV, constCell, Ev.get, reduceIte, Nat.reduceEqDiff, reduceCtorEq, evBinN, nilCmp, evBin, evInt, evUn, evConvert, evBuiltin, evLen, evField, evPart, tStr, tInt, tElem, tArr, tBool, tAgg, tField, Try.underlying9, Try.underlying3, Try.underlying4, Try.underlying5, Try.underlying21, Try.underlying45, Try.underlying64, Try.underlying56, Try.underlying40, Try.underlying34, Try.underlying2, Try.underlying26, List.zipWith, Option.map_some, Option.map_none, List.length_cons, List.length_nil, ne_eq, Int.reduceEq, not_false_eq_true, and_self, and_true, true_and, szStr, szInt, Option.getD_some, isNil, loadStr, loadInt, mkInts0, mkInts1, mkStrs0, mkStrs1, rowsS_len, rowsI_len, evStr, mkAA, mkWords, evCall, List.size_toArray, List.append_nil, List.nil_append, List.map_cons, List.map_nil, argAV, argCell, List.toList_toArray, fieldTy]; rfl) (fun h => by first | rfl | (simp at h; done)) ?_
        | refine ops_no rfl rfl (by simp only [Ev.get, reduceIte, Nat.reduceEqDiff, szStr, szInt, Option.getD_some, isNil, loadStr, loadInt, mkInts0, mkInts1, mkStrs0, mkStrs1, rowsS_len, rowsI_len, evStr, mkAA, mkWords]; first | done | rfl) (by decide) rfl (by decide) ?_
        | refine ops_off rfl rfl rfl rfl (by decide) ?_
        | (refine ops_nil ?_; intro e2 h2; simp only [restr, kpNamesIs, List.map_cons, List.map_nil, Ev.get, reduceIte, Nat.reduceEqDiff] at h2; subst h2))
      refine runs_cond rfl (fun hc => ?_) (fun hc => ?_)
      · repeat (first
          | refine runs_seq ?_ | refine runs_block ?_ | refine next_normal ?_ | refine inside_normal ?_ | refine next_exit ?_ | refine inside_exit ?_ | refine inside_other (by decide) ?_ | refine next_ret ?_ | refine inside_ret ?_
          | refine runs_ops_kept ?_ | refine runs_skip ?_ | refine runs_exit ?_ | refine runs_ret ?_
          | refine ops_op rfl rfl (by decide) (by simp only [evOp, opd, constAV, constCell, Ev.get, reduceIte, Nat.reduceEqDiff, reduceCtorEq, evBinN, nilCmp, evBin, evInt, evUn, evConvert, evBuiltin, evLen, evField, evPart, tStr, tInt, tElem, tArr, tBool, tAgg, tField, Try.underlying9, Try.underlying3, Try.underlying4, Try.underlying5, Try.underlying21, Try.underlying45, Try.underlying64, Try.underlying56, Try.underlying40, Try.underlying34, Try.underlying2, Try.underlying26, List.zipWith, Option.map_some, Option.map_none, List.length_cons, List.length_nil, ne_eq, Int.reduceEq, not_false_eq_true, and_self, and_true, true_and, szStr, szInt, Option.getD_some, isNil, loadStr, loadInt, mkInts0, mkInts1, mkStrs0, mkStrs1, rowsS_len, rowsI_len, evStr, mkAA, mkWords, evCall, List.size_toArray, List.append_nil, List.nil_append, List.map_cons, List.map_nil, argAV, argCell, List.toList_toArray, fieldTy, t1, yes_eq]; rfl) (fun h => by first | rfl | (simp at h; done)) ?_
          | refine ops_yes rfl rfl (by simp only [Ev.get, reduceIte, Nat.reduceEqDiff, szStr, szInt, Option.getD_some, isNil, loadStr, loadInt, mkInts0, mkInts1, mkStrs0, mkStrs1, rowsS_len, rowsI_len, evStr, mkAA, mkWords, t1, yes_eq]; first | done | rfl) rfl (by decide) (by simp only [evOp, opd, constAV, constCell, Ev.get, reduceIte, Nat.reduceEqDiff, reduceCtorEq, evBinN, nilCmp, evBin, evInt, evUn, evConvert, evBuiltin, evLen, evField, evPart, tStr, tInt, tElem, tArr, tBool, tAgg, tField, Try.underlying9, Try.underlying3, Try.underlying4, Try.underlying5, Try.underlying21, Try.underlying45, Try.underlying64, Try.underlying56, Try.underlying40, Try.underlying34, Try.underlying2, Try.underlying26, List.zipWith, Option.map_some, Option.map_none, List.length_cons, List.length_nil, ne_eq, Int.reduceEq, not_false_eq_true, and_self, and_true, true_and, szStr, szInt, Option.getD_some, isNil, loadStr, loadInt, mkInts0, mkInts1, mkStrs0, mkStrs1, rowsS_len, rowsI_len, evStr, mkAA, mkWords, evCall, List.size_toArray, List.append_nil, List.nil_append, List.map_cons, List.map_nil, argAV, argCell, List.toList_toArray, fieldTy, t1, yes_eq]; rfl) (fun h => by first | rfl | (simp at h; done)) ?_
          | refine ops_no rfl rfl (by simp only [Ev.get, reduceIte, Nat.reduceEqDiff, szStr, szInt, Option.getD_some, isNil, loadStr, loadInt, mkInts0, mkInts1, mkStrs0, mkStrs1, rowsS_len, rowsI_len, evStr, mkAA, mkWords, t1, yes_eq]; first | done | rfl) (by decide) rfl (by decide) ?_
          | refine ops_off rfl rfl rfl rfl (by decide) ?_
          | (refine ops_nil ?_; intro e2 h2; simp only [restr, kpNamesIs, List.map_cons, List.map_nil, Ev.get, reduceIte, Nat.reduceEqDiff] at h2; subst h2))
        exact leaves_v rfl rfl
      · have f1 : ∀ mm, keywordsG [] mm = some (.lst .no 1 (rowsS kwRef), mm) := fun _ => rfl
        have f2 := fun mm => placeG_eq (m := mm) (g := .no) (l := kwRef) (s := s) (by decide)
        have f3 : decide (placeOf kwRef s ≥ 0) = keyword s := kw_place s
        have f4 := fun mm => isNameG_eq (m := mm) hs
        have f5 : ∀ mm, keywordG [.v (.string s)] mm = some (.v (.bool (keyword s)), mm) := fun _ => rfl
        have hex : isName s = true → keyword s = false := fun h => by
          unfold isName at h
          simp only [Bool.and_eq_true] at h
          have := h.2.2
          rwa [Bool.not_eq_true'] at this
        have b1 : (!false) = true := rfl
        repeat (first
          | refine runs_seq ?_ | refine runs_block ?_ | refine next_normal ?_ | refine inside_normal ?_ | refine next_exit ?_ | refine inside_exit ?_ | refine inside_other (by decide) ?_ | refine next_ret ?_ | refine inside_ret ?_
          | refine runs_ops_kept ?_ | refine runs_skip ?_ | refine runs_exit ?_ | refine runs_ret ?_
          | refine ops_op rfl rfl (by decide) (by simp only [evOp, opd, constAV, constCell, Ev.get, reduceIte, Nat.reduceEqDiff, reduceCtorEq, evBinN, nilCmp, evBin, evInt, evUn, evConvert, evBuiltin, evLen, evField, evPart, tStr, tInt, tElem, tArr, tBool, tAgg, tField, Try.underlying9, Try.underlying3, Try.underlying4, Try.underlying5, Try.underlying21, Try.underlying45, Try.underlying64, Try.underlying56, Try.underlying40, Try.underlying34, Try.underlying2, Try.underlying26, List.zipWith, Option.map_some, Option.map_none, List.length_cons, List.length_nil, ne_eq, Int.reduceEq, not_false_eq_true, and_self, and_true, true_and, szStr, szInt, Option.getD_some, isNil, loadStr, loadInt, mkInts0, mkInts1, mkStrs0, mkStrs1, rowsS_len, rowsI_len, evStr, mkAA, mkWords, evCall, List.size_toArray, List.append_nil, List.nil_append, List.map_cons, List.map_nil, argAV, argCell, List.toList_toArray, fieldTy, t3, f1, t2, f2, f3]; rfl) (fun h => by first | rfl | (simp at h; done)) ?_
          | refine ops_yes rfl rfl (by simp only [Ev.get, reduceIte, Nat.reduceEqDiff, szStr, szInt, Option.getD_some, isNil, loadStr, loadInt, mkInts0, mkInts1, mkStrs0, mkStrs1, rowsS_len, rowsI_len, evStr, mkAA, mkWords, t3, f1, t2, f2, f3]; first | done | rfl) rfl (by decide) (by simp only [evOp, opd, constAV, constCell, Ev.get, reduceIte, Nat.reduceEqDiff, reduceCtorEq, evBinN, nilCmp, evBin, evInt, evUn, evConvert, evBuiltin, evLen, evField, evPart, tStr, tInt, tElem, tArr, tBool, tAgg, tField, Try.underlying9, Try.underlying3, Try.underlying4, Try.underlying5, Try.underlying21, Try.underlying45, Try.underlying64, Try.underlying56, Try.underlying40, Try.underlying34, Try.underlying2, Try.underlying26, List.zipWith, Option.map_some, Option.map_none, List.length_cons, List.length_nil, ne_eq, Int.reduceEq, not_false_eq_true, and_self, and_true, true_and, szStr, szInt, Option.getD_some, isNil, loadStr, loadInt, mkInts0, mkInts1, mkStrs0, mkStrs1, rowsS_len, rowsI_len, evStr, mkAA, mkWords, evCall, List.size_toArray, List.append_nil, List.nil_append, List.map_cons, List.map_nil, argAV, argCell, List.toList_toArray, fieldTy, t3, f1, t2, f2, f3]; rfl) (fun h => by first | rfl | (simp at h; done)) ?_
          | refine ops_no rfl rfl (by simp only [Ev.get, reduceIte, Nat.reduceEqDiff, szStr, szInt, Option.getD_some, isNil, loadStr, loadInt, mkInts0, mkInts1, mkStrs0, mkStrs1, rowsS_len, rowsI_len, evStr, mkAA, mkWords, t3, f1, t2, f2, f3]; first | done | rfl) (by decide) rfl (by decide) ?_
          | refine ops_off rfl rfl rfl rfl (by decide) ?_
          | (refine ops_nil ?_; intro e2 h2; simp only [restr, kpNamesIs, List.map_cons, List.map_nil, Ev.get, reduceIte, Nat.reduceEqDiff] at h2; subst h2))
        cases hn : isName s with
        | true =>
          rw [hn] at f4
          have hk := hex hn
          rw [hk] at f5
          rw [hk]
          repeat (first
            | refine runs_seq ?_ | refine runs_block ?_ | refine next_normal ?_ | refine inside_normal ?_ | refine next_exit ?_ | refine inside_exit ?_ | refine inside_other (by decide) ?_ | refine next_ret ?_ | refine inside_ret ?_
            | refine runs_ops_kept ?_ | refine runs_skip ?_ | refine runs_exit ?_ | refine runs_ret ?_
            | refine ops_op rfl rfl (by decide) (by simp only [evOp, opd, constAV, constCell, Ev.get, reduceIte, Nat.reduceEqDiff, reduceCtorEq, evBinN, nilCmp, evBin, evInt, evUn, evConvert, evBuiltin, evLen, evField, evPart, tStr, tInt, tElem, tArr, tBool, tAgg, tField, Try.underlying9, Try.underlying3, Try.underlying4, Try.underlying5, Try.underlying21, Try.underlying45, Try.underlying64, Try.underlying56, Try.underlying40, Try.underlying34, Try.underlying2, Try.underlying26, List.zipWith, Option.map_some, Option.map_none, List.length_cons, List.length_nil, ne_eq, Int.reduceEq, not_false_eq_true, and_self, and_true, true_and, szStr, szInt, Option.getD_some, isNil, loadStr, loadInt, mkInts0, mkInts1, mkStrs0, mkStrs1, rowsS_len, rowsI_len, evStr, mkAA, mkWords, evCall, List.size_toArray, List.append_nil, List.nil_append, List.map_cons, List.map_nil, argAV, argCell, List.toList_toArray, fieldTy, t4, f4, t5, t6, f5, beq_self_eq_true, b1, t1, yes_eq]; rfl) (fun h => by first | rfl | (simp at h; done)) ?_
            | refine ops_yes rfl rfl (by simp only [Ev.get, reduceIte, Nat.reduceEqDiff, szStr, szInt, Option.getD_some, isNil, loadStr, loadInt, mkInts0, mkInts1, mkStrs0, mkStrs1, rowsS_len, rowsI_len, evStr, mkAA, mkWords, t4, f4, t5, t6, f5, beq_self_eq_true, b1, t1, yes_eq]; first | done | rfl) rfl (by decide) (by simp only [evOp, opd, constAV, constCell, Ev.get, reduceIte, Nat.reduceEqDiff, reduceCtorEq, evBinN, nilCmp, evBin, evInt, evUn, evConvert, evBuiltin, evLen, evField, evPart, tStr, tInt, tElem, tArr, tBool, tAgg, tField, Try.underlying9, Try.underlying3, Try.underlying4, Try.underlying5, Try.underlying21, Try.underlying45, Try.underlying64, Try.underlying56, Try.underlying40, Try.underlying34, Try.underlying2, Try.underlying26, List.zipWith, Option.map_some, Option.map_none, List.length_cons, List.length_nil, ne_eq, Int.reduceEq, not_false_eq_true, and_self, and_true, true_and, szStr, szInt, Option.getD_some, isNil, loadStr, loadInt, mkInts0, mkInts1, mkStrs0, mkStrs1, rowsS_len, rowsI_len, evStr, mkAA, mkWords, evCall, List.size_toArray, List.append_nil, List.nil_append, List.map_cons, List.map_nil, argAV, argCell, List.toList_toArray, fieldTy, t4, f4, t5, t6, f5, beq_self_eq_true, b1, t1, yes_eq]; rfl) (fun h => by first | rfl | (simp at h; done)) ?_
            | refine ops_no rfl rfl (by simp only [Ev.get, reduceIte, Nat.reduceEqDiff, szStr, szInt, Option.getD_some, isNil, loadStr, loadInt, mkInts0, mkInts1, mkStrs0, mkStrs1, rowsS_len, rowsI_len, evStr, mkAA, mkWords, t4, f4, t5, t6, f5, beq_self_eq_true, b1, t1, yes_eq]; first | done | rfl) (by decide) rfl (by decide) ?_
            | refine ops_off rfl rfl rfl rfl (by decide) ?_
            | (refine ops_nil ?_; intro e2 h2; simp only [restr, kpNamesIs, List.map_cons, List.map_nil, Ev.get, reduceIte, Nat.reduceEqDiff] at h2; subst h2))
          exact leaves_v rfl rfl
        | false =>
          rw [hn] at f4
          repeat (first
            | refine runs_seq ?_ | refine runs_block ?_ | refine next_normal ?_ | refine inside_normal ?_ | refine next_exit ?_ | refine inside_exit ?_ | refine inside_other (by decide) ?_ | refine next_ret ?_ | refine inside_ret ?_
            | refine runs_ops_kept ?_ | refine runs_skip ?_ | refine runs_exit ?_ | refine runs_ret ?_
            | refine ops_op rfl rfl (by decide) (by simp only [evOp, opd, constAV, constCell, Ev.get, reduceIte, Nat.reduceEqDiff, reduceCtorEq, evBinN, nilCmp, evBin, evInt, evUn, evConvert, evBuiltin, evLen, evField, evPart, tStr, tInt, tElem, tArr, tBool, tAgg, tField, Try.underlying9, Try.underlying3, Try.underlying4, Try.underlying5, Try.underlying21, Try.underlying45, Try.underlying64, Try.underlying56, Try.underlying40, Try.underlying34, Try.underlying2, Try.underlying26, List.zipWith, Option.map_some, Option.map_none, List.length_cons, List.length_nil, ne_eq, Int.reduceEq, not_false_eq_true, and_self, and_true, true_and, szStr, szInt, Option.getD_some, isNil, loadStr, loadInt, mkInts0, mkInts1, mkStrs0, mkStrs1, rowsS_len, rowsI_len, evStr, mkAA, mkWords, evCall, List.size_toArray, List.append_nil, List.nil_append, List.map_cons, List.map_nil, argAV, argCell, List.toList_toArray, fieldTy, t4, f4, t5, t6, f5, beq_self_eq_true, b1, t1, yes_eq]; rfl) (fun h => by first | rfl | (simp at h; done)) ?_
            | refine ops_yes rfl rfl (by simp only [Ev.get, reduceIte, Nat.reduceEqDiff, szStr, szInt, Option.getD_some, isNil, loadStr, loadInt, mkInts0, mkInts1, mkStrs0, mkStrs1, rowsS_len, rowsI_len, evStr, mkAA, mkWords, t4, f4, t5, t6, f5, beq_self_eq_true, b1, t1, yes_eq]; first | done | rfl) rfl (by decide) (by simp only [evOp, opd, constAV, constCell, Ev.get, reduceIte, Nat.reduceEqDiff, reduceCtorEq, evBinN, nilCmp, evBin, evInt, evUn, evConvert, evBuiltin, evLen, evField, evPart, tStr, tInt, tElem, tArr, tBool, tAgg, tField, Try.underlying9, Try.underlying3, Try.underlying4, Try.underlying5, Try.underlying21, Try.underlying45, Try.underlying64, Try.underlying56, Try.underlying40, Try.underlying34, Try.underlying2, Try.underlying26, List.zipWith, Option.map_some, Option.map_none, List.length_cons, List.length_nil, ne_eq, Int.reduceEq, not_false_eq_true, and_self, and_true, true_and, szStr, szInt, Option.getD_some, isNil, loadStr, loadInt, mkInts0, mkInts1, mkStrs0, mkStrs1, rowsS_len, rowsI_len, evStr, mkAA, mkWords, evCall, List.size_toArray, List.append_nil, List.nil_append, List.map_cons, List.map_nil, argAV, argCell, List.toList_toArray, fieldTy, t4, f4, t5, t6, f5, beq_self_eq_true, b1, t1, yes_eq]; rfl) (fun h => by first | rfl | (simp at h; done)) ?_
            | refine ops_no rfl rfl (by simp only [Ev.get, reduceIte, Nat.reduceEqDiff, szStr, szInt, Option.getD_some, isNil, loadStr, loadInt, mkInts0, mkInts1, mkStrs0, mkStrs1, rowsS_len, rowsI_len, evStr, mkAA, mkWords, t4, f4, t5, t6, f5, beq_self_eq_true, b1, t1, yes_eq]; first | done | rfl) (by decide) rfl (by decide) ?_
            | refine ops_off rfl rfl rfl rfl (by decide) ?_
            | (refine ops_nil ?_; intro e2 h2; simp only [restr, kpNamesIs, List.map_cons, List.map_nil, Ev.get, reduceIte, Nat.reduceEqDiff] at h2; subst h2))
          exact leaves_v rfl rfl
    · cases h
  · cases h
end Go.Proofs.Ytbehhlbcffbkoaa.Ev
