/- Trees: awake, and the law Ends. -/
import Derived.Test.YtojaokhkbmiidaaCoV
import Derived.Test.YtojaokhkbmiidaaEv29
namespace Go.Proofs.Ytojaokhkbmiidaa.Ev
open Go Go.Proofs
set_option maxRecDepth 10000
set_option maxHeartbeats 4000000
set_option linter.unusedVariables false
set_option linter.unusedSimpArgs false
def yesG : List AV → Mem → Option (AV × Mem)
  | [], m => some (.v (.bool true), m)
  | _, _ => none
theorem yes_eq : ∀ mm, yesG [] mm = some (.v (.bool true), mm) := fun _ => rfl
def plainC : Ctx := ⟨fun _ _ => none, fun _ => false, fun _ => none⟩
theorem awake15_run : runC Try.prog plainC 40 9 [] ⟨[], []⟩ = some (.v (.bool true), ⟨[], []⟩) := by kernel_rfl
theorem awake15_ok : FunOk Try.prog 9 yesG := by
  have h := wide_ok (P := Try.prog) (f := 9) (x := .bool true) fun args m r m' hg => by
    dsimp only at hg
    split at hg
    · rename_i hc
      obtain ⟨rfl, h1, h2⟩ := hc
      obtain ⟨v, t⟩ := m
      simp only at h1 h2
      subst h1
      subst h2
      cases hg
      exact runC_ok mixed (fun f g h => by cases h) 40 _ _ _ _ _ awake15_run
    · cases hg
  intro args m r m' hg
  refine h args m r m' ?_
  cases args with
  | nil => exact hg
  | cons a rest => cases hg
attribute [local irreducible] Next Inside Runs Ops table
def treeEndsLawG : List AV → Mem → Option (AV × Mem)
  | [.lst _ 7 rows, .v (.int .i64 at_), .v (.int .i64 op)], m =>
    match unN rows with
    | some l => if l.length ≤ 9223372036854775807 ∧ inI at_ then some (.v (.bool true), m) else none
    | none => none
  | _, _ => none
def tabTreeEnds : List (FuncId × (List AV → Mem → Option (AV × Mem))) := [(9, yesG), (10, endG), (11, belowG), (12, endG), (13, arityG), (14, arityG), (15, sameIG), (16, refBelowG)]
def kpTreeEnds : Nat → Option (List Nat) := fun _ => some [0, 1, 2, 6, 7, 8, 11, 30, 32]
theorem treeEndsLaw_ok : FunOk Try.prog 3 treeEndsLawG := by
  have hC := table_ok (P := Try.prog) (l := tabTreeEnds) (table_more awake15_ok (table_more end_ok (table_more below_ok (table_more refEnd_ok (table_more arity_ok (table_more refArity_ok (table_more sameI_ok (table_more refBelow_ok table_nil))))))))
  have t1 := fun args mm => table_at (l := tabTreeEnds) (f := 9) (args := args) (m := mm) rfl
  have t2 := fun args mm => table_at (l := tabTreeEnds) (f := 10) (args := args) (m := mm) rfl
  have t3 := fun args mm => table_at (l := tabTreeEnds) (f := 11) (args := args) (m := mm) rfl
  have t4 := fun args mm => table_at (l := tabTreeEnds) (f := 12) (args := args) (m := mm) rfl
  have t5 := fun args mm => table_at (l := tabTreeEnds) (f := 13) (args := args) (m := mm) rfl
  have t6 := fun args mm => table_at (l := tabTreeEnds) (f := 14) (args := args) (m := mm) rfl
  have t7 := fun args mm => table_at (l := tabTreeEnds) (f := 15) (args := args) (m := mm) rfl
  have t8 := fun args mm => table_at (l := tabTreeEnds) (f := 16) (args := args) (m := mm) rfl
  refine fun_ok mixed hC Try.func3 rfl kpTreeEnds false rfl fun args m r h => ?_
  unfold treeEndsLawG at h
  split at h
  · rename_i g rows at_ op
    split at h
    · rename_i l hl0
      obtain rfl := unN_some hl0
      split at h
      · rename_i hb
        obtain ⟨_, hat⟩ := hb
        simp only [Option.some.injEq] at h
        subst h
        refine ⟨Nat.le_of_ble_eq_true rfl, ?_⟩
        simp only [entry, List.length_cons, List.length_nil, List.range, List.range.loop, List.zip_cons_cons, List.zip_nil_right]
        repeat (first
          | refine runs_seq ?_ | refine runs_block ?_ | refine next_normal ?_ | refine inside_normal ?_ | refine next_exit ?_ | refine inside_exit ?_ | refine inside_other (by decide) ?_ | refine next_ret ?_ | refine inside_ret ?_
          | refine runs_ops_kept ?_ | refine runs_skip ?_ | refine runs_exit ?_ | refine runs_ret ?_
          | ((first | refine' ops_op rfl rfl (by decide) ?_ ?_ ?_ | refine' ops_yes rfl rfl (by simp only [Ev.get, reduceIte, Nat.reduceEqDiff, szStr, szInt, Option.getD_some, isNil, loadStr, loadInt, mkInts0, mkInts1, mkStrs0, mkStrs1, rowsS_len, rowsI_len, rowsN_len, evStr, fldOp, ldOp]; first | done | rfl) rfl (by decide) ?_ ?_ ?_ | refine' ops_op0 rfl rfl ?_ ?_ ?_); rotate_left 2; (focus (simp only [evOp, opd, constAV, constCell, Ev.get, reduceIte, Nat.reduceEqDiff, reduceCtorEq, evBinN, nilCmp, evBin, evInt, evUn, evConvert, evBuiltin, evLen, evField, evPart, tStr, tInt, tElem, tArr, tBool, tAgg, tField, Try.underlying9, Try.underlying3, Try.underlying4, Try.underlying5, Try.underlying21, Try.underlying121, Try.underlying38, Try.underlying25, Try.underlying135, Try.underlying33, Try.underlying2, Try.underlying147, Try.underlying22, Try.underlying56, Try.underlying54, List.zipWith, Option.map_some, Option.map_none, List.length_cons, List.length_nil, ne_eq, Int.reduceEq, not_false_eq_true, and_self, and_true, true_and, szStr, szInt, Option.getD_some, isNil, loadStr, loadInt, mkInts0, mkInts1, mkStrs0, mkStrs1, rowsS_len, rowsI_len, rowsN_len, evStr, fldOp, ldOp, evCall, List.size_toArray, List.append_nil, List.nil_append, List.map_cons, List.map_nil, argAV, argCell, List.toList_toArray, fieldTy]; first | done | rfl)); exact (fun h => by first | rfl | (simp at h; done) | exact absurd (Bool.and_eq_true_iff.mp h).2 (by decide)))
          | refine ops_no rfl rfl (by simp only [Ev.get, reduceIte, Nat.reduceEqDiff, szStr, szInt, Option.getD_some, isNil, loadStr, loadInt, mkInts0, mkInts1, mkStrs0, mkStrs1, rowsS_len, rowsI_len, rowsN_len, evStr, fldOp, ldOp]; first | done | rfl) (by decide) rfl (by decide) ?_
          | refine ops_off rfl rfl rfl rfl (by decide) ?_
          | (refine ops_nil ?_; intro e2 h2; simp only [restr, kpTreeEnds, List.map_cons, List.map_nil, Ev.get, reduceIte, Nat.reduceEqDiff] at h2; subst h2))
        refine runs_cond rfl (fun hc => ?_) (fun hc => ?_)
        · repeat (first
            | refine runs_seq ?_ | refine runs_block ?_ | refine next_normal ?_ | refine inside_normal ?_ | refine next_exit ?_ | refine inside_exit ?_ | refine inside_other (by decide) ?_ | refine next_ret ?_ | refine inside_ret ?_
            | refine runs_ops_kept ?_ | refine runs_skip ?_ | refine runs_exit ?_ | refine runs_ret ?_
            | ((first | refine' ops_op rfl rfl (by decide) ?_ ?_ ?_ | refine' ops_yes rfl rfl (by simp only [Ev.get, reduceIte, Nat.reduceEqDiff, szStr, szInt, Option.getD_some, isNil, loadStr, loadInt, mkInts0, mkInts1, mkStrs0, mkStrs1, rowsS_len, rowsI_len, rowsN_len, evStr, fldOp, ldOp, t1, yes_eq]; first | done | rfl) rfl (by decide) ?_ ?_ ?_ | refine' ops_op0 rfl rfl ?_ ?_ ?_); rotate_left 2; (focus (simp only [evOp, opd, constAV, constCell, Ev.get, reduceIte, Nat.reduceEqDiff, reduceCtorEq, evBinN, nilCmp, evBin, evInt, evUn, evConvert, evBuiltin, evLen, evField, evPart, tStr, tInt, tElem, tArr, tBool, tAgg, tField, Try.underlying9, Try.underlying3, Try.underlying4, Try.underlying5, Try.underlying21, Try.underlying121, Try.underlying38, Try.underlying25, Try.underlying135, Try.underlying33, Try.underlying2, Try.underlying147, Try.underlying22, Try.underlying56, Try.underlying54, List.zipWith, Option.map_some, Option.map_none, List.length_cons, List.length_nil, ne_eq, Int.reduceEq, not_false_eq_true, and_self, and_true, true_and, szStr, szInt, Option.getD_some, isNil, loadStr, loadInt, mkInts0, mkInts1, mkStrs0, mkStrs1, rowsS_len, rowsI_len, rowsN_len, evStr, fldOp, ldOp, evCall, List.size_toArray, List.append_nil, List.nil_append, List.map_cons, List.map_nil, argAV, argCell, List.toList_toArray, fieldTy, t1, yes_eq]; first | done | rfl)); exact (fun h => by first | rfl | (simp at h; done) | exact absurd (Bool.and_eq_true_iff.mp h).2 (by decide)))
            | refine ops_no rfl rfl (by simp only [Ev.get, reduceIte, Nat.reduceEqDiff, szStr, szInt, Option.getD_some, isNil, loadStr, loadInt, mkInts0, mkInts1, mkStrs0, mkStrs1, rowsS_len, rowsI_len, rowsN_len, evStr, fldOp, ldOp, t1, yes_eq]; first | done | rfl) (by decide) rfl (by decide) ?_
            | refine ops_off rfl rfl rfl rfl (by decide) ?_
            | (refine ops_nil ?_; intro e2 h2; simp only [restr, kpTreeEnds, List.map_cons, List.map_nil, Ev.get, reduceIte, Nat.reduceEqDiff] at h2; subst h2))
          exact leaves_v rfl rfl
        · have h100 := of_decide_eq_false hc
          have hlen : l.length ≤ big40 := by unfold big40; omega
          have f1 := fun mm => endG_eq (m := mm) (g := .no) hlen hat
          have f2 := fun mm => belowG_eq (m := mm) (g := .no) hlen hat
          have fa : ∀ mm, arityG [.v (.int .i64 op)] mm = some (.v (.int .i64 (arityOf op)), mm) := fun _ => rfl
          repeat (first
            | refine runs_seq ?_ | refine runs_block ?_ | refine next_normal ?_ | refine inside_normal ?_ | refine next_exit ?_ | refine inside_exit ?_ | refine inside_other (by decide) ?_ | refine next_ret ?_ | refine inside_ret ?_
            | refine runs_ops_kept ?_ | refine runs_skip ?_ | refine runs_exit ?_ | refine runs_ret ?_
            | ((first | refine' ops_op rfl rfl (by decide) ?_ ?_ ?_ | refine' ops_yes rfl rfl (by simp only [Ev.get, reduceIte, Nat.reduceEqDiff, szStr, szInt, Option.getD_some, isNil, loadStr, loadInt, mkInts0, mkInts1, mkStrs0, mkStrs1, rowsS_len, rowsI_len, rowsN_len, evStr, fldOp, ldOp, t2, f1, t3, f2, t4, bne_self_eq_false, t5, t6, fa]; first | done | rfl) rfl (by decide) ?_ ?_ ?_ | refine' ops_op0 rfl rfl ?_ ?_ ?_); rotate_left 2; (focus (simp only [evOp, opd, constAV, constCell, Ev.get, reduceIte, Nat.reduceEqDiff, reduceCtorEq, evBinN, nilCmp, evBin, evInt, evUn, evConvert, evBuiltin, evLen, evField, evPart, tStr, tInt, tElem, tArr, tBool, tAgg, tField, Try.underlying9, Try.underlying3, Try.underlying4, Try.underlying5, Try.underlying21, Try.underlying121, Try.underlying38, Try.underlying25, Try.underlying135, Try.underlying33, Try.underlying2, Try.underlying147, Try.underlying22, Try.underlying56, Try.underlying54, List.zipWith, Option.map_some, Option.map_none, List.length_cons, List.length_nil, ne_eq, Int.reduceEq, not_false_eq_true, and_self, and_true, true_and, szStr, szInt, Option.getD_some, isNil, loadStr, loadInt, mkInts0, mkInts1, mkStrs0, mkStrs1, rowsS_len, rowsI_len, rowsN_len, evStr, fldOp, ldOp, evCall, List.size_toArray, List.append_nil, List.nil_append, List.map_cons, List.map_nil, argAV, argCell, List.toList_toArray, fieldTy, t2, f1, t3, f2, t4, bne_self_eq_false, t5, t6, fa]; first | done | rfl)); exact (fun h => by first | rfl | (simp at h; done) | exact absurd (Bool.and_eq_true_iff.mp h).2 (by decide)))
            | refine ops_no rfl rfl (by simp only [Ev.get, reduceIte, Nat.reduceEqDiff, szStr, szInt, Option.getD_some, isNil, loadStr, loadInt, mkInts0, mkInts1, mkStrs0, mkStrs1, rowsS_len, rowsI_len, rowsN_len, evStr, fldOp, ldOp, t2, f1, t3, f2, t4, bne_self_eq_false, t5, t6, fa]; first | done | rfl) (by decide) rfl (by decide) ?_
            | refine ops_off rfl rfl rfl rfl (by decide) ?_
            | (refine ops_nil ?_; intro e2 h2; simp only [restr, kpTreeEnds, List.map_cons, List.map_nil, Ev.get, reduceIte, Nat.reduceEqDiff] at h2; subst h2))
          refine runs_cond rfl (fun hc => by cases hc) (fun hc => ?_)
          repeat (first
            | refine runs_seq ?_ | refine runs_block ?_ | refine next_normal ?_ | refine inside_normal ?_ | refine next_exit ?_ | refine inside_exit ?_ | refine inside_other (by decide) ?_ | refine next_ret ?_ | refine inside_ret ?_
            | refine runs_ops_kept ?_ | refine runs_skip ?_ | refine runs_exit ?_ | refine runs_ret ?_
            | ((first | refine' ops_op rfl rfl (by decide) ?_ ?_ ?_ | refine' ops_yes rfl rfl (by simp only [Ev.get, reduceIte, Nat.reduceEqDiff, szStr, szInt, Option.getD_some, isNil, loadStr, loadInt, mkInts0, mkInts1, mkStrs0, mkStrs1, rowsS_len, rowsI_len, rowsN_len, evStr, fldOp, ldOp]; first | done | rfl) rfl (by decide) ?_ ?_ ?_ | refine' ops_op0 rfl rfl ?_ ?_ ?_); rotate_left 2; (focus (simp only [evOp, opd, constAV, constCell, Ev.get, reduceIte, Nat.reduceEqDiff, reduceCtorEq, evBinN, nilCmp, evBin, evInt, evUn, evConvert, evBuiltin, evLen, evField, evPart, tStr, tInt, tElem, tArr, tBool, tAgg, tField, Try.underlying9, Try.underlying3, Try.underlying4, Try.underlying5, Try.underlying21, Try.underlying121, Try.underlying38, Try.underlying25, Try.underlying135, Try.underlying33, Try.underlying2, Try.underlying147, Try.underlying22, Try.underlying56, Try.underlying54, List.zipWith, Option.map_some, Option.map_none, List.length_cons, List.length_nil, ne_eq, Int.reduceEq, not_false_eq_true, and_self, and_true, true_and, szStr, szInt, Option.getD_some, isNil, loadStr, loadInt, mkInts0, mkInts1, mkStrs0, mkStrs1, rowsS_len, rowsI_len, rowsN_len, evStr, fldOp, ldOp, evCall, List.size_toArray, List.append_nil, List.nil_append, List.map_cons, List.map_nil, argAV, argCell, List.toList_toArray, fieldTy]; first | done | rfl)); exact (fun h => by first | rfl | (simp at h; done) | exact absurd (Bool.and_eq_true_iff.mp h).2 (by decide)))
            | refine ops_no rfl rfl (by simp only [Ev.get, reduceIte, Nat.reduceEqDiff, szStr, szInt, Option.getD_some, isNil, loadStr, loadInt, mkInts0, mkInts1, mkStrs0, mkStrs1, rowsS_len, rowsI_len, rowsN_len, evStr, fldOp, ldOp]; first | done | rfl) (by decide) rfl (by decide) ?_
            | refine ops_off rfl rfl rfl rfl (by decide) ?_
            | (refine ops_nil ?_; intro e2 h2; simp only [restr, kpTreeEnds, List.map_cons, List.map_nil, Ev.get, reduceIte, Nat.reduceEqDiff] at h2; subst h2))
          refine runs_cond rfl (fun hc => ?_) (fun hc => ?_)
          · rw [show belowOf l at_ = [] from if_pos (of_decide_eq_true hc)]
            have b1 : (((([] : List Int).length : Nat) : Int) == 0) = true := rfl
            repeat (first
              | refine runs_seq ?_ | refine runs_block ?_ | refine next_normal ?_ | refine inside_normal ?_ | refine next_exit ?_ | refine inside_exit ?_ | refine inside_other (by decide) ?_ | refine next_ret ?_ | refine inside_ret ?_
              | refine runs_ops_kept ?_ | refine runs_skip ?_ | refine runs_exit ?_ | refine runs_ret ?_
              | ((first | refine' ops_op rfl rfl (by decide) ?_ ?_ ?_ | refine' ops_yes rfl rfl (by simp only [Ev.get, reduceIte, Nat.reduceEqDiff, szStr, szInt, Option.getD_some, isNil, loadStr, loadInt, mkInts0, mkInts1, mkStrs0, mkStrs1, rowsS_len, rowsI_len, rowsN_len, evStr, fldOp, ldOp, b1, t1, yes_eq]; first | done | rfl) rfl (by decide) ?_ ?_ ?_ | refine' ops_op0 rfl rfl ?_ ?_ ?_); rotate_left 2; (focus (simp only [evOp, opd, constAV, constCell, Ev.get, reduceIte, Nat.reduceEqDiff, reduceCtorEq, evBinN, nilCmp, evBin, evInt, evUn, evConvert, evBuiltin, evLen, evField, evPart, tStr, tInt, tElem, tArr, tBool, tAgg, tField, Try.underlying9, Try.underlying3, Try.underlying4, Try.underlying5, Try.underlying21, Try.underlying121, Try.underlying38, Try.underlying25, Try.underlying135, Try.underlying33, Try.underlying2, Try.underlying147, Try.underlying22, Try.underlying56, Try.underlying54, List.zipWith, Option.map_some, Option.map_none, List.length_cons, List.length_nil, ne_eq, Int.reduceEq, not_false_eq_true, and_self, and_true, true_and, szStr, szInt, Option.getD_some, isNil, loadStr, loadInt, mkInts0, mkInts1, mkStrs0, mkStrs1, rowsS_len, rowsI_len, rowsN_len, evStr, fldOp, ldOp, evCall, List.size_toArray, List.append_nil, List.nil_append, List.map_cons, List.map_nil, argAV, argCell, List.toList_toArray, fieldTy, b1, t1, yes_eq]; first | done | rfl)); exact (fun h => by first | rfl | (simp at h; done) | exact absurd (Bool.and_eq_true_iff.mp h).2 (by decide)))
              | refine ops_no rfl rfl (by simp only [Ev.get, reduceIte, Nat.reduceEqDiff, szStr, szInt, Option.getD_some, isNil, loadStr, loadInt, mkInts0, mkInts1, mkStrs0, mkStrs1, rowsS_len, rowsI_len, rowsN_len, evStr, fldOp, ldOp, b1, t1, yes_eq]; first | done | rfl) (by decide) rfl (by decide) ?_
              | refine ops_off rfl rfl rfl rfl (by decide) ?_
              | (refine ops_nil ?_; intro e2 h2; simp only [restr, kpTreeEnds, List.map_cons, List.map_nil, Ev.get, reduceIte, Nat.reduceEqDiff] at h2; subst h2))
            exact leaves_v rfl rfl
          · have hn := of_decide_eq_false hc
            have hin := endOf_in l at_
            have e1 : belowOf l at_ = belowW l (arAt l at_) (at_ + 1) := if_neg hn
            have f3 := fun mm => refBelowG_eq (m := mm) (g := .no) hlen (by omega : 0 ≤ at_) (by omega)
            rw [← e1] at f3
            obtain ⟨ok, hl2⟩ := belowOf_okI hlen hat
            have f4 := fun mm => sameIG_eq (m := mm) (g := .no) (g2 := .no) ok ok (by omega) (by omega)
            rw [decide_eq_true rfl] at f4
            repeat (first
              | refine runs_seq ?_ | refine runs_block ?_ | refine next_normal ?_ | refine inside_normal ?_ | refine next_exit ?_ | refine inside_exit ?_ | refine inside_other (by decide) ?_ | refine next_ret ?_ | refine inside_ret ?_
              | refine runs_ops_kept ?_ | refine runs_skip ?_ | refine runs_exit ?_ | refine runs_ret ?_
              | ((first | refine' ops_op rfl rfl (by decide) ?_ ?_ ?_ | refine' ops_yes rfl rfl (by simp only [Ev.get, reduceIte, Nat.reduceEqDiff, szStr, szInt, Option.getD_some, isNil, loadStr, loadInt, mkInts0, mkInts1, mkStrs0, mkStrs1, rowsS_len, rowsI_len, rowsN_len, evStr, fldOp, ldOp, t8, f3, t7, f4, t1, yes_eq]; first | done | rfl) rfl (by decide) ?_ ?_ ?_ | refine' ops_op0 rfl rfl ?_ ?_ ?_); rotate_left 2; (focus (simp only [evOp, opd, constAV, constCell, Ev.get, reduceIte, Nat.reduceEqDiff, reduceCtorEq, evBinN, nilCmp, evBin, evInt, evUn, evConvert, evBuiltin, evLen, evField, evPart, tStr, tInt, tElem, tArr, tBool, tAgg, tField, Try.underlying9, Try.underlying3, Try.underlying4, Try.underlying5, Try.underlying21, Try.underlying121, Try.underlying38, Try.underlying25, Try.underlying135, Try.underlying33, Try.underlying2, Try.underlying147, Try.underlying22, Try.underlying56, Try.underlying54, List.zipWith, Option.map_some, Option.map_none, List.length_cons, List.length_nil, ne_eq, Int.reduceEq, not_false_eq_true, and_self, and_true, true_and, szStr, szInt, Option.getD_some, isNil, loadStr, loadInt, mkInts0, mkInts1, mkStrs0, mkStrs1, rowsS_len, rowsI_len, rowsN_len, evStr, fldOp, ldOp, evCall, List.size_toArray, List.append_nil, List.nil_append, List.map_cons, List.map_nil, argAV, argCell, List.toList_toArray, fieldTy, t8, f3, t7, f4, t1, yes_eq]; first | done | rfl)); exact (fun h => by first | rfl | (simp at h; done) | exact absurd (Bool.and_eq_true_iff.mp h).2 (by decide)))
              | refine ops_no rfl rfl (by simp only [Ev.get, reduceIte, Nat.reduceEqDiff, szStr, szInt, Option.getD_some, isNil, loadStr, loadInt, mkInts0, mkInts1, mkStrs0, mkStrs1, rowsS_len, rowsI_len, rowsN_len, evStr, fldOp, ldOp, t8, f3, t7, f4, t1, yes_eq]; first | done | rfl) (by decide) rfl (by decide) ?_
              | refine ops_off rfl rfl rfl rfl (by decide) ?_
              | (refine ops_nil ?_; intro e2 h2; simp only [restr, kpTreeEnds, List.map_cons, List.map_nil, Ev.get, reduceIte, Nat.reduceEqDiff] at h2; subst h2))
            exact leaves_v rfl rfl
      · cases h
    · cases h
  · cases h
end Go.Proofs.Ytojaokhkbmiidaa.Ev
