/- What the laws of layers 21, 22 and 55 ask besides: their examples. -/
import Derived.Test.YtojaokhkbmiidaaMbpok6
import Derived.Test.YtojaokhkbmiidaaMa2
import Derived.Test.YtojaokhkbmiidaaMbpok4
import Derived.Test.YtojaokhkbmiidaaRows
import Derived.KernelRfl
namespace Go.Proofs.Ytojaokhkbmiidaa.Ev
open Go Go.Proofs
set_option maxRecDepth 10000
set_option maxHeartbeats 8000000
set_option linter.unusedVariables false
set_option linter.unusedSimpArgs false
attribute [local irreducible] Next Inside Runs Ops table
def extC : Ctx := ⟨fun _ _ => none, fun _ => false, fun f => if f = 106 then some isNameG else if f = 91 then some setsG else if f = 82 then some endsRG else none⟩
theorem extC_ok : ∀ f g, extC.ext f = some g → FunOk Try.prog f g := by
  intro f g h
  unfold extC at h
  simp only at h
  split at h
  · rename_i e
    cases h
    subst e
    exact is_ok
  · split at h
    · rename_i e
      cases h
      subst e
      exact sets_ok
    · split at h
      · rename_i e
        cases h
        subst e
        exact endsR_ok
      · cases h
theorem awake_of {f : FuncId} (hrun : runC Try.prog extC 60 f [] ⟨[], []⟩ = some (.v (.bool true), ⟨[], []⟩)) : FunOk Try.prog f yesG := by
  have h := wide_ok (P := Try.prog) (f := f) (x := .bool true) fun args m r m' hg => by
    dsimp only at hg
    split at hg
    · rename_i hc
      obtain ⟨rfl, h1, h2⟩ := hc
      obtain ⟨v, t⟩ := m
      simp only at h1 h2
      subst h1
      subst h2
      cases hg
      exact runC_ok mixed extC_ok 60 _ _ _ _ _ hrun
    · cases hg
  intro args m r m' hg
  refine h args m r m' ?_
  cases args with
  | nil => exact hg
  | cons a rest => cases hg
theorem awake22_ok : FunOk Try.prog 29 yesG := awake_of (by kernel_rfl)
end Go.Proofs.Ytojaokhkbmiidaa.Ev

namespace Go.Proofs.Ytojaokhkbmiidaa.Ev
open Go Go.Proofs
set_option maxRecDepth 10000
set_option maxHeartbeats 8000000
set_option linter.unusedVariables false
set_option linter.unusedSimpArgs false
attribute [local irreducible] Next Inside Runs Ops table
theorem awake21_ok : FunOk Try.prog 24 yesG := awake_of (by kernel_rfl)
theorem awake55_ok : FunOk Try.prog 31 yesG := awake_of (by kernel_rfl)
end Go.Proofs.Ytojaokhkbmiidaa.Ev

namespace Go.Proofs.Ytojaokhkbmiidaa.Ev
open Go Go.Proofs
set_option maxRecDepth 10000
set_option maxHeartbeats 8000000
set_option linter.unusedVariables false
set_option linter.unusedSimpArgs false
attribute [local irreducible] Next Inside Runs Ops table
def lintReachedLawG : List AV → Mem → Option (AV × Mem)
  | [.lst _ 7 rows, .v (.int .i64 n), .v (.int .i64 ep)], m =>
    match unN rows with
    | some l => if l.length ≤ 9223372036854775807 then some (.v (.bool true), m) else none
    | none => none
  | _, _ => none
def kpReachedLaw : Nat → Option (List Nat) := fun
  | 0 => some [0, 1, 2]
  | 1 => some [0, 1, 2, 12]
  | 2 => some [6]
  | 3 => some [0, 1, 2, 7]
  | 4 => some [0, 1, 2, 7, 36]
  | 5 => some [6]
  | 6 => some [0, 7, 8]
  | 7 => some [0, 7, 8, 51]
  | 8 => some [6]
  | 9 => some [0, 7, 8, 9]
  | 10 => some [0, 7, 8, 9, 55]
  | 11 => some [0, 7, 8, 9]
  | 12 => some [0, 7, 8, 9, 67]
  | 13 => some [6]
  | 14 => some [6]
  | _ => none
def tab_lintReachedLaw_ok : List (FuncId × (List AV → Mem → Option (AV × Mem))) := [(31, yesG), (32, reachedG), (20, checkTG), (33, stepsTG)]
theorem lintReachedLaw_ok : FunOk Try.prog 8 lintReachedLawG := by
  have hC := table_ok (P := Try.prog) (l := tab_lintReachedLaw_ok) (table_more awake55_ok (table_more reached_ok (table_more refCheckT_ok (table_more stepsT_ok table_nil))))
  have t1 := fun args mm => table_at (l := tab_lintReachedLaw_ok) (f := 31) (args := args) (m := mm) rfl
  have t2 := fun args mm => table_at (l := tab_lintReachedLaw_ok) (f := 32) (args := args) (m := mm) rfl
  have t3 := fun args mm => table_at (l := tab_lintReachedLaw_ok) (f := 20) (args := args) (m := mm) rfl
  have t4 := fun args mm => table_at (l := tab_lintReachedLaw_ok) (f := 33) (args := args) (m := mm) rfl
  refine fun_ok mixed hC Try.func8 rfl kpReachedLaw false rfl fun args m r h => ?_
  unfold lintReachedLawG at h
  split at h
  · rename_i g rows n ep
    split at h
    · rename_i l hl0
      obtain rfl := unN_some hl0
      split at h
      · rename_i hb
        simp only [Option.some.injEq] at h
        subst h
        refine ⟨Nat.le_of_ble_eq_true rfl, ?_⟩
        simp only [entry, List.length_cons, List.length_nil, List.range, List.range.loop, List.zip_cons_cons, List.zip_nil_right]
        have fy : ∀ mm, yesG [] mm = some (.v (.bool true), mm) := fun _ => rfl
        by_cases h70 : l.length ≤ 70
        · have b0 : decide ((l.length : Int) > 70) = false := decide_eq_false (by omega)
          have hlen : l.length ≤ big40 := by unfold big40; omega
          have f2 := fun mm => reachedG_eq (m := mm) (g := .no) (n := n) (ep := ep) hlen
          have f3 := fun mm => checkTG_eq (m := mm) (g := .no) hlen
          by_cases hall : checkT l = 0 ∧ inW n ∧ inW ep
          · have em : marks l ep n = reachF l ep l.length 0 n (List.replicate l.length false) := if_pos hall
            obtain ⟨hc0, hn, hep⟩ := hall
            obtain ⟨s1, s2, s3, s4⟩ := checkT_sound hc0
            have hz := endW_zeroI hc0
            have hin := endOf_in l ((0 : Nat) : Int)
            have f4 : ∀ g mm, stepsTG [.lst g 7 (rowsN l), .v (.int .i64 0), .v (.int .i64 n), .v (.int .i64 ep)] mm = _ := fun g mm => stepsTG_eq (g := g) (m := mm) (p := 0) s2 hz s4 hn hep
            obtain ⟨r1, r2⟩ := reach_marks s4 hep l.length 0 n (List.replicate l.length false) hz (by omega) hn (by simp)
            have r3 := stepsF_len (ep := ep) s4 l.length 0 n hz (by omega)
            rw [show endOf l ((0 : Nat) : Int) = (l.length : Int) from s3] at r3
            rw [← em, List.length_replicate] at r1
            rw [← em] at r2
            generalize marks l ep n = b at f2 r1 r2
            generalize stepsF l ep l.length 0 n = w at f4 r2 r3
            have r4 : w.length = l.length := by omega
            have r5 : ∀ i, i < l.length → b.getD i false = decide (w.getD i 0 > 0) := fun i hi => by
              have e : (List.replicate l.length false).getD i false = false := by
                simp only [List.getD, List.getElem?_replicate]
                split <;> rfl
              rw [r2 i, e, Nat.sub_zero]
              simp
            have b1 : (checkT l != 0) = false := by rw [hc0]; rfl
            unfold inW at hn hep
            have b2 : decide (n < 0) = false := decide_eq_false (by omega)
            have b3 : decide (n > 1000000) = false := decide_eq_false (by omega)
            have b4 : decide (ep < 0) = false := decide_eq_false (by omega)
            have b5 : decide (ep > 1000000) = false := decide_eq_false (by omega)
            have b6 : ((b.length : Int) != (l.length : Int)) = false := by rw [r1]; simp
            repeat (first | refine runs_seq ?_ | refine runs_block ?_ | refine next_normal ?_ | refine inside_normal ?_ | refine next_exit ?_ | refine inside_exit ?_ | refine inside_other (by decide) ?_ | refine next_ret ?_ | refine inside_ret ?_ | refine runs_ops_kept ?_ | refine runs_skip ?_ | refine runs_exit ?_ | refine runs_ret ?_ | ((first | refine' ops_op rfl rfl (by decide) ?_ ?_ ?_ | refine' ops_yes rfl rfl (by simp only [Ev.get, reduceIte, Nat.reduceEqDiff, b0]; first | done | rfl) rfl (by decide) ?_ ?_ ?_ | refine' ops_op0 rfl rfl ?_ ?_ ?_); rotate_left 2; (focus (simp only [evOp, opd, constAV, constCell, Ev.get, reduceIte, Nat.reduceEqDiff, reduceCtorEq, evBinN, nilCmp, evBin, evInt, evUn, evConvert, evBuiltin, evLen, evField, evPart, tStr, tInt, tElem, tArr, tBool, tAgg, tField, Try.underlying9, Try.underlying3, Try.underlying4, Try.underlying5, Try.underlying21, Try.underlying38, Try.underlying25, Try.underlying33, Try.underlying2, Try.underlying22, Try.underlying56, Try.underlying54, List.zipWith, Option.map_some, Option.map_none, List.length_cons, List.length_nil, ne_eq, Int.reduceEq, not_false_eq_true, and_self, and_true, true_and, szStr, szInt, Option.getD_some, isNil, evStr, loadStr, loadInt, rowsN_len, rowsBo_len, rowsI_len, evCall, List.size_toArray, List.append_nil, List.nil_append, List.map_cons, List.map_nil, argAV, argCell, List.toList_toArray, fieldTy, b0]; first | done | rfl)); exact (fun h => by first | rfl | (simp at h; done) | exact absurd (Bool.and_eq_true_iff.mp h).2 (by decide))) | refine ops_no rfl rfl (by simp only [Ev.get, reduceIte, Nat.reduceEqDiff, b0]; first | done | rfl) (by decide) rfl (by decide) ?_ | refine ops_off rfl rfl rfl rfl (by decide) ?_ | (refine ops_nil ?_; intro e2 h2; simp only [restr, kpReachedLaw, List.map_cons, List.map_nil, Ev.get, reduceIte, Nat.reduceEqDiff] at h2; subst h2))
            refine runs_cond rfl (fun hc => by cases hc) (fun hc => ?_)
            repeat (first | refine runs_seq ?_ | refine runs_block ?_ | refine next_normal ?_ | refine inside_normal ?_ | refine next_exit ?_ | refine inside_exit ?_ | refine inside_other (by decide) ?_ | refine next_ret ?_ | refine inside_ret ?_ | refine runs_ops_kept ?_ | refine runs_skip ?_ | refine runs_exit ?_ | refine runs_ret ?_ | ((first | refine' ops_op rfl rfl (by decide) ?_ ?_ ?_ | refine' ops_yes rfl rfl (by simp only [Ev.get, reduceIte, Nat.reduceEqDiff, t2, f2, t3, f3, b1, b2, b3, b4, b5]; first | done | rfl) rfl (by decide) ?_ ?_ ?_ | refine' ops_op0 rfl rfl ?_ ?_ ?_); rotate_left 2; (focus (simp only [evOp, opd, constAV, constCell, Ev.get, reduceIte, Nat.reduceEqDiff, reduceCtorEq, evBinN, nilCmp, evBin, evInt, evUn, evConvert, evBuiltin, evLen, evField, evPart, tStr, tInt, tElem, tArr, tBool, tAgg, tField, Try.underlying9, Try.underlying3, Try.underlying4, Try.underlying5, Try.underlying21, Try.underlying38, Try.underlying25, Try.underlying33, Try.underlying2, Try.underlying22, Try.underlying56, Try.underlying54, List.zipWith, Option.map_some, Option.map_none, List.length_cons, List.length_nil, ne_eq, Int.reduceEq, not_false_eq_true, and_self, and_true, true_and, szStr, szInt, Option.getD_some, isNil, evStr, loadStr, loadInt, rowsN_len, rowsBo_len, rowsI_len, evCall, List.size_toArray, List.append_nil, List.nil_append, List.map_cons, List.map_nil, argAV, argCell, List.toList_toArray, fieldTy, t2, f2, t3, f3, b1, b2, b3, b4, b5]; first | done | rfl)); exact (fun h => by first | rfl | (simp at h; done) | exact absurd (Bool.and_eq_true_iff.mp h).2 (by decide))) | refine ops_no rfl rfl (by simp only [Ev.get, reduceIte, Nat.reduceEqDiff, t2, f2, t3, f3, b1, b2, b3, b4, b5]; first | done | rfl) (by decide) rfl (by decide) ?_ | refine ops_off rfl rfl rfl rfl (by decide) ?_ | (refine ops_nil ?_; intro e2 h2; simp only [restr, kpReachedLaw, List.map_cons, List.map_nil, Ev.get, reduceIte, Nat.reduceEqDiff] at h2; subst h2))
            refine runs_cond rfl (fun hc => by cases hc) (fun hc => ?_)
            repeat (first | refine runs_seq ?_ | refine runs_block ?_ | refine next_normal ?_ | refine inside_normal ?_ | refine next_exit ?_ | refine inside_exit ?_ | refine inside_other (by decide) ?_ | refine next_ret ?_ | refine inside_ret ?_ | refine runs_ops_kept ?_ | refine runs_skip ?_ | refine runs_exit ?_ | refine runs_ret ?_ | ((first | refine' ops_op rfl rfl (by decide) ?_ ?_ ?_ | refine' ops_yes rfl rfl (by simp only [Ev.get, reduceIte, Nat.reduceEqDiff, t4, f4, b6]; first | done | rfl) rfl (by decide) ?_ ?_ ?_ | refine' ops_op0 rfl rfl ?_ ?_ ?_); rotate_left 2; (focus (simp only [evOp, opd, constAV, constCell, Ev.get, reduceIte, Nat.reduceEqDiff, reduceCtorEq, evBinN, nilCmp, evBin, evInt, evUn, evConvert, evBuiltin, evLen, evField, evPart, tStr, tInt, tElem, tArr, tBool, tAgg, tField, Try.underlying9, Try.underlying3, Try.underlying4, Try.underlying5, Try.underlying21, Try.underlying38, Try.underlying25, Try.underlying33, Try.underlying2, Try.underlying22, Try.underlying56, Try.underlying54, List.zipWith, Option.map_some, Option.map_none, List.length_cons, List.length_nil, ne_eq, Int.reduceEq, not_false_eq_true, and_self, and_true, true_and, szStr, szInt, Option.getD_some, isNil, evStr, loadStr, loadInt, rowsN_len, rowsBo_len, rowsI_len, evCall, List.size_toArray, List.append_nil, List.nil_append, List.map_cons, List.map_nil, argAV, argCell, List.toList_toArray, fieldTy, t4, f4, b6]; first | done | rfl)); exact (fun h => by first | rfl | (simp at h; done) | exact absurd (Bool.and_eq_true_iff.mp h).2 (by decide))) | refine ops_no rfl rfl (by simp only [Ev.get, reduceIte, Nat.reduceEqDiff, t4, f4, b6]; first | done | rfl) (by decide) rfl (by decide) ?_ | refine ops_off rfl rfl rfl rfl (by decide) ?_ | (refine ops_nil ?_; intro e2 h2; simp only [restr, kpReachedLaw, List.map_cons, List.map_nil, Ev.get, reduceIte, Nat.reduceEqDiff] at h2; subst h2))
            refine runs_cond rfl (fun hc => by cases hc) (fun hc => ?_)
            repeat (first | refine runs_seq ?_ | refine runs_block ?_ | refine next_normal ?_ | refine inside_normal ?_ | refine next_exit ?_ | refine inside_exit ?_ | refine inside_other (by decide) ?_ | refine next_ret ?_ | refine inside_ret ?_ | refine runs_ops_kept ?_ | refine runs_skip ?_ | refine runs_exit ?_ | refine runs_ret ?_ | ((first | refine' ops_op rfl rfl (by decide) ?_ ?_ ?_ | refine' ops_yes rfl rfl (by simp only [Ev.get, reduceIte, Nat.reduceEqDiff]; first | done | rfl) rfl (by decide) ?_ ?_ ?_ | refine' ops_op0 rfl rfl ?_ ?_ ?_); rotate_left 2; (focus (simp only [evOp, opd, constAV, constCell, Ev.get, reduceIte, Nat.reduceEqDiff, reduceCtorEq, evBinN, nilCmp, evBin, evInt, evUn, evConvert, evBuiltin, evLen, evField, evPart, tStr, tInt, tElem, tArr, tBool, tAgg, tField, Try.underlying9, Try.underlying3, Try.underlying4, Try.underlying5, Try.underlying21, Try.underlying38, Try.underlying25, Try.underlying33, Try.underlying2, Try.underlying22, Try.underlying56, Try.underlying54, List.zipWith, Option.map_some, Option.map_none, List.length_cons, List.length_nil, ne_eq, Int.reduceEq, not_false_eq_true, and_self, and_true, true_and, szStr, szInt, Option.getD_some, isNil, evStr, loadStr, loadInt, rowsN_len, rowsBo_len, rowsI_len, evCall, List.size_toArray, List.append_nil, List.nil_append, List.map_cons, List.map_nil, argAV, argCell, List.toList_toArray, fieldTy]; first | done | rfl)); exact (fun h => by first | rfl | (simp at h; done) | exact absurd (Bool.and_eq_true_iff.mp h).2 (by decide))) | refine ops_no rfl rfl (by simp only [Ev.get, reduceIte, Nat.reduceEqDiff]; first | done | rfl) (by decide) rfl (by decide) ?_ | refine ops_off rfl rfl rfl rfl (by decide) ?_ | (refine ops_nil ?_; intro e2 h2; simp only [restr, kpReachedLaw, List.map_cons, List.map_nil, Ev.get, reduceIte, Nat.reduceEqDiff] at h2; subst h2))
            refine runs_loop (fun k e m' => ∃ (i : Nat), i ≤ l.length ∧ m = m' ∧ k = l.length - i ∧
              e = [(0, AV.lst g 7 (rowsN l)), (7, .lst .no 1 (rowsBo b)), (8, .lst .no 1 (rowsI w)), (9, .v (.int .i64 (i : Int)))]) (k := l.length) ⟨0, Nat.zero_le _, rfl, rfl, rfl⟩ ?_
            rintro k e m' ⟨i, hi0, rfl, rfl, rfl⟩
            repeat (first | refine runs_seq ?_ | refine runs_block ?_ | refine next_normal ?_ | refine inside_normal ?_ | refine next_exit ?_ | refine inside_exit ?_ | refine inside_other (by decide) ?_ | refine next_ret ?_ | refine inside_ret ?_ | refine runs_ops_kept ?_ | refine runs_skip ?_ | refine runs_exit ?_ | refine runs_ret ?_ | ((first | refine' ops_op rfl rfl (by decide) ?_ ?_ ?_ | refine' ops_yes rfl rfl (by simp only [Ev.get, reduceIte, Nat.reduceEqDiff]; first | done | rfl) rfl (by decide) ?_ ?_ ?_ | refine' ops_op0 rfl rfl ?_ ?_ ?_); rotate_left 2; (focus (simp only [evOp, opd, constAV, constCell, Ev.get, reduceIte, Nat.reduceEqDiff, reduceCtorEq, evBinN, nilCmp, evBin, evInt, evUn, evConvert, evBuiltin, evLen, evField, evPart, tStr, tInt, tElem, tArr, tBool, tAgg, tField, Try.underlying9, Try.underlying3, Try.underlying4, Try.underlying5, Try.underlying21, Try.underlying38, Try.underlying25, Try.underlying33, Try.underlying2, Try.underlying22, Try.underlying56, Try.underlying54, List.zipWith, Option.map_some, Option.map_none, List.length_cons, List.length_nil, ne_eq, Int.reduceEq, not_false_eq_true, and_self, and_true, true_and, szStr, szInt, Option.getD_some, isNil, evStr, loadStr, loadInt, rowsN_len, rowsBo_len, rowsI_len, evCall, List.size_toArray, List.append_nil, List.nil_append, List.map_cons, List.map_nil, argAV, argCell, List.toList_toArray, fieldTy]; first | done | rfl)); exact (fun h => by first | rfl | (simp at h; done) | exact absurd (Bool.and_eq_true_iff.mp h).2 (by decide))) | refine ops_no rfl rfl (by simp only [Ev.get, reduceIte, Nat.reduceEqDiff]; first | done | rfl) (by decide) rfl (by decide) ?_ | refine ops_off rfl rfl rfl rfl (by decide) ?_ | (refine ops_nil ?_; intro e2 h2; simp only [restr, kpReachedLaw, List.map_cons, List.map_nil, Ev.get, reduceIte, Nat.reduceEqDiff] at h2; subst h2))
            refine runs_cond rfl (fun hc => ?_) (fun hc => ?_)
            · have hi1 : i < l.length := by have := of_decide_eq_true hc; omega
              have f5 := atBools (g := .no) (kk := .i64) (l := b) (i := i) (by omega)
              have f6 := atInts (g := .no) (kk := .i64) (l := w) (i := i) (by omega)
              have r6 := next_i64 (i := i) (by omega)
              have b7 := r5 i hi1
              have b8 : (b.getD i false != decide (w.getD i 0 > 0)) = false := by rw [b7]; simp
              repeat (first | refine runs_seq ?_ | refine runs_block ?_ | refine next_normal ?_ | refine inside_normal ?_ | refine next_exit ?_ | refine inside_exit ?_ | refine inside_other (by decide) ?_ | refine next_ret ?_ | refine inside_ret ?_ | refine runs_ops_kept ?_ | refine runs_skip ?_ | refine runs_exit ?_ | refine runs_ret ?_ | ((first | refine' ops_op rfl rfl (by decide) ?_ ?_ ?_ | refine' ops_yes rfl rfl (by simp only [Ev.get, reduceIte, Nat.reduceEqDiff]; first | done | rfl) rfl (by decide) ?_ ?_ ?_ | refine' ops_op0 rfl rfl ?_ ?_ ?_); rotate_left 2; (focus (simp only [evOp, opd, constAV, constCell, Ev.get, reduceIte, Nat.reduceEqDiff, reduceCtorEq, evBinN, nilCmp, evBin, evInt, evUn, evConvert, evBuiltin, evLen, evField, evPart, tStr, tInt, tElem, tArr, tBool, tAgg, tField, Try.underlying9, Try.underlying3, Try.underlying4, Try.underlying5, Try.underlying21, Try.underlying38, Try.underlying25, Try.underlying33, Try.underlying2, Try.underlying22, Try.underlying56, Try.underlying54, List.zipWith, Option.map_some, Option.map_none, List.length_cons, List.length_nil, ne_eq, Int.reduceEq, not_false_eq_true, and_self, and_true, true_and, szStr, szInt, Option.getD_some, isNil, evStr, loadStr, loadInt, rowsN_len, rowsBo_len, rowsI_len, evCall, List.size_toArray, List.append_nil, List.nil_append, List.map_cons, List.map_nil, argAV, argCell, List.toList_toArray, fieldTy]; first | done | rfl)); exact (fun h => by first | rfl | (simp at h; done) | exact absurd (Bool.and_eq_true_iff.mp h).2 (by decide))) | refine ops_no rfl rfl (by simp only [Ev.get, reduceIte, Nat.reduceEqDiff]; first | done | rfl) (by decide) rfl (by decide) ?_ | refine ops_off rfl rfl rfl rfl (by decide) ?_ | (refine ops_nil ?_; intro e2 h2; simp only [restr, kpReachedLaw, List.map_cons, List.map_nil, Ev.get, reduceIte, Nat.reduceEqDiff] at h2; subst h2))
              refine runs_ops_drawn_kept (by kernel_rfl) ?_
              repeat (first | refine runs_seq ?_ | refine runs_block ?_ | refine next_normal ?_ | refine inside_normal ?_ | refine next_exit ?_ | refine inside_exit ?_ | refine inside_other (by decide) ?_ | refine next_ret ?_ | refine inside_ret ?_ | refine runs_ops_kept ?_ | refine runs_skip ?_ | refine runs_exit ?_ | refine runs_ret ?_ | ((first | refine' ops_op rfl rfl (by decide) ?_ ?_ ?_ | refine' ops_yes rfl rfl (by simp only [Ev.get, reduceIte, Nat.reduceEqDiff, f5, f6, b8]; first | done | rfl) rfl (by decide) ?_ ?_ ?_ | refine' ops_op0 rfl rfl ?_ ?_ ?_); rotate_left 2; (focus (simp only [evOp, opd, constAV, constCell, Ev.get, reduceIte, Nat.reduceEqDiff, reduceCtorEq, evBinN, nilCmp, evBin, evInt, evUn, evConvert, evBuiltin, evLen, evField, evPart, tStr, tInt, tElem, tArr, tBool, tAgg, tField, Try.underlying9, Try.underlying3, Try.underlying4, Try.underlying5, Try.underlying21, Try.underlying38, Try.underlying25, Try.underlying33, Try.underlying2, Try.underlying22, Try.underlying56, Try.underlying54, List.zipWith, Option.map_some, Option.map_none, List.length_cons, List.length_nil, ne_eq, Int.reduceEq, not_false_eq_true, and_self, and_true, true_and, szStr, szInt, Option.getD_some, isNil, evStr, loadStr, loadInt, rowsN_len, rowsBo_len, rowsI_len, evCall, List.size_toArray, List.append_nil, List.nil_append, List.map_cons, List.map_nil, argAV, argCell, List.toList_toArray, fieldTy, f5, f6, ldBool, b8]; first | done | rfl)); exact (fun h => by first | rfl | (simp at h; done) | exact absurd (Bool.and_eq_true_iff.mp h).2 (by decide))) | refine ops_no rfl rfl (by simp only [Ev.get, reduceIte, Nat.reduceEqDiff, f5, f6, b8]; first | done | rfl) (by decide) rfl (by decide) ?_ | refine ops_off rfl rfl rfl rfl (by decide) ?_ | (refine ops_nil ?_; intro e2 h2; simp only [restr, kpReachedLaw, List.map_cons, List.map_nil, Ev.get, reduceIte, Nat.reduceEqDiff] at h2; subst h2))
              refine runs_cond rfl (fun hc => by cases hc) (fun hc => ?_)
              repeat (first | refine runs_seq ?_ | refine runs_block ?_ | refine next_normal ?_ | refine inside_normal ?_ | refine next_exit ?_ | refine inside_exit ?_ | refine inside_other (by decide) ?_ | refine next_ret ?_ | refine inside_ret ?_ | refine runs_ops_kept ?_ | refine runs_skip ?_ | refine runs_exit ?_ | refine runs_ret ?_ | ((first | refine' ops_op rfl rfl (by decide) ?_ ?_ ?_ | refine' ops_yes rfl rfl (by simp only [Ev.get, reduceIte, Nat.reduceEqDiff, r6]; first | done | rfl) rfl (by decide) ?_ ?_ ?_ | refine' ops_op0 rfl rfl ?_ ?_ ?_); rotate_left 2; (focus (simp only [evOp, opd, constAV, constCell, Ev.get, reduceIte, Nat.reduceEqDiff, reduceCtorEq, evBinN, nilCmp, evBin, evInt, evUn, evConvert, evBuiltin, evLen, evField, evPart, tStr, tInt, tElem, tArr, tBool, tAgg, tField, Try.underlying9, Try.underlying3, Try.underlying4, Try.underlying5, Try.underlying21, Try.underlying38, Try.underlying25, Try.underlying33, Try.underlying2, Try.underlying22, Try.underlying56, Try.underlying54, List.zipWith, Option.map_some, Option.map_none, List.length_cons, List.length_nil, ne_eq, Int.reduceEq, not_false_eq_true, and_self, and_true, true_and, szStr, szInt, Option.getD_some, isNil, evStr, loadStr, loadInt, rowsN_len, rowsBo_len, rowsI_len, evCall, List.size_toArray, List.append_nil, List.nil_append, List.map_cons, List.map_nil, argAV, argCell, List.toList_toArray, fieldTy, r6]; first | done | rfl)); exact (fun h => by first | rfl | (simp at h; done) | exact absurd (Bool.and_eq_true_iff.mp h).2 (by decide))) | refine ops_no rfl rfl (by simp only [Ev.get, reduceIte, Nat.reduceEqDiff, r6]; first | done | rfl) (by decide) rfl (by decide) ?_ | refine ops_off rfl rfl rfl rfl (by decide) ?_ | (refine ops_nil ?_; intro e2 h2; simp only [restr, kpReachedLaw, List.map_cons, List.map_nil, Ev.get, reduceIte, Nat.reduceEqDiff] at h2; subst h2))
              exact ⟨l.length - (i + 1), by omega, i + 1, hi1, rfl, rfl, rfl⟩
            · repeat (first
                | refine runs_seq ?_ | refine runs_block ?_ | refine next_normal ?_ | refine inside_normal ?_ | refine next_exit ?_ | refine inside_exit ?_ | refine inside_other (by decide) ?_ | refine next_ret ?_ | refine inside_ret ?_
                | refine runs_ops_kept ?_ | refine runs_skip ?_ | refine runs_exit ?_ | refine runs_ret ?_
                | ((first | refine' ops_op rfl rfl (by decide) ?_ ?_ ?_ | refine' ops_yes rfl rfl (by simp only [Ev.get, reduceIte, Nat.reduceEqDiff, t1, fy]; first | done | rfl) rfl (by decide) ?_ ?_ ?_ | refine' ops_op0 rfl rfl ?_ ?_ ?_); rotate_left 2; (focus (simp only [evOp, opd, constAV, constCell, Ev.get, reduceIte, Nat.reduceEqDiff, reduceCtorEq, evBinN, nilCmp, evBin, evInt, evUn, evConvert, evBuiltin, evLen, evField, evPart, tStr, tInt, tElem, tArr, tBool, tAgg, tField, Try.underlying9, Try.underlying3, Try.underlying4, Try.underlying5, Try.underlying21, Try.underlying38, Try.underlying25, Try.underlying33, Try.underlying2, Try.underlying22, Try.underlying56, Try.underlying54, List.zipWith, Option.map_some, Option.map_none, List.length_cons, List.length_nil, ne_eq, Int.reduceEq, not_false_eq_true, and_self, and_true, true_and, szStr, szInt, Option.getD_some, isNil, evStr, loadStr, loadInt, rowsN_len, rowsBo_len, rowsI_len, evCall, List.size_toArray, List.append_nil, List.nil_append, List.map_cons, List.map_nil, argAV, argCell, List.toList_toArray, fieldTy, t1, fy]; first | done | rfl)); exact (fun h => by first | rfl | (simp at h; done) | exact absurd (Bool.and_eq_true_iff.mp h).2 (by decide)))
                | refine ops_no rfl rfl (by simp only [Ev.get, reduceIte, Nat.reduceEqDiff, t1, fy]; first | done | rfl) (by decide) rfl (by decide) ?_
                | refine ops_off rfl rfl rfl rfl (by decide) ?_
                | (refine ops_nil ?_; intro e2 h2; simp only [restr, kpReachedLaw, List.map_cons, List.map_nil, Ev.get, reduceIte, Nat.reduceEqDiff] at h2; subst h2))
              exact leaves_v rfl rfl
          · have em : marks l ep n = [] := if_neg hall
            rw [em] at f2
            repeat (first | refine runs_seq ?_ | refine runs_block ?_ | refine next_normal ?_ | refine inside_normal ?_ | refine next_exit ?_ | refine inside_exit ?_ | refine inside_other (by decide) ?_ | refine next_ret ?_ | refine inside_ret ?_ | refine runs_ops_kept ?_ | refine runs_skip ?_ | refine runs_exit ?_ | refine runs_ret ?_ | ((first | refine' ops_op rfl rfl (by decide) ?_ ?_ ?_ | refine' ops_yes rfl rfl (by simp only [Ev.get, reduceIte, Nat.reduceEqDiff, b0]; first | done | rfl) rfl (by decide) ?_ ?_ ?_ | refine' ops_op0 rfl rfl ?_ ?_ ?_); rotate_left 2; (focus (simp only [evOp, opd, constAV, constCell, Ev.get, reduceIte, Nat.reduceEqDiff, reduceCtorEq, evBinN, nilCmp, evBin, evInt, evUn, evConvert, evBuiltin, evLen, evField, evPart, tStr, tInt, tElem, tArr, tBool, tAgg, tField, Try.underlying9, Try.underlying3, Try.underlying4, Try.underlying5, Try.underlying21, Try.underlying38, Try.underlying25, Try.underlying33, Try.underlying2, Try.underlying22, Try.underlying56, Try.underlying54, List.zipWith, Option.map_some, Option.map_none, List.length_cons, List.length_nil, ne_eq, Int.reduceEq, not_false_eq_true, and_self, and_true, true_and, szStr, szInt, Option.getD_some, isNil, evStr, loadStr, loadInt, rowsN_len, rowsBo_len, rowsI_len, evCall, List.size_toArray, List.append_nil, List.nil_append, List.map_cons, List.map_nil, argAV, argCell, List.toList_toArray, fieldTy, b0]; first | done | rfl)); exact (fun h => by first | rfl | (simp at h; done) | exact absurd (Bool.and_eq_true_iff.mp h).2 (by decide))) | refine ops_no rfl rfl (by simp only [Ev.get, reduceIte, Nat.reduceEqDiff, b0]; first | done | rfl) (by decide) rfl (by decide) ?_ | refine ops_off rfl rfl rfl rfl (by decide) ?_ | (refine ops_nil ?_; intro e2 h2; simp only [restr, kpReachedLaw, List.map_cons, List.map_nil, Ev.get, reduceIte, Nat.reduceEqDiff] at h2; subst h2))
            refine runs_cond rfl (fun hc => by cases hc) (fun hc => ?_)
            have l0 : ((rowsBo []).length : Int) = 0 := rfl
            repeat' (first | (first | refine runs_seq ?_ | refine runs_block ?_ | refine next_normal ?_ | refine inside_normal ?_ | refine next_exit ?_ | refine inside_exit ?_ | refine inside_other (by decide) ?_ | refine next_ret ?_ | refine inside_ret ?_ | refine runs_ops_kept ?_ | refine runs_skip ?_ | refine runs_exit ?_ | refine runs_ret ?_ | ((first | refine' ops_op rfl rfl (by decide) ?_ ?_ ?_ | refine' ops_yes rfl rfl (by simp only [Ev.get, reduceIte, Nat.reduceEqDiff, t2, f2, t3, f3, t1, fy]; first | done | rfl) rfl (by decide) ?_ ?_ ?_ | refine' ops_op0 rfl rfl ?_ ?_ ?_); rotate_left 2; (focus (simp only [evOp, opd, constAV, constCell, Ev.get, reduceIte, Nat.reduceEqDiff, reduceCtorEq, evBinN, nilCmp, evBin, evInt, evUn, evConvert, evBuiltin, evLen, evField, evPart, tStr, tInt, tElem, tArr, tBool, tAgg, tField, Try.underlying9, Try.underlying3, Try.underlying4, Try.underlying5, Try.underlying21, Try.underlying38, Try.underlying25, Try.underlying33, Try.underlying2, Try.underlying22, Try.underlying56, Try.underlying54, List.zipWith, Option.map_some, Option.map_none, List.length_cons, List.length_nil, ne_eq, Int.reduceEq, not_false_eq_true, and_self, and_true, true_and, szStr, szInt, Option.getD_some, isNil, evStr, loadStr, loadInt, rowsN_len, rowsBo_len, rowsI_len, evCall, List.size_toArray, List.append_nil, List.nil_append, List.map_cons, List.map_nil, argAV, argCell, List.toList_toArray, fieldTy, t2, f2, t3, f3, t1, fy]; first | done | rfl)); exact (fun h => by first | rfl | (simp at h; done) | exact absurd (Bool.and_eq_true_iff.mp h).2 (by decide))) | refine ops_no rfl rfl (by simp only [Ev.get, reduceIte, Nat.reduceEqDiff, t2, f2, t3, f3, t1, fy]; first | done | rfl) (by decide) rfl (by decide) ?_ | refine ops_off rfl rfl rfl rfl (by decide) ?_ | (refine ops_nil ?_; intro e2 h2; simp only [restr, kpReachedLaw, List.map_cons, List.map_nil, Ev.get, reduceIte, Nat.reduceEqDiff] at h2; subst h2)) | (refine ops_here ?_; (fail_if_success (refine ops_case (B := true) rfl rfl rfl ?_ ?_)); (fail_if_success (refine ops_case (B := false) rfl rfl rfl ?_ ?_)); refine ops_case rfl rfl rfl (fun hB => ?_) (fun hB => ?_) <;> rw [hB]) | (refine runs_here ?_; refine runs_cond rfl (fun hc => ?_) (fun hc => ?_) <;> first | (cases hc; done) | skip))
            all_goals first
              | exact leaves_v rfl rfl
              | (exfalso; apply hall; unfold inW; simp only [decide_eq_true_eq, decide_eq_false_iff_not, bne_iff_ne, ne_eq, bne_eq_false_iff_eq, Decidable.not_not] at *; first | (refine ⟨by assumption, by omega, by omega⟩))
        · have b0 : decide ((l.length : Int) > 70) = true := decide_eq_true (by omega)
          repeat (first | refine runs_seq ?_ | refine runs_block ?_ | refine next_normal ?_ | refine inside_normal ?_ | refine next_exit ?_ | refine inside_exit ?_ | refine inside_other (by decide) ?_ | refine next_ret ?_ | refine inside_ret ?_ | refine runs_ops_kept ?_ | refine runs_skip ?_ | refine runs_exit ?_ | refine runs_ret ?_ | ((first | refine' ops_op rfl rfl (by decide) ?_ ?_ ?_ | refine' ops_yes rfl rfl (by simp only [Ev.get, reduceIte, Nat.reduceEqDiff, b0]; first | done | rfl) rfl (by decide) ?_ ?_ ?_ | refine' ops_op0 rfl rfl ?_ ?_ ?_); rotate_left 2; (focus (simp only [evOp, opd, constAV, constCell, Ev.get, reduceIte, Nat.reduceEqDiff, reduceCtorEq, evBinN, nilCmp, evBin, evInt, evUn, evConvert, evBuiltin, evLen, evField, evPart, tStr, tInt, tElem, tArr, tBool, tAgg, tField, Try.underlying9, Try.underlying3, Try.underlying4, Try.underlying5, Try.underlying21, Try.underlying38, Try.underlying25, Try.underlying33, Try.underlying2, Try.underlying22, Try.underlying56, Try.underlying54, List.zipWith, Option.map_some, Option.map_none, List.length_cons, List.length_nil, ne_eq, Int.reduceEq, not_false_eq_true, and_self, and_true, true_and, szStr, szInt, Option.getD_some, isNil, evStr, loadStr, loadInt, rowsN_len, rowsBo_len, rowsI_len, evCall, List.size_toArray, List.append_nil, List.nil_append, List.map_cons, List.map_nil, argAV, argCell, List.toList_toArray, fieldTy, b0]; first | done | rfl)); exact (fun h => by first | rfl | (simp at h; done) | exact absurd (Bool.and_eq_true_iff.mp h).2 (by decide))) | refine ops_no rfl rfl (by simp only [Ev.get, reduceIte, Nat.reduceEqDiff, b0]; first | done | rfl) (by decide) rfl (by decide) ?_ | refine ops_off rfl rfl rfl rfl (by decide) ?_ | (refine ops_nil ?_; intro e2 h2; simp only [restr, kpReachedLaw, List.map_cons, List.map_nil, Ev.get, reduceIte, Nat.reduceEqDiff] at h2; subst h2))
          refine runs_cond rfl (fun hc => ?_) (fun hc => by cases hc)
          repeat (first | refine runs_seq ?_ | refine runs_block ?_ | refine next_normal ?_ | refine inside_normal ?_ | refine next_exit ?_ | refine inside_exit ?_ | refine inside_other (by decide) ?_ | refine next_ret ?_ | refine inside_ret ?_ | refine runs_ops_kept ?_ | refine runs_skip ?_ | refine runs_exit ?_ | refine runs_ret ?_ | ((first | refine' ops_op rfl rfl (by decide) ?_ ?_ ?_ | refine' ops_yes rfl rfl (by simp only [Ev.get, reduceIte, Nat.reduceEqDiff, t1, fy]; first | done | rfl) rfl (by decide) ?_ ?_ ?_ | refine' ops_op0 rfl rfl ?_ ?_ ?_); rotate_left 2; (focus (simp only [evOp, opd, constAV, constCell, Ev.get, reduceIte, Nat.reduceEqDiff, reduceCtorEq, evBinN, nilCmp, evBin, evInt, evUn, evConvert, evBuiltin, evLen, evField, evPart, tStr, tInt, tElem, tArr, tBool, tAgg, tField, Try.underlying9, Try.underlying3, Try.underlying4, Try.underlying5, Try.underlying21, Try.underlying38, Try.underlying25, Try.underlying33, Try.underlying2, Try.underlying22, Try.underlying56, Try.underlying54, List.zipWith, Option.map_some, Option.map_none, List.length_cons, List.length_nil, ne_eq, Int.reduceEq, not_false_eq_true, and_self, and_true, true_and, szStr, szInt, Option.getD_some, isNil, evStr, loadStr, loadInt, rowsN_len, rowsBo_len, rowsI_len, evCall, List.size_toArray, List.append_nil, List.nil_append, List.map_cons, List.map_nil, argAV, argCell, List.toList_toArray, fieldTy, t1, fy]; first | done | rfl)); exact (fun h => by first | rfl | (simp at h; done) | exact absurd (Bool.and_eq_true_iff.mp h).2 (by decide))) | refine ops_no rfl rfl (by simp only [Ev.get, reduceIte, Nat.reduceEqDiff, t1, fy]; first | done | rfl) (by decide) rfl (by decide) ?_ | refine ops_off rfl rfl rfl rfl (by decide) ?_ | (refine ops_nil ?_; intro e2 h2; simp only [restr, kpReachedLaw, List.map_cons, List.map_nil, Ev.get, reduceIte, Nat.reduceEqDiff] at h2; subst h2))
          exact leaves_v rfl rfl
      · cases h
    · cases h
  · cases h
end Go.Proofs.Ytojaokhkbmiidaa.Ev

namespace Go.Proofs.Ytojaokhkbmiidaa.lintReached
open Go Go.Proofs Go.ChangeShapes Go.WideShapes Go.ChangeAt Go.RowKit
set_option linter.unusedVariables false
theorem own : ownKnob Try.prog.godebug = none := by kernel_rfl
theorem laid : laidOutB Try.prog = true := by kernel_rfl
theorem same_left {H : Type} : ∀ ds : List (DataW H), ds.length = 3 → Rows.lintReachedSpec.fn H ds = { results := [.lit (.bool true)], args := ds }
  | [d0, d1, d2], _ => rfl
set_option maxRecDepth 100000 in
theorem holds_at : ∀ vs, Ev.TypedAll Try.prog 6 [22, 3, 3] vs → ∃ m', Ev.lintReachedLawG vs ⟨[], []⟩ = some (.v (.bool true), m') := by
  rintro (_ | ⟨a, _ | ⟨b, _ | ⟨c, _ | ⟨x, r⟩⟩⟩⟩) h
  · exact h.elim
  · exact h.2.elim
  · exact h.2.2.elim
  · obtain ⟨h0, h1, h2, _⟩ := h
    obtain ⟨l, ok, hl, rfl⟩ := Ev.arg_nodes h0
    obtain ⟨n, rfl, n0, n1⟩ := Ev.arg_int Try.underlying3 h1
    obtain ⟨ep, rfl, e0, e1⟩ := Ev.arg_int Try.underlying3 h2
    refine ⟨⟨[], []⟩, ?_⟩
    simp only [Ev.lintReachedLawG, Ev.unN_rowsN]
    exact if_pos hl
  · exact h.2.2.2.elim
set_option maxRecDepth 100000 in
theorem lifted (os : Os) (started : os.Started) (H : Type) (enc : TypeId × Value → H) :
    ReturnsInHanded {} Try.checked os 8 .any (Rows.lintReachedSpec.pre6 enc Try.prog Try.f8 Rows.lintReachedRow.domain false) (Rows.lintReachedSpec.post enc Try.prog Try.f8 false true false false) :=
  Ev.law_lifted (C := Try.checked) own started (by kernel_rfl) Try.func8
    (ChangeSpec.witness6 (enc := enc) (C := Try.checked) false ⟨#[], #[.slice none 0 0, .int .i64 0, .int .i64 0], []⟩ 8 (by kernel_rfl) (by kernel_rfl) (by kernel_rfl) (by kernel_rfl))
    laid rfl [22, 3, 3] Try.params8 6 (by kernel_rfl) (tb := 4) rfl Try.underlying4 same_left Ev.lintReachedLaw_ok holds_at
theorem over : Rows.lintReachedRow.holds Try.pinned (OpenSpec.ofChange Rows.lintReachedSpec) :=
  OpenClaim.holds_of_wide 8 Try.f8 rfl rfl rfl rfl rfl rfl rfl ⟨rfl, rfl, rfl, rfl, rfl⟩ rfl rfl rfl rfl rfl (by kernel_rfl) Try.func8 (by kernel_rfl)
    (of_decide_eq_true (by kernel_rfl)) (by unfold Func.isWrapper; first | (rw [if_pos (by decide +kernel)]; kernel_rfl) | (rw [if_neg (by decide +kernel)]; exact ⟨rfl, rfl⟩))
    (fun os started H enc _ => lifted os started H enc)
theorem proved : Rows.LintReachedSaid := over
end Go.Proofs.Ytojaokhkbmiidaa.lintReached
namespace Go.Proofs.Ytojaokhkbmiidaa
/-- The row, under a short name, for the claim. -/
theorem lintReached_holds : Rows.LintReachedSaid := lintReached.proved
end Go.Proofs.Ytojaokhkbmiidaa
