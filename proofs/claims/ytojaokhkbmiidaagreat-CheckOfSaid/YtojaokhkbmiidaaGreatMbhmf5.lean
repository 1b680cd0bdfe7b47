/- Names: the document's test; lists of names. -/
import Derived.Test.YtojaokhkbmiidaaGreatMbhmf2
import Derived.Test.YtojaokhkbmiidaaGreatMbhmf3
import Derived.Test.YtojaokhkbmiidaaGreatMbhmf4
import Derived.Test.YtojaokhkbmiidaaGreatMbhmf1
import Derived.Test.YtojaokhkbmiidaaGreatMa2
namespace Go.Proofs.YtojaokhkbmiidaaGreat.Ev
open Go Go.Proofs
set_option maxRecDepth 10000
set_option linter.unusedVariables false
set_option linter.unusedSimpArgs false
attribute [local irreducible] Next Inside Runs Ops table
def lowB (c : Nat) : Bool := decide (97 ≤ c) && decide (c ≤ 122)
def otherB (c : Nat) : Bool := (decide (48 ≤ c) && decide (c ≤ 57)) || decide (c = 95)
theorem letter_parts (c : Nat) (f : Bool) : letterB (c : Int) f = (lowB c || (!f && otherB c)) := by
  unfold letterB lowB otherB
  have e1 : decide (97 ≤ (c : Int)) = decide (97 ≤ c) := by congr 1; simp; omega
  have e2 : decide ((c : Int) ≤ 122) = decide (c ≤ 122) := by congr 1; simp; omega
  have e3 : decide (48 ≤ (c : Int)) = decide (48 ≤ c) := by congr 1; simp; omega
  have e4 : decide ((c : Int) ≤ 57) = decide (c ≤ 57) := by congr 1; simp; omega
  have e5 : decide ((c : Int) = 95) = decide (c = 95) := by congr 1; simp; omega
  rw [e1, e2, e3, e4, e5]
def kpRefIs : Nat → Option (List Nat) := fun _ => some [0, 2, 3, 4, 5, 9, 47]
def tabRefIs : List (FuncId × (List AV → Mem → Option (AV × Mem))) := [(94, keywordsG), (93, placeG)]
theorem refIs_ok : FunOk Tryz.prog 42 isNameG := by
  have hC := table_ok (P := Tryz.prog) (l := tabRefIs) (table_more keywords_ok (table_more refPlace_ok table_nil))
  have t1 := fun args mm => table_at (l := tabRefIs) (f := 94) (args := args) (m := mm) rfl
  have t2 := fun args mm => table_at (l := tabRefIs) (f := 93) (args := args) (m := mm) rfl
  refine fun_ok mixed hC Tryz.func42 rfl kpRefIs false rfl fun args m r h => ?_
  unfold isNameG at h
  split at h
  · rename_i s
    split at h
    · rename_i hlen
      simp only [Option.some.injEq] at h
      subst h
      refine ⟨Nat.le_of_ble_eq_true rfl, ?_⟩
      simp only [entry, List.length_cons, List.length_nil, List.range, List.range.loop, List.zip_cons_cons, List.zip_nil_right]
      repeat (first | refine runs_seq ?_ | refine runs_block ?_ | refine next_normal ?_ | refine inside_normal ?_ | refine next_exit ?_ | refine inside_exit ?_ | refine inside_other (by decide) ?_ | refine next_ret ?_ | refine inside_ret ?_ | refine runs_ops_kept ?_ | refine runs_skip ?_ | refine runs_exit ?_ | refine runs_ret ?_ | ((first | refine' ops_op rfl rfl (by decide) ?_ ?_ ?_ | refine' ops_yes rfl rfl (by simp only [Ev.get, reduceIte, Nat.reduceEqDiff]; first | done | rfl) rfl (by decide) ?_ ?_ ?_ | refine' ops_op0 rfl rfl ?_ ?_ ?_); rotate_left 2; (focus (simp only [evOp, opd, constAV, constCell, Ev.get, reduceIte, Nat.reduceEqDiff, reduceCtorEq, evBinN, nilCmp, evBin, evInt, evUn, evConvert, evBuiltin, evLen, evField, evPart, tStr, tInt, tElem, tArr, tBool, tAgg, tField, Tryz.underlying9, Tryz.underlying3, Tryz.underlying4, Tryz.underlying5, Tryz.underlying21, Tryz.underlying22, Tryz.underlying41, Tryz.underlying2, Tryz.underlying33, List.zipWith, Option.map_some, Option.map_none, List.length_cons, List.length_nil, ne_eq, Int.reduceEq, not_false_eq_true, and_self, and_true, true_and, szStr, szInt, Option.getD_some, isNil, loadStr, loadInt, mkInts0, mkInts1, mkStrs0, mkStrs1, rowsS_len, rowsI_len, evStr, evCall, List.size_toArray, List.append_nil, List.nil_append, List.map_cons, List.map_nil, argAV, argCell, List.toList_toArray, fieldTy]; first | done | rfl)); exact (fun h => by first | rfl | (simp at h; done) | exact absurd (Bool.and_eq_true_iff.mp h).2 (by decide))) | refine ops_no rfl rfl (by simp only [Ev.get, reduceIte, Nat.reduceEqDiff]; first | done | rfl) (by decide) rfl (by decide) ?_ | refine ops_off rfl rfl rfl rfl (by decide) ?_ | (refine ops_nil ?_; intro e2 h2; simp only [restr, kpRefIs, List.map_cons, List.map_nil, Ev.get, reduceIte, Nat.reduceEqDiff] at h2; subst h2))
      refine runs_loop (fun k e m' => ∃ (i : Nat) (x4 x5 x9 x47 : AV), i ≤ s.size ∧ lettersTo s i = true ∧ m = m' ∧ k = s.size - i ∧
        e = [(0, AV.v (.string s)), (2, .v (.bool false)), (3, .v (.int .i64 (i : Int))), (4, x4), (5, x5), (9, x9), (47, x47)]) (k := s.size) ⟨0, _, _, _, _, Nat.zero_le _, rfl, rfl, rfl, rfl⟩ ?_
      rintro k e m' ⟨i, x4, x5, x9, x47, hi, hok, rfl, rfl, rfl⟩
      repeat (first | refine runs_seq ?_ | refine runs_block ?_ | refine next_normal ?_ | refine inside_normal ?_ | refine next_exit ?_ | refine inside_exit ?_ | refine inside_other (by decide) ?_ | refine next_ret ?_ | refine inside_ret ?_ | refine runs_ops_kept ?_ | refine runs_skip ?_ | refine runs_exit ?_ | refine runs_ret ?_ | ((first | refine' ops_op rfl rfl (by decide) ?_ ?_ ?_ | refine' ops_yes rfl rfl (by simp only [Ev.get, reduceIte, Nat.reduceEqDiff]; first | done | rfl) rfl (by decide) ?_ ?_ ?_ | refine' ops_op0 rfl rfl ?_ ?_ ?_); rotate_left 2; (focus (simp only [evOp, opd, constAV, constCell, Ev.get, reduceIte, Nat.reduceEqDiff, reduceCtorEq, evBinN, nilCmp, evBin, evInt, evUn, evConvert, evBuiltin, evLen, evField, evPart, tStr, tInt, tElem, tArr, tBool, tAgg, tField, Tryz.underlying9, Tryz.underlying3, Tryz.underlying4, Tryz.underlying5, Tryz.underlying21, Tryz.underlying22, Tryz.underlying41, Tryz.underlying2, Tryz.underlying33, List.zipWith, Option.map_some, Option.map_none, List.length_cons, List.length_nil, ne_eq, Int.reduceEq, not_false_eq_true, and_self, and_true, true_and, szStr, szInt, Option.getD_some, isNil, loadStr, loadInt, mkInts0, mkInts1, mkStrs0, mkStrs1, rowsS_len, rowsI_len, evStr, evCall, List.size_toArray, List.append_nil, List.nil_append, List.map_cons, List.map_nil, argAV, argCell, List.toList_toArray, fieldTy]; first | done | rfl)); exact (fun h => by first | rfl | (simp at h; done) | exact absurd (Bool.and_eq_true_iff.mp h).2 (by decide))) | refine ops_no rfl rfl (by simp only [Ev.get, reduceIte, Nat.reduceEqDiff]; first | done | rfl) (by decide) rfl (by decide) ?_ | refine ops_off rfl rfl rfl rfl (by decide) ?_ | (refine ops_nil ?_; intro e2 h2; simp only [restr, kpRefIs, List.map_cons, List.map_nil, Ev.get, reduceIte, Nat.reduceEqDiff] at h2; subst h2))
      refine runs_cond rfl (fun hc => ?_) (fun hc => ?_)
      · have hi1 : i < s.size := by have := of_decide_eq_true hc; omega
        have fi := index_str (P := Tryz.prog) (k := .i64) strS hi1
        have hl := fun n => lettersTo.eq_2 s n
        have hname := name_no hi1
        have hnext : letterB ((s.get! i).toNat : Nat) (i == 0) = true → lettersTo s (i + 1) = true := fun h => by rw [lettersTo, hok, h]; rfl
        rw [letter_parts] at hname hnext
        generalize (s.get! i).toNat = c at fi hname hnext
        repeat (first | refine runs_seq ?_ | refine runs_block ?_ | refine next_normal ?_ | refine inside_normal ?_ | refine next_exit ?_ | refine inside_exit ?_ | refine inside_other (by decide) ?_ | refine next_ret ?_ | refine inside_ret ?_ | refine runs_ops_kept ?_ | refine runs_skip ?_ | refine runs_exit ?_ | refine runs_ret ?_ | ((first | refine' ops_op rfl rfl (by decide) ?_ ?_ ?_ | refine' ops_yes rfl rfl (by simp only [Ev.get, reduceIte, Nat.reduceEqDiff, fi]; first | done | rfl) rfl (by decide) ?_ ?_ ?_ | refine' ops_op0 rfl rfl ?_ ?_ ?_); rotate_left 2; (focus (simp only [evOp, opd, constAV, constCell, Ev.get, reduceIte, Nat.reduceEqDiff, reduceCtorEq, evBinN, nilCmp, evBin, evInt, evUn, evConvert, evBuiltin, evLen, evField, evPart, tStr, tInt, tElem, tArr, tBool, tAgg, tField, Tryz.underlying9, Tryz.underlying3, Tryz.underlying4, Tryz.underlying5, Tryz.underlying21, Tryz.underlying22, Tryz.underlying41, Tryz.underlying2, Tryz.underlying33, List.zipWith, Option.map_some, Option.map_none, List.length_cons, List.length_nil, ne_eq, Int.reduceEq, not_false_eq_true, and_self, and_true, true_and, szStr, szInt, Option.getD_some, isNil, loadStr, loadInt, mkInts0, mkInts1, mkStrs0, mkStrs1, rowsS_len, rowsI_len, evStr, evCall, List.size_toArray, List.append_nil, List.nil_append, List.map_cons, List.map_nil, argAV, argCell, List.toList_toArray, fieldTy, fi]; first | done | rfl)); exact (fun h => by first | rfl | (simp at h; done) | exact absurd (Bool.and_eq_true_iff.mp h).2 (by decide))) | refine ops_no rfl rfl (by simp only [Ev.get, reduceIte, Nat.reduceEqDiff, fi]; first | done | rfl) (by decide) rfl (by decide) ?_ | refine ops_off rfl rfl rfl rfl (by decide) ?_ | (refine ops_nil ?_; intro e2 h2; simp only [restr, kpRefIs, List.map_cons, List.map_nil, Ev.get, reduceIte, Nat.reduceEqDiff] at h2; subst h2))
        refine ops_cut (K' := fun e' m' => restr (kpRefIs 4) e' = [(0, AV.v (.string s)), (2, .v (.bool false)), (3, .v (.int .i64 (i : Int))), (4, .v (.bool (lowB c))), (5, x5), (9, .v (.bool (decide ((i : Int) < (s.size : Int))))), (47, x47)] ∧ m = m') ?_ ?_
        · by_cases h1 : 97 ≤ c
          · have b1 : decide ((c : Int) ≥ 97) = true := decide_eq_true (by omega)
            have e1 : decide ((c : Int) ≤ 122) = lowB c := by simp [lowB, h1]; omega
            repeat (first | refine runs_seq ?_ | refine runs_block ?_ | refine next_normal ?_ | refine inside_normal ?_ | refine next_exit ?_ | refine inside_exit ?_ | refine inside_other (by decide) ?_ | refine next_ret ?_ | refine inside_ret ?_ | refine runs_ops_kept ?_ | refine runs_skip ?_ | refine runs_exit ?_ | refine runs_ret ?_ | ((first | refine' ops_op rfl rfl (by decide) ?_ ?_ ?_ | refine' ops_yes rfl rfl (by simp only [Ev.get, reduceIte, Nat.reduceEqDiff, fi, b1, e1]; first | done | rfl) rfl (by decide) ?_ ?_ ?_ | refine' ops_op0 rfl rfl ?_ ?_ ?_); rotate_left 2; (focus (simp only [evOp, opd, constAV, constCell, Ev.get, reduceIte, Nat.reduceEqDiff, reduceCtorEq, evBinN, nilCmp, evBin, evInt, evUn, evConvert, evBuiltin, evLen, evField, evPart, tStr, tInt, tElem, tArr, tBool, tAgg, tField, Tryz.underlying9, Tryz.underlying3, Tryz.underlying4, Tryz.underlying5, Tryz.underlying21, Tryz.underlying22, Tryz.underlying41, Tryz.underlying2, Tryz.underlying33, List.zipWith, Option.map_some, Option.map_none, List.length_cons, List.length_nil, ne_eq, Int.reduceEq, not_false_eq_true, and_self, and_true, true_and, szStr, szInt, Option.getD_some, isNil, loadStr, loadInt, mkInts0, mkInts1, mkStrs0, mkStrs1, rowsS_len, rowsI_len, evStr, evCall, List.size_toArray, List.append_nil, List.nil_append, List.map_cons, List.map_nil, argAV, argCell, List.toList_toArray, fieldTy, fi, b1, e1]; first | done | rfl)); exact (fun h => by first | rfl | (simp at h; done) | exact absurd (Bool.and_eq_true_iff.mp h).2 (by decide))) | refine ops_no rfl rfl (by simp only [Ev.get, reduceIte, Nat.reduceEqDiff, fi, b1, e1]; first | done | rfl) (by decide) rfl (by decide) ?_ | refine ops_off rfl rfl rfl rfl (by decide) ?_ | (refine ops_nil ?_; intro e2 h2; simp only [restr, kpRefIs, List.map_cons, List.map_nil, Ev.get, reduceIte, Nat.reduceEqDiff] at h2; subst h2))
            exact ops_nil ⟨by simp only [restr, kpRefIs, List.map_cons, List.map_nil, Ev.get, reduceIte, Nat.reduceEqDiff], rfl⟩
          · have b1 : decide ((c : Int) ≥ 97) = false := decide_eq_false (by omega)
            have e1 : lowB c = false := by simp [lowB, h1]
            rw [e1]
            repeat (first | refine runs_seq ?_ | refine runs_block ?_ | refine next_normal ?_ | refine inside_normal ?_ | refine next_exit ?_ | refine inside_exit ?_ | refine inside_other (by decide) ?_ | refine next_ret ?_ | refine inside_ret ?_ | refine runs_ops_kept ?_ | refine runs_skip ?_ | refine runs_exit ?_ | refine runs_ret ?_ | ((first | refine' ops_op rfl rfl (by decide) ?_ ?_ ?_ | refine' ops_yes rfl rfl (by simp only [Ev.get, reduceIte, Nat.reduceEqDiff, fi, b1]; first | done | rfl) rfl (by decide) ?_ ?_ ?_ | refine' ops_op0 rfl rfl ?_ ?_ ?_); rotate_left 2; (focus (simp only [evOp, opd, constAV, constCell, Ev.get, reduceIte, Nat.reduceEqDiff, reduceCtorEq, evBinN, nilCmp, evBin, evInt, evUn, evConvert, evBuiltin, evLen, evField, evPart, tStr, tInt, tElem, tArr, tBool, tAgg, tField, Tryz.underlying9, Tryz.underlying3, Tryz.underlying4, Tryz.underlying5, Tryz.underlying21, Tryz.underlying22, Tryz.underlying41, Tryz.underlying2, Tryz.underlying33, List.zipWith, Option.map_some, Option.map_none, List.length_cons, List.length_nil, ne_eq, Int.reduceEq, not_false_eq_true, and_self, and_true, true_and, szStr, szInt, Option.getD_some, isNil, loadStr, loadInt, mkInts0, mkInts1, mkStrs0, mkStrs1, rowsS_len, rowsI_len, evStr, evCall, List.size_toArray, List.append_nil, List.nil_append, List.map_cons, List.map_nil, argAV, argCell, List.toList_toArray, fieldTy, fi, b1]; first | done | rfl)); exact (fun h => by first | rfl | (simp at h; done) | exact absurd (Bool.and_eq_true_iff.mp h).2 (by decide))) | refine ops_no rfl rfl (by simp only [Ev.get, reduceIte, Nat.reduceEqDiff, fi, b1]; first | done | rfl) (by decide) rfl (by decide) ?_ | refine ops_off rfl rfl rfl rfl (by decide) ?_ | (refine ops_nil ?_; intro e2 h2; simp only [restr, kpRefIs, List.map_cons, List.map_nil, Ev.get, reduceIte, Nat.reduceEqDiff] at h2; subst h2))
            exact ops_nil ⟨by simp only [restr, kpRefIs, List.map_cons, List.map_nil, Ev.get, reduceIte, Nat.reduceEqDiff], rfl⟩
        · rintro e' m' ⟨he, rfl⟩ e2 h2
          rw [he] at h2
          subst h2
          repeat (first | refine runs_seq ?_ | refine runs_block ?_ | refine next_normal ?_ | refine inside_normal ?_ | refine next_exit ?_ | refine inside_exit ?_ | refine inside_other (by decide) ?_ | refine next_ret ?_ | refine inside_ret ?_ | refine runs_ops_kept ?_ | refine runs_skip ?_ | refine runs_exit ?_ | refine runs_ret ?_ | ((first | refine' ops_op rfl rfl (by decide) ?_ ?_ ?_ | refine' ops_yes rfl rfl (by simp only [Ev.get, reduceIte, Nat.reduceEqDiff, fi]; first | done | rfl) rfl (by decide) ?_ ?_ ?_ | refine' ops_op0 rfl rfl ?_ ?_ ?_); rotate_left 2; (focus (simp only [evOp, opd, constAV, constCell, Ev.get, reduceIte, Nat.reduceEqDiff, reduceCtorEq, evBinN, nilCmp, evBin, evInt, evUn, evConvert, evBuiltin, evLen, evField, evPart, tStr, tInt, tElem, tArr, tBool, tAgg, tField, Tryz.underlying9, Tryz.underlying3, Tryz.underlying4, Tryz.underlying5, Tryz.underlying21, Tryz.underlying22, Tryz.underlying41, Tryz.underlying2, Tryz.underlying33, List.zipWith, Option.map_some, Option.map_none, List.length_cons, List.length_nil, ne_eq, Int.reduceEq, not_false_eq_true, and_self, and_true, true_and, szStr, szInt, Option.getD_some, isNil, loadStr, loadInt, mkInts0, mkInts1, mkStrs0, mkStrs1, rowsS_len, rowsI_len, evStr, evCall, List.size_toArray, List.append_nil, List.nil_append, List.map_cons, List.map_nil, argAV, argCell, List.toList_toArray, fieldTy, fi]; first | done | rfl)); exact (fun h => by first | rfl | (simp at h; done) | exact absurd (Bool.and_eq_true_iff.mp h).2 (by decide))) | refine ops_no rfl rfl (by simp only [Ev.get, reduceIte, Nat.reduceEqDiff, fi]; first | done | rfl) (by decide) rfl (by decide) ?_ | refine ops_off rfl rfl rfl rfl (by decide) ?_ | (refine ops_nil ?_; intro e2 h2; simp only [restr, kpRefIs, List.map_cons, List.map_nil, Ev.get, reduceIte, Nat.reduceEqDiff] at h2; subst h2))
          refine ops_cut (K' := fun e' m' => restr (kpRefIs 5) e' = [(0, AV.v (.string s)), (2, .v (.bool false)), (3, .v (.int .i64 (i : Int))), (4, .v (.bool (lowB c))), (5, .v (.bool (otherB c))), (9, .v (.bool (decide ((i : Int) < (s.size : Int))))), (47, x47)] ∧ m = m') ?_ ?_
          · by_cases h1 : 48 ≤ c
            · have b1 : decide ((c : Int) ≥ 48) = true := decide_eq_true (by omega)
              by_cases h2 : c ≤ 57
              · have b2 : decide ((c : Int) ≤ 57) = true := decide_eq_true (by omega)
                have e1 : otherB c = true := by simp [otherB, h1, h2]
                rw [e1]
                repeat (first | refine runs_seq ?_ | refine runs_block ?_ | refine next_normal ?_ | refine inside_normal ?_ | refine next_exit ?_ | refine inside_exit ?_ | refine inside_other (by decide) ?_ | refine next_ret ?_ | refine inside_ret ?_ | refine runs_ops_kept ?_ | refine runs_skip ?_ | refine runs_exit ?_ | refine runs_ret ?_ | ((first | refine' ops_op rfl rfl (by decide) ?_ ?_ ?_ | refine' ops_yes rfl rfl (by simp only [Ev.get, reduceIte, Nat.reduceEqDiff, fi, b1, b2]; first | done | rfl) rfl (by decide) ?_ ?_ ?_ | refine' ops_op0 rfl rfl ?_ ?_ ?_); rotate_left 2; (focus (simp only [evOp, opd, constAV, constCell, Ev.get, reduceIte, Nat.reduceEqDiff, reduceCtorEq, evBinN, nilCmp, evBin, evInt, evUn, evConvert, evBuiltin, evLen, evField, evPart, tStr, tInt, tElem, tArr, tBool, tAgg, tField, Tryz.underlying9, Tryz.underlying3, Tryz.underlying4, Tryz.underlying5, Tryz.underlying21, Tryz.underlying22, Tryz.underlying41, Tryz.underlying2, Tryz.underlying33, List.zipWith, Option.map_some, Option.map_none, List.length_cons, List.length_nil, ne_eq, Int.reduceEq, not_false_eq_true, and_self, and_true, true_and, szStr, szInt, Option.getD_some, isNil, loadStr, loadInt, mkInts0, mkInts1, mkStrs0, mkStrs1, rowsS_len, rowsI_len, evStr, evCall, List.size_toArray, List.append_nil, List.nil_append, List.map_cons, List.map_nil, argAV, argCell, List.toList_toArray, fieldTy, fi, b1, b2]; first | done | rfl)); exact (fun h => by first | rfl | (simp at h; done) | exact absurd (Bool.and_eq_true_iff.mp h).2 (by decide))) | refine ops_no rfl rfl (by simp only [Ev.get, reduceIte, Nat.reduceEqDiff, fi, b1, b2]; first | done | rfl) (by decide) rfl (by decide) ?_ | refine ops_off rfl rfl rfl rfl (by decide) ?_ | (refine ops_nil ?_; intro e2 h2; simp only [restr, kpRefIs, List.map_cons, List.map_nil, Ev.get, reduceIte, Nat.reduceEqDiff] at h2; subst h2))
                exact ops_nil ⟨by simp only [restr, kpRefIs, List.map_cons, List.map_nil, Ev.get, reduceIte, Nat.reduceEqDiff], rfl⟩
              · have b2 : decide ((c : Int) ≤ 57) = false := decide_eq_false (by omega)
                have e1 : ((c : Int) == 95) = otherB c := by
                  by_cases h3 : c = 95
                  · subst h3; rfl
                  · rw [beq_eq_false_iff_ne.2 (by omega : (c : Int) ≠ 95)]; simp [otherB, h2, h3]
                repeat (first | refine runs_seq ?_ | refine runs_block ?_ | refine next_normal ?_ | refine inside_normal ?_ | refine next_exit ?_ | refine inside_exit ?_ | refine inside_other (by decide) ?_ | refine next_ret ?_ | refine inside_ret ?_ | refine runs_ops_kept ?_ | refine runs_skip ?_ | refine runs_exit ?_ | refine runs_ret ?_ | ((first | refine' ops_op rfl rfl (by decide) ?_ ?_ ?_ | refine' ops_yes rfl rfl (by simp only [Ev.get, reduceIte, Nat.reduceEqDiff, fi, b1, b2, e1]; first | done | rfl) rfl (by decide) ?_ ?_ ?_ | refine' ops_op0 rfl rfl ?_ ?_ ?_); rotate_left 2; (focus (simp only [evOp, opd, constAV, constCell, Ev.get, reduceIte, Nat.reduceEqDiff, reduceCtorEq, evBinN, nilCmp, evBin, evInt, evUn, evConvert, evBuiltin, evLen, evField, evPart, tStr, tInt, tElem, tArr, tBool, tAgg, tField, Tryz.underlying9, Tryz.underlying3, Tryz.underlying4, Tryz.underlying5, Tryz.underlying21, Tryz.underlying22, Tryz.underlying41, Tryz.underlying2, Tryz.underlying33, List.zipWith, Option.map_some, Option.map_none, List.length_cons, List.length_nil, ne_eq, Int.reduceEq, not_false_eq_true, and_self, and_true, true_and, szStr, szInt, Option.getD_some, isNil, loadStr, loadInt, mkInts0, mkInts1, mkStrs0, mkStrs1, rowsS_len, rowsI_len, evStr, evCall, List.size_toArray, List.append_nil, List.nil_append, List.map_cons, List.map_nil, argAV, argCell, List.toList_toArray, fieldTy, fi, b1, b2, e1]; first | done | rfl)); exact (fun h => by first | rfl | (simp at h; done) | exact absurd (Bool.and_eq_true_iff.mp h).2 (by decide))) | refine ops_no rfl rfl (by simp only [Ev.get, reduceIte, Nat.reduceEqDiff, fi, b1, b2, e1]; first | done | rfl) (by decide) rfl (by decide) ?_ | refine ops_off rfl rfl rfl rfl (by decide) ?_ | (refine ops_nil ?_; intro e2 h2; simp only [restr, kpRefIs, List.map_cons, List.map_nil, Ev.get, reduceIte, Nat.reduceEqDiff] at h2; subst h2))
                exact ops_nil ⟨by simp only [restr, kpRefIs, List.map_cons, List.map_nil, Ev.get, reduceIte, Nat.reduceEqDiff], rfl⟩
            · have b1 : decide ((c : Int) ≥ 48) = false := decide_eq_false (by omega)
              have e1 : ((c : Int) == 95) = otherB c := by
                rw [beq_eq_false_iff_ne.2 (by omega : (c : Int) ≠ 95)]; simp [otherB, h1]; omega
              repeat (first | refine runs_seq ?_ | refine runs_block ?_ | refine next_normal ?_ | refine inside_normal ?_ | refine next_exit ?_ | refine inside_exit ?_ | refine inside_other (by decide) ?_ | refine next_ret ?_ | refine inside_ret ?_ | refine runs_ops_kept ?_ | refine runs_skip ?_ | refine runs_exit ?_ | refine runs_ret ?_ | ((first | refine' ops_op rfl rfl (by decide) ?_ ?_ ?_ | refine' ops_yes rfl rfl (by simp only [Ev.get, reduceIte, Nat.reduceEqDiff, fi, b1, e1]; first | done | rfl) rfl (by decide) ?_ ?_ ?_ | refine' ops_op0 rfl rfl ?_ ?_ ?_); rotate_left 2; (focus (simp only [evOp, opd, constAV, constCell, Ev.get, reduceIte, Nat.reduceEqDiff, reduceCtorEq, evBinN, nilCmp, evBin, evInt, evUn, evConvert, evBuiltin, evLen, evField, evPart, tStr, tInt, tElem, tArr, tBool, tAgg, tField, Tryz.underlying9, Tryz.underlying3, Tryz.underlying4, Tryz.underlying5, Tryz.underlying21, Tryz.underlying22, Tryz.underlying41, Tryz.underlying2, Tryz.underlying33, List.zipWith, Option.map_some, Option.map_none, List.length_cons, List.length_nil, ne_eq, Int.reduceEq, not_false_eq_true, and_self, and_true, true_and, szStr, szInt, Option.getD_some, isNil, loadStr, loadInt, mkInts0, mkInts1, mkStrs0, mkStrs1, rowsS_len, rowsI_len, evStr, evCall, List.size_toArray, List.append_nil, List.nil_append, List.map_cons, List.map_nil, argAV, argCell, List.toList_toArray, fieldTy, fi, b1, e1]; first | done | rfl)); exact (fun h => by first | rfl | (simp at h; done) | exact absurd (Bool.and_eq_true_iff.mp h).2 (by decide))) | refine ops_no rfl rfl (by simp only [Ev.get, reduceIte, Nat.reduceEqDiff, fi, b1, e1]; first | done | rfl) (by decide) rfl (by decide) ?_ | refine ops_off rfl rfl rfl rfl (by decide) ?_ | (refine ops_nil ?_; intro e2 h2; simp only [restr, kpRefIs, List.map_cons, List.map_nil, Ev.get, reduceIte, Nat.reduceEqDiff] at h2; subst h2))
              exact ops_nil ⟨by simp only [restr, kpRefIs, List.map_cons, List.map_nil, Ev.get, reduceIte, Nat.reduceEqDiff], rfl⟩
          · rintro e' m' ⟨he, rfl⟩ e2 h2
            rw [he] at h2
            subst h2
            have hz : ((i : Int) == 0) = (i == 0) := by cases i <;> rfl
            repeat (first | refine runs_seq ?_ | refine runs_block ?_ | refine next_normal ?_ | refine inside_normal ?_ | refine next_exit ?_ | refine inside_exit ?_ | refine inside_other (by decide) ?_ | refine next_ret ?_ | refine inside_ret ?_ | refine runs_ops_kept ?_ | refine runs_skip ?_ | refine runs_exit ?_ | refine runs_ret ?_ | ((first | refine' ops_op rfl rfl (by decide) ?_ ?_ ?_ | refine' ops_yes rfl rfl (by simp only [Ev.get, reduceIte, Nat.reduceEqDiff]; first | done | rfl) rfl (by decide) ?_ ?_ ?_ | refine' ops_op0 rfl rfl ?_ ?_ ?_); rotate_left 2; (focus (simp only [evOp, opd, constAV, constCell, Ev.get, reduceIte, Nat.reduceEqDiff, reduceCtorEq, evBinN, nilCmp, evBin, evInt, evUn, evConvert, evBuiltin, evLen, evField, evPart, tStr, tInt, tElem, tArr, tBool, tAgg, tField, Tryz.underlying9, Tryz.underlying3, Tryz.underlying4, Tryz.underlying5, Tryz.underlying21, Tryz.underlying22, Tryz.underlying41, Tryz.underlying2, Tryz.underlying33, List.zipWith, Option.map_some, Option.map_none, List.length_cons, List.length_nil, ne_eq, Int.reduceEq, not_false_eq_true, and_self, and_true, true_and, szStr, szInt, Option.getD_some, isNil, loadStr, loadInt, mkInts0, mkInts1, mkStrs0, mkStrs1, rowsS_len, rowsI_len, evStr, evCall, List.size_toArray, List.append_nil, List.nil_append, List.map_cons, List.map_nil, argAV, argCell, List.toList_toArray, fieldTy]; first | done | rfl)); exact (fun h => by first | rfl | (simp at h; done) | exact absurd (Bool.and_eq_true_iff.mp h).2 (by decide))) | refine ops_no rfl rfl (by simp only [Ev.get, reduceIte, Nat.reduceEqDiff]; first | done | rfl) (by decide) rfl (by decide) ?_ | refine ops_off rfl rfl rfl rfl (by decide) ?_ | (refine ops_nil ?_; intro e2 h2; simp only [restr, kpRefIs, List.map_cons, List.map_nil, Ev.get, reduceIte, Nat.reduceEqDiff] at h2; subst h2))
            refine ops_cut (K' := fun e' m' => restr (kpRefIs 6) e' = [(0, AV.v (.string s)), (2, .v (.bool false)), (3, .v (.int .i64 (i : Int))), (4, .v (.bool (lowB c))), (5, .v (.bool (otherB c))), (9, .v (.bool (decide ((i : Int) < (s.size : Int))))), (47, .v (.bool (!(lowB c || (!(i == 0) && otherB c)))))] ∧ m = m') ?_ ?_
            · cases h1 : lowB c with
              | true =>
                have b1 : (!true) = false := rfl
                repeat (first | refine runs_seq ?_ | refine runs_block ?_ | refine next_normal ?_ | refine inside_normal ?_ | refine next_exit ?_ | refine inside_exit ?_ | refine inside_other (by decide) ?_ | refine next_ret ?_ | refine inside_ret ?_ | refine runs_ops_kept ?_ | refine runs_skip ?_ | refine runs_exit ?_ | refine runs_ret ?_ | ((first | refine' ops_op rfl rfl (by decide) ?_ ?_ ?_ | refine' ops_yes rfl rfl (by simp only [Ev.get, reduceIte, Nat.reduceEqDiff, b1]; first | done | rfl) rfl (by decide) ?_ ?_ ?_ | refine' ops_op0 rfl rfl ?_ ?_ ?_); rotate_left 2; (focus (simp only [evOp, opd, constAV, constCell, Ev.get, reduceIte, Nat.reduceEqDiff, reduceCtorEq, evBinN, nilCmp, evBin, evInt, evUn, evConvert, evBuiltin, evLen, evField, evPart, tStr, tInt, tElem, tArr, tBool, tAgg, tField, Tryz.underlying9, Tryz.underlying3, Tryz.underlying4, Tryz.underlying5, Tryz.underlying21, Tryz.underlying22, Tryz.underlying41, Tryz.underlying2, Tryz.underlying33, List.zipWith, Option.map_some, Option.map_none, List.length_cons, List.length_nil, ne_eq, Int.reduceEq, not_false_eq_true, and_self, and_true, true_and, szStr, szInt, Option.getD_some, isNil, loadStr, loadInt, mkInts0, mkInts1, mkStrs0, mkStrs1, rowsS_len, rowsI_len, evStr, evCall, List.size_toArray, List.append_nil, List.nil_append, List.map_cons, List.map_nil, argAV, argCell, List.toList_toArray, fieldTy, b1]; first | done | rfl)); exact (fun h => by first | rfl | (simp at h; done) | exact absurd (Bool.and_eq_true_iff.mp h).2 (by decide))) | refine ops_no rfl rfl (by simp only [Ev.get, reduceIte, Nat.reduceEqDiff, b1]; first | done | rfl) (by decide) rfl (by decide) ?_ | refine ops_off rfl rfl rfl rfl (by decide) ?_ | (refine ops_nil ?_; intro e2 h2; simp only [restr, kpRefIs, List.map_cons, List.map_nil, Ev.get, reduceIte, Nat.reduceEqDiff] at h2; subst h2))
                exact ops_nil ⟨by simp only [restr, kpRefIs, List.map_cons, List.map_nil, Ev.get, reduceIte, Nat.reduceEqDiff]; rfl, rfl⟩
              | false =>
                have b1 : (!false) = true := rfl
                cases h2 : (i == 0) with
                | true =>
                  repeat (first | refine runs_seq ?_ | refine runs_block ?_ | refine next_normal ?_ | refine inside_normal ?_ | refine next_exit ?_ | refine inside_exit ?_ | refine inside_other (by decide) ?_ | refine next_ret ?_ | refine inside_ret ?_ | refine runs_ops_kept ?_ | refine runs_skip ?_ | refine runs_exit ?_ | refine runs_ret ?_ | ((first | refine' ops_op rfl rfl (by decide) ?_ ?_ ?_ | refine' ops_yes rfl rfl (by simp only [Ev.get, reduceIte, Nat.reduceEqDiff, b1, hz, h2]; first | done | rfl) rfl (by decide) ?_ ?_ ?_ | refine' ops_op0 rfl rfl ?_ ?_ ?_); rotate_left 2; (focus (simp only [evOp, opd, constAV, constCell, Ev.get, reduceIte, Nat.reduceEqDiff, reduceCtorEq, evBinN, nilCmp, evBin, evInt, evUn, evConvert, evBuiltin, evLen, evField, evPart, tStr, tInt, tElem, tArr, tBool, tAgg, tField, Tryz.underlying9, Tryz.underlying3, Tryz.underlying4, Tryz.underlying5, Tryz.underlying21, Tryz.underlying22, Tryz.underlying41, Tryz.underlying2, Tryz.underlying33, List.zipWith, Option.map_some, Option.map_none, List.length_cons, List.length_nil, ne_eq, Int.reduceEq, not_false_eq_true, and_self, and_true, true_and, szStr, szInt, Option.getD_some, isNil, loadStr, loadInt, mkInts0, mkInts1, mkStrs0, mkStrs1, rowsS_len, rowsI_len, evStr, evCall, List.size_toArray, List.append_nil, List.nil_append, List.map_cons, List.map_nil, argAV, argCell, List.toList_toArray, fieldTy, b1, hz, h2]; first | done | rfl)); exact (fun h => by first | rfl | (simp at h; done) | exact absurd (Bool.and_eq_true_iff.mp h).2 (by decide))) | refine ops_no rfl rfl (by simp only [Ev.get, reduceIte, Nat.reduceEqDiff, b1, hz, h2]; first | done | rfl) (by decide) rfl (by decide) ?_ | refine ops_off rfl rfl rfl rfl (by decide) ?_ | (refine ops_nil ?_; intro e2 h2; simp only [restr, kpRefIs, List.map_cons, List.map_nil, Ev.get, reduceIte, Nat.reduceEqDiff] at h2; subst h2))
                  exact ops_nil ⟨by simp only [restr, kpRefIs, List.map_cons, List.map_nil, Ev.get, reduceIte, Nat.reduceEqDiff]; rfl, rfl⟩
                | false =>
                  repeat (first | refine runs_seq ?_ | refine runs_block ?_ | refine next_normal ?_ | refine inside_normal ?_ | refine next_exit ?_ | refine inside_exit ?_ | refine inside_other (by decide) ?_ | refine next_ret ?_ | refine inside_ret ?_ | refine runs_ops_kept ?_ | refine runs_skip ?_ | refine runs_exit ?_ | refine runs_ret ?_ | ((first | refine' ops_op rfl rfl (by decide) ?_ ?_ ?_ | refine' ops_yes rfl rfl (by simp only [Ev.get, reduceIte, Nat.reduceEqDiff, b1, hz, h2]; first | done | rfl) rfl (by decide) ?_ ?_ ?_ | refine' ops_op0 rfl rfl ?_ ?_ ?_); rotate_left 2; (focus (simp only [evOp, opd, constAV, constCell, Ev.get, reduceIte, Nat.reduceEqDiff, reduceCtorEq, evBinN, nilCmp, evBin, evInt, evUn, evConvert, evBuiltin, evLen, evField, evPart, tStr, tInt, tElem, tArr, tBool, tAgg, tField, Tryz.underlying9, Tryz.underlying3, Tryz.underlying4, Tryz.underlying5, Tryz.underlying21, Tryz.underlying22, Tryz.underlying41, Tryz.underlying2, Tryz.underlying33, List.zipWith, Option.map_some, Option.map_none, List.length_cons, List.length_nil, ne_eq, Int.reduceEq, not_false_eq_true, and_self, and_true, true_and, szStr, szInt, Option.getD_some, isNil, loadStr, loadInt, mkInts0, mkInts1, mkStrs0, mkStrs1, rowsS_len, rowsI_len, evStr, evCall, List.size_toArray, List.append_nil, List.nil_append, List.map_cons, List.map_nil, argAV, argCell, List.toList_toArray, fieldTy, b1, hz, h2]; first | done | rfl)); exact (fun h => by first | rfl | (simp at h; done) | exact absurd (Bool.and_eq_true_iff.mp h).2 (by decide))) | refine ops_no rfl rfl (by simp only [Ev.get, reduceIte, Nat.reduceEqDiff, b1, hz, h2]; first | done | rfl) (by decide) rfl (by decide) ?_ | refine ops_off rfl rfl rfl rfl (by decide) ?_ | (refine ops_nil ?_; intro e2 h2; simp only [restr, kpRefIs, List.map_cons, List.map_nil, Ev.get, reduceIte, Nat.reduceEqDiff] at h2; subst h2))
                  exact ops_nil ⟨by simp only [restr, kpRefIs, List.map_cons, List.map_nil, Ev.get, reduceIte, Nat.reduceEqDiff]; cases otherB c <;> rfl, rfl⟩
            · rintro e' m' ⟨he, rfl⟩ e2 h2
              rw [he] at h2
              subst h2
              refine next_normal ?_
              refine runs_cond rfl (fun hc => ?_) (fun hc => ?_)
              · rw [hname (by rw [Bool.not_eq_true'] at hc; exact hc)]
                repeat (first | refine runs_seq ?_ | refine runs_block ?_ | refine next_normal ?_ | refine inside_normal ?_ | refine next_exit ?_ | refine inside_exit ?_ | refine inside_other (by decide) ?_ | refine next_ret ?_ | refine inside_ret ?_ | refine runs_ops_kept ?_ | refine runs_skip ?_ | refine runs_exit ?_ | refine runs_ret ?_ | ((first | refine' ops_op rfl rfl (by decide) ?_ ?_ ?_ | refine' ops_yes rfl rfl (by simp only [Ev.get, reduceIte, Nat.reduceEqDiff]; first | done | rfl) rfl (by decide) ?_ ?_ ?_ | refine' ops_op0 rfl rfl ?_ ?_ ?_); rotate_left 2; (focus (simp only [evOp, opd, constAV, constCell, Ev.get, reduceIte, Nat.reduceEqDiff, reduceCtorEq, evBinN, nilCmp, evBin, evInt, evUn, evConvert, evBuiltin, evLen, evField, evPart, tStr, tInt, tElem, tArr, tBool, tAgg, tField, Tryz.underlying9, Tryz.underlying3, Tryz.underlying4, Tryz.underlying5, Tryz.underlying21, Tryz.underlying22, Tryz.underlying41, Tryz.underlying2, Tryz.underlying33, List.zipWith, Option.map_some, Option.map_none, List.length_cons, List.length_nil, ne_eq, Int.reduceEq, not_false_eq_true, and_self, and_true, true_and, szStr, szInt, Option.getD_some, isNil, loadStr, loadInt, mkInts0, mkInts1, mkStrs0, mkStrs1, rowsS_len, rowsI_len, evStr, evCall, List.size_toArray, List.append_nil, List.nil_append, List.map_cons, List.map_nil, argAV, argCell, List.toList_toArray, fieldTy]; first | done | rfl)); exact (fun h => by first | rfl | (simp at h; done) | exact absurd (Bool.and_eq_true_iff.mp h).2 (by decide))) | refine ops_no rfl rfl (by simp only [Ev.get, reduceIte, Nat.reduceEqDiff]; first | done | rfl) (by decide) rfl (by decide) ?_ | refine ops_off rfl rfl rfl rfl (by decide) ?_ | (refine ops_nil ?_; intro e2 h2; simp only [restr, kpRefIs, List.map_cons, List.map_nil, Ev.get, reduceIte, Nat.reduceEqDiff] at h2; subst h2))
                exact leaves_v rfl rfl
              · have r6 := next_i64 (i := i) (by omega)
                repeat (first | refine runs_seq ?_ | refine runs_block ?_ | refine next_normal ?_ | refine inside_normal ?_ | refine next_exit ?_ | refine inside_exit ?_ | refine inside_other (by decide) ?_ | refine next_ret ?_ | refine inside_ret ?_ | refine runs_ops_kept ?_ | refine runs_skip ?_ | refine runs_exit ?_ | refine runs_ret ?_ | ((first | refine' ops_op rfl rfl (by decide) ?_ ?_ ?_ | refine' ops_yes rfl rfl (by simp only [Ev.get, reduceIte, Nat.reduceEqDiff, r6]; first | done | rfl) rfl (by decide) ?_ ?_ ?_ | refine' ops_op0 rfl rfl ?_ ?_ ?_); rotate_left 2; (focus (simp only [evOp, opd, constAV, constCell, Ev.get, reduceIte, Nat.reduceEqDiff, reduceCtorEq, evBinN, nilCmp, evBin, evInt, evUn, evConvert, evBuiltin, evLen, evField, evPart, tStr, tInt, tElem, tArr, tBool, tAgg, tField, Tryz.underlying9, Tryz.underlying3, Tryz.underlying4, Tryz.underlying5, Tryz.underlying21, Tryz.underlying22, Tryz.underlying41, Tryz.underlying2, Tryz.underlying33, List.zipWith, Option.map_some, Option.map_none, List.length_cons, List.length_nil, ne_eq, Int.reduceEq, not_false_eq_true, and_self, and_true, true_and, szStr, szInt, Option.getD_some, isNil, loadStr, loadInt, mkInts0, mkInts1, mkStrs0, mkStrs1, rowsS_len, rowsI_len, evStr, evCall, List.size_toArray, List.append_nil, List.nil_append, List.map_cons, List.map_nil, argAV, argCell, List.toList_toArray, fieldTy, r6]; first | done | rfl)); exact (fun h => by first | rfl | (simp at h; done) | exact absurd (Bool.and_eq_true_iff.mp h).2 (by decide))) | refine ops_no rfl rfl (by simp only [Ev.get, reduceIte, Nat.reduceEqDiff, r6]; first | done | rfl) (by decide) rfl (by decide) ?_ | refine ops_off rfl rfl rfl rfl (by decide) ?_ | (refine ops_nil ?_; intro e2 h2; simp only [restr, kpRefIs, List.map_cons, List.map_nil, Ev.get, reduceIte, Nat.reduceEqDiff] at h2; subst h2))
                exact ⟨s.size - (i + 1), by omega, i + 1, _, _, _, _, hi1, hnext (by rw [Bool.not_eq_false'] at hc; exact hc), rfl, rfl, rfl⟩
      · have hi1 : i = s.size := by have := of_decide_eq_false hc; omega
        subst hi1
        repeat (first | refine runs_seq ?_ | refine runs_block ?_ | refine next_normal ?_ | refine inside_normal ?_ | refine next_exit ?_ | refine inside_exit ?_ | refine inside_other (by decide) ?_ | refine next_ret ?_ | refine inside_ret ?_ | refine runs_ops_kept ?_ | refine runs_skip ?_ | refine runs_exit ?_ | refine runs_ret ?_ | ((first | refine' ops_op rfl rfl (by decide) ?_ ?_ ?_ | refine' ops_yes rfl rfl (by simp only [Ev.get, reduceIte, Nat.reduceEqDiff]; first | done | rfl) rfl (by decide) ?_ ?_ ?_ | refine' ops_op0 rfl rfl ?_ ?_ ?_); rotate_left 2; (focus (simp only [evOp, opd, constAV, constCell, Ev.get, reduceIte, Nat.reduceEqDiff, reduceCtorEq, evBinN, nilCmp, evBin, evInt, evUn, evConvert, evBuiltin, evLen, evField, evPart, tStr, tInt, tElem, tArr, tBool, tAgg, tField, Tryz.underlying9, Tryz.underlying3, Tryz.underlying4, Tryz.underlying5, Tryz.underlying21, Tryz.underlying22, Tryz.underlying41, Tryz.underlying2, Tryz.underlying33, List.zipWith, Option.map_some, Option.map_none, List.length_cons, List.length_nil, ne_eq, Int.reduceEq, not_false_eq_true, and_self, and_true, true_and, szStr, szInt, Option.getD_some, isNil, loadStr, loadInt, mkInts0, mkInts1, mkStrs0, mkStrs1, rowsS_len, rowsI_len, evStr, evCall, List.size_toArray, List.append_nil, List.nil_append, List.map_cons, List.map_nil, argAV, argCell, List.toList_toArray, fieldTy]; first | done | rfl)); exact (fun h => by first | rfl | (simp at h; done) | exact absurd (Bool.and_eq_true_iff.mp h).2 (by decide))) | refine ops_no rfl rfl (by simp only [Ev.get, reduceIte, Nat.reduceEqDiff]; first | done | rfl) (by decide) rfl (by decide) ?_ | refine ops_off rfl rfl rfl rfl (by decide) ?_ | (refine ops_nil ?_; intro e2 h2; simp only [restr, kpRefIs, List.map_cons, List.map_nil, Ev.get, reduceIte, Nat.reduceEqDiff] at h2; subst h2))
        have fk : ∀ mm, keywordsG [] mm = some (.lst .no 1 (rowsS kwRef), mm) := fun _ => rfl
        have fp := fun mm => placeG_eq (m := mm) (g := .no) (l := kwRef) (s := s) (by decide)
        have kp := kw_place s
        have e3 : decide (placeOf kwRef s < 0) = !keyword s := by
          rw [← kp]
          by_cases h : 0 ≤ placeOf kwRef s
          · rw [decide_eq_true h, decide_eq_false (by omega)]; rfl
          · rw [decide_eq_false h, decide_eq_true (by omega)]; rfl
        by_cases h1 : 1 ≤ s.size
        · have b1 : decide ((s.size : Int) ≥ 1) = true := decide_eq_true (by omega)
          by_cases h2 : s.size ≤ 16
          · have b2 : decide ((s.size : Int) ≤ 16) = true := decide_eq_true (by omega)
            repeat (first | refine runs_seq ?_ | refine runs_block ?_ | refine next_normal ?_ | refine inside_normal ?_ | refine next_exit ?_ | refine inside_exit ?_ | refine inside_other (by decide) ?_ | refine next_ret ?_ | refine inside_ret ?_ | refine runs_ops_kept ?_ | refine runs_skip ?_ | refine runs_exit ?_ | refine runs_ret ?_ | ((first | refine' ops_op rfl rfl (by decide) ?_ ?_ ?_ | refine' ops_yes rfl rfl (by simp only [Ev.get, reduceIte, Nat.reduceEqDiff, b1, b2, t1, fk, t2, fp, e3]; first | done | rfl) rfl (by decide) ?_ ?_ ?_ | refine' ops_op0 rfl rfl ?_ ?_ ?_); rotate_left 2; (focus (simp only [evOp, opd, constAV, constCell, Ev.get, reduceIte, Nat.reduceEqDiff, reduceCtorEq, evBinN, nilCmp, evBin, evInt, evUn, evConvert, evBuiltin, evLen, evField, evPart, tStr, tInt, tElem, tArr, tBool, tAgg, tField, Tryz.underlying9, Tryz.underlying3, Tryz.underlying4, Tryz.underlying5, Tryz.underlying21, Tryz.underlying22, Tryz.underlying41, Tryz.underlying2, Tryz.underlying33, List.zipWith, Option.map_some, Option.map_none, List.length_cons, List.length_nil, ne_eq, Int.reduceEq, not_false_eq_true, and_self, and_true, true_and, szStr, szInt, Option.getD_some, isNil, loadStr, loadInt, mkInts0, mkInts1, mkStrs0, mkStrs1, rowsS_len, rowsI_len, evStr, evCall, List.size_toArray, List.append_nil, List.nil_append, List.map_cons, List.map_nil, argAV, argCell, List.toList_toArray, fieldTy, b1, b2, t1, fk, t2, fp, e3]; first | done | rfl)); exact (fun h => by first | rfl | (simp at h; done) | exact absurd (Bool.and_eq_true_iff.mp h).2 (by decide))) | refine ops_no rfl rfl (by simp only [Ev.get, reduceIte, Nat.reduceEqDiff, b1, b2, t1, fk, t2, fp, e3]; first | done | rfl) (by decide) rfl (by decide) ?_ | refine ops_off rfl rfl rfl rfl (by decide) ?_ | (refine ops_nil ?_; intro e2 h2; simp only [restr, kpRefIs, List.map_cons, List.map_nil, Ev.get, reduceIte, Nat.reduceEqDiff] at h2; subst h2))
            exact leaves_v rfl (by simp [isName, hok, h1, h2]; rfl)
          · have b2 : decide ((s.size : Int) ≤ 16) = false := decide_eq_false (by omega)
            repeat (first | refine runs_seq ?_ | refine runs_block ?_ | refine next_normal ?_ | refine inside_normal ?_ | refine next_exit ?_ | refine inside_exit ?_ | refine inside_other (by decide) ?_ | refine next_ret ?_ | refine inside_ret ?_ | refine runs_ops_kept ?_ | refine runs_skip ?_ | refine runs_exit ?_ | refine runs_ret ?_ | ((first | refine' ops_op rfl rfl (by decide) ?_ ?_ ?_ | refine' ops_yes rfl rfl (by simp only [Ev.get, reduceIte, Nat.reduceEqDiff, b1, b2, t1, fk, t2, fp, e3]; first | done | rfl) rfl (by decide) ?_ ?_ ?_ | refine' ops_op0 rfl rfl ?_ ?_ ?_); rotate_left 2; (focus (simp only [evOp, opd, constAV, constCell, Ev.get, reduceIte, Nat.reduceEqDiff, reduceCtorEq, evBinN, nilCmp, evBin, evInt, evUn, evConvert, evBuiltin, evLen, evField, evPart, tStr, tInt, tElem, tArr, tBool, tAgg, tField, Tryz.underlying9, Tryz.underlying3, Tryz.underlying4, Tryz.underlying5, Tryz.underlying21, Tryz.underlying22, Tryz.underlying41, Tryz.underlying2, Tryz.underlying33, List.zipWith, Option.map_some, Option.map_none, List.length_cons, List.length_nil, ne_eq, Int.reduceEq, not_false_eq_true, and_self, and_true, true_and, szStr, szInt, Option.getD_some, isNil, loadStr, loadInt, mkInts0, mkInts1, mkStrs0, mkStrs1, rowsS_len, rowsI_len, evStr, evCall, List.size_toArray, List.append_nil, List.nil_append, List.map_cons, List.map_nil, argAV, argCell, List.toList_toArray, fieldTy, b1, b2, t1, fk, t2, fp, e3]; first | done | rfl)); exact (fun h => by first | rfl | (simp at h; done) | exact absurd (Bool.and_eq_true_iff.mp h).2 (by decide))) | refine ops_no rfl rfl (by simp only [Ev.get, reduceIte, Nat.reduceEqDiff, b1, b2, t1, fk, t2, fp, e3]; first | done | rfl) (by decide) rfl (by decide) ?_ | refine ops_off rfl rfl rfl rfl (by decide) ?_ | (refine ops_nil ?_; intro e2 h2; simp only [restr, kpRefIs, List.map_cons, List.map_nil, Ev.get, reduceIte, Nat.reduceEqDiff] at h2; subst h2))
            exact leaves_v rfl (by simp [isName, h2]; rfl)
        · have b1 : decide ((s.size : Int) ≥ 1) = false := decide_eq_false (by omega)
          repeat (first | refine runs_seq ?_ | refine runs_block ?_ | refine next_normal ?_ | refine inside_normal ?_ | refine next_exit ?_ | refine inside_exit ?_ | refine inside_other (by decide) ?_ | refine next_ret ?_ | refine inside_ret ?_ | refine runs_ops_kept ?_ | refine runs_skip ?_ | refine runs_exit ?_ | refine runs_ret ?_ | ((first | refine' ops_op rfl rfl (by decide) ?_ ?_ ?_ | refine' ops_yes rfl rfl (by simp only [Ev.get, reduceIte, Nat.reduceEqDiff, b1, t1, fk, t2, fp, e3]; first | done | rfl) rfl (by decide) ?_ ?_ ?_ | refine' ops_op0 rfl rfl ?_ ?_ ?_); rotate_left 2; (focus (simp only [evOp, opd, constAV, constCell, Ev.get, reduceIte, Nat.reduceEqDiff, reduceCtorEq, evBinN, nilCmp, evBin, evInt, evUn, evConvert, evBuiltin, evLen, evField, evPart, tStr, tInt, tElem, tArr, tBool, tAgg, tField, Tryz.underlying9, Tryz.underlying3, Tryz.underlying4, Tryz.underlying5, Tryz.underlying21, Tryz.underlying22, Tryz.underlying41, Tryz.underlying2, Tryz.underlying33, List.zipWith, Option.map_some, Option.map_none, List.length_cons, List.length_nil, ne_eq, Int.reduceEq, not_false_eq_true, and_self, and_true, true_and, szStr, szInt, Option.getD_some, isNil, loadStr, loadInt, mkInts0, mkInts1, mkStrs0, mkStrs1, rowsS_len, rowsI_len, evStr, evCall, List.size_toArray, List.append_nil, List.nil_append, List.map_cons, List.map_nil, argAV, argCell, List.toList_toArray, fieldTy, b1, t1, fk, t2, fp, e3]; first | done | rfl)); exact (fun h => by first | rfl | (simp at h; done) | exact absurd (Bool.and_eq_true_iff.mp h).2 (by decide))) | refine ops_no rfl rfl (by simp only [Ev.get, reduceIte, Nat.reduceEqDiff, b1, t1, fk, t2, fp, e3]; first | done | rfl) (by decide) rfl (by decide) ?_ | refine ops_off rfl rfl rfl rfl (by decide) ?_ | (refine ops_nil ?_; intro e2 h2; simp only [restr, kpRefIs, List.map_cons, List.map_nil, Ev.get, reduceIte, Nat.reduceEqDiff] at h2; subst h2))
          exact leaves_v rfl (by simp [isName, h1]; rfl)
    · cases h
  · cases h
end Go.Proofs.YtojaokhkbmiidaaGreat.Ev

namespace Go.Proofs.YtojaokhkbmiidaaGreat.Ev
open Go Go.Proofs
set_option maxRecDepth 10000
set_option maxHeartbeats 8000000
set_option linter.unusedVariables false
set_option linter.unusedSimpArgs false
attribute [local irreducible] Next Inside Runs Ops table
attribute [local go_sem] szStr szInt Option.getD_some isNil evStr loadStr loadInt rowsI_len rowsS_len
def unJ : List (List AV) → Option (List Int)
  | [] => some []
  | [.v (.int .i64 b)] :: r => (unJ r).map fun l => b :: l
  | _ => none
theorem unJ_some : ∀ {rows : List (List AV)} {l : List Int}, unJ rows = some l → rows = rowsI l
  | [], l, h => by simp only [unJ, Option.some.injEq] at h; subst h; rfl
  | row :: r, l, h => by
    unfold unJ at h
    split at h
    · rename_i heq; cases heq
    · rename_i b r' heq
      cases heq
      cases hr : unJ r with
      | none => simp [hr] at h
      | some l' =>
        simp only [hr, Option.map_some, Option.some.injEq] at h
        subst h
        rw [unJ_some hr]
        rfl
    · cases h
theorem unJ_rowsI : ∀ (l : List Int), unJ (rowsI l) = some l
  | [] => rfl
  | s :: l => by
    have e : rowsI (s :: l) = [.v (.int .i64 s)] :: rowsI l := rfl
    rw [e, unJ, unJ_rowsI l]
    rfl
def rcountsNot (x : Int) : Bool := !countB x
def rcountsG : List AV → Mem → Option (AV × Mem)
  | [.lst _ 1 rows], m =>
    match unJ rows with
    | some l => if l.length ≤ 100 then some (.v (.bool (!(l.any rcountsNot))), m) else none
    | none => none
  | _, _ => none
theorem rcountsG_at {m : Mem} {g : Grow} {l : List Int} (h : l.length ≤ 100) : rcountsG [.lst g 1 (rowsI l)] m = some (.v (.bool (!(l.any rcountsNot))), m) := by
  simp only [rcountsG, unJ_rowsI]
  rw [if_pos h]
def kp_rcounts : Nat → Option (List Nat) := fun
  | 0 => some [0]
  | 1 => some [0, 3]
  | 2 => some [0, 3, 7]
  | 3 => some [0, 3]
  | 4 => some [0, 3, 21]
  | 5 => some [2]
  | 6 => some [2]
  | _ => none
attribute [go_sem] kp_rcounts
theorem rcounts_ok : FunOk Tryz.prog 40 rcountsG := by
  have hC := table_ok (P := Tryz.prog) (l := []) table_nil
  refine fun_ok mixed hC Tryz.func40 rfl kp_rcounts false rfl fun args m r h => ?_
  unfold rcountsG at h
  split at h
  · rename_i g rows
    split at h
    · rename_i l hl
      obtain rfl := unJ_some hl
      split at h
      · rename_i hlen
        simp only [Option.some.injEq] at h
        subst h
        refine ⟨Nat.le_of_ble_eq_true rfl, ?_⟩
        simp only [entry, List.length_cons, List.length_nil, List.range, List.range.loop, List.zip_cons_cons, List.zip_nil_right]
        have hany := firstBy_any rcountsNot l 0
        refine go0 ?_
        refine runs_loop (fun k e m' => ∃ (i : Nat), i ≤ l.length ∧ firstBy rcountsNot (l.drop i) i = firstBy rcountsNot l 0 ∧ m = m' ∧ k = l.length - i ∧
          e = [(0, AV.lst g 1 (rowsI l)), (3, .v (.int .i64 (i : Int)))]) (k := l.length) ⟨0, Nat.zero_le _, rfl, rfl, rfl, rfl⟩ ?_
        rintro k e m' ⟨i, hi, hf, rfl, rfl, rfl⟩
        refine go0 ?_
        refine runs_cond rfl (fun hc => ?_) (fun hc => ?_)
        · have hi1 : i < l.length := by have := of_decide_eq_true hc; omega
          have f1 := atInts (g := g) (kk := .i64) hi1
          have hyes := fun hp => by_yes (d := (0 : Int)) hi1 hp hf
          have hno := fun hp => by_no (d := (0 : Int)) hi1 hp hf
          have r6 := next_i64 (i := i) (by omega)
          generalize l.getD i 0 = x at f1 hyes hno
          have hx : rcountsNot x = !decide (0 ≤ x ∧ x ≤ 1099511627776) := rfl
          by_cases h0 : x < 0
          · have b0 : decide (x < 0) = true := decide_eq_true h0
            have hy := hyes (by rw [hx, decide_eq_false (by omega)]; rfl)
            rw [hy, decide_eq_true (by omega)] at hany
            rw [← hany]
            repeat' (first | refine gos1 (jn @f1 @b0) ?_ | (refine ops_here ?_; (fail_if_success (refine ops_case (B := true) rfl rfl rfl ?_ ?_)); (fail_if_success (refine ops_case (B := false) rfl rfl rfl ?_ ?_)); refine ops_case rfl rfl rfl (fun hB => ?_) (fun hB => ?_) <;> rw [hB]) | (refine runs_here ?_; refine runs_cond rfl (fun hc => ?_) (fun hc => ?_) <;> first | (cases hc; done) | skip))
            all_goals exact leaves_v rfl rfl
          · have b0 : decide (x < 0) = false := decide_eq_false h0
            by_cases h1 : x > 1099511627776
            · have b1 : decide (x > 1099511627776) = true := decide_eq_true h1
              have hy := hyes (by rw [hx, decide_eq_false (by omega)]; rfl)
              rw [hy, decide_eq_true (by omega)] at hany
              rw [← hany]
              repeat' (first | refine gos1 (jn @f1 (jn @b0 @b1)) ?_ | (refine ops_here ?_; (fail_if_success (refine ops_case (B := true) rfl rfl rfl ?_ ?_)); (fail_if_success (refine ops_case (B := false) rfl rfl rfl ?_ ?_)); refine ops_case rfl rfl rfl (fun hB => ?_) (fun hB => ?_) <;> rw [hB]) | (refine runs_here ?_; refine runs_cond rfl (fun hc => ?_) (fun hc => ?_) <;> first | (cases hc; done) | skip))
              all_goals exact leaves_v rfl rfl
            · have b1 : decide (x > 1099511627776) = false := decide_eq_false h1
              have hn := hno (by rw [hx, decide_eq_true (by omega)]; rfl)
              refine go1 (jn @f1 (jn @b0 @b1)) ?_
              refine runs_cond rfl (fun hc => by cases hc) (fun hc => ?_)
              refine go1 @r6 ?_
              exact ⟨l.length - (i + 1), by omega, i + 1, hi1, hn, rfl, rfl, rfl⟩
        · have hi1 : i = l.length := by have := of_decide_eq_false hc; omega
          subst hi1
          rw [by_end hf] at hany
          rw [← hany]
          refine go0 ?_
          exact leaves_v rfl rfl
      · cases h
    · cases h
  · cases h
def rvaluesNot (x : Int) : Bool := !valueB x
def rvaluesG : List AV → Mem → Option (AV × Mem)
  | [.lst _ 1 rows], m =>
    match unJ rows with
    | some l => if l.length ≤ 100 then some (.v (.bool (!(l.any rvaluesNot))), m) else none
    | none => none
  | _, _ => none
theorem rvaluesG_at {m : Mem} {g : Grow} {l : List Int} (h : l.length ≤ 100) : rvaluesG [.lst g 1 (rowsI l)] m = some (.v (.bool (!(l.any rvaluesNot))), m) := by
  simp only [rvaluesG, unJ_rowsI]
  rw [if_pos h]
def kp_rvalues : Nat → Option (List Nat) := fun
  | 0 => some [0]
  | 1 => some [0, 3]
  | 2 => some [0, 3, 7]
  | 3 => some [0, 3]
  | 4 => some [0, 3, 21]
  | 5 => some [2]
  | 6 => some [2]
  | _ => none
attribute [go_sem] kp_rvalues
theorem rvalues_ok : FunOk Tryz.prog 98 rvaluesG := by
  have hC := table_ok (P := Tryz.prog) (l := []) table_nil
  refine fun_ok mixed hC Tryz.func98 rfl kp_rvalues false rfl fun args m r h => ?_
  unfold rvaluesG at h
  split at h
  · rename_i g rows
    split at h
    · rename_i l hl
      obtain rfl := unJ_some hl
      split at h
      · rename_i hlen
        simp only [Option.some.injEq] at h
        subst h
        refine ⟨Nat.le_of_ble_eq_true rfl, ?_⟩
        simp only [entry, List.length_cons, List.length_nil, List.range, List.range.loop, List.zip_cons_cons, List.zip_nil_right]
        have hany := firstBy_any rvaluesNot l 0
        refine go0 ?_
        refine runs_loop (fun k e m' => ∃ (i : Nat), i ≤ l.length ∧ firstBy rvaluesNot (l.drop i) i = firstBy rvaluesNot l 0 ∧ m = m' ∧ k = l.length - i ∧
          e = [(0, AV.lst g 1 (rowsI l)), (3, .v (.int .i64 (i : Int)))]) (k := l.length) ⟨0, Nat.zero_le _, rfl, rfl, rfl, rfl⟩ ?_
        rintro k e m' ⟨i, hi, hf, rfl, rfl, rfl⟩
        refine go0 ?_
        refine runs_cond rfl (fun hc => ?_) (fun hc => ?_)
        · have hi1 : i < l.length := by have := of_decide_eq_true hc; omega
          have f1 := atInts (g := g) (kk := .i64) hi1
          have hyes := fun hp => by_yes (d := (0 : Int)) hi1 hp hf
          have hno := fun hp => by_no (d := (0 : Int)) hi1 hp hf
          have r6 := next_i64 (i := i) (by omega)
          generalize l.getD i 0 = x at f1 hyes hno
          have hx : rvaluesNot x = !decide (0 ≤ x ∧ x ≤ 4503599627370496) := rfl
          by_cases h0 : x < 0
          · have b0 : decide (x < 0) = true := decide_eq_true h0
            have hy := hyes (by rw [hx, decide_eq_false (by omega)]; rfl)
            rw [hy, decide_eq_true (by omega)] at hany
            rw [← hany]
            repeat' (first | refine gos1 (jn @f1 @b0) ?_ | (refine ops_here ?_; (fail_if_success (refine ops_case (B := true) rfl rfl rfl ?_ ?_)); (fail_if_success (refine ops_case (B := false) rfl rfl rfl ?_ ?_)); refine ops_case rfl rfl rfl (fun hB => ?_) (fun hB => ?_) <;> rw [hB]) | (refine runs_here ?_; refine runs_cond rfl (fun hc => ?_) (fun hc => ?_) <;> first | (cases hc; done) | skip))
            all_goals exact leaves_v rfl rfl
          · have b0 : decide (x < 0) = false := decide_eq_false h0
            by_cases h1 : x > 4503599627370496
            · have b1 : decide (x > 4503599627370496) = true := decide_eq_true h1
              have hy := hyes (by rw [hx, decide_eq_false (by omega)]; rfl)
              rw [hy, decide_eq_true (by omega)] at hany
              rw [← hany]
              repeat' (first | refine gos1 (jn @f1 (jn @b0 @b1)) ?_ | (refine ops_here ?_; (fail_if_success (refine ops_case (B := true) rfl rfl rfl ?_ ?_)); (fail_if_success (refine ops_case (B := false) rfl rfl rfl ?_ ?_)); refine ops_case rfl rfl rfl (fun hB => ?_) (fun hB => ?_) <;> rw [hB]) | (refine runs_here ?_; refine runs_cond rfl (fun hc => ?_) (fun hc => ?_) <;> first | (cases hc; done) | skip))
              all_goals exact leaves_v rfl rfl
            · have b1 : decide (x > 4503599627370496) = false := decide_eq_false h1
              have hn := hno (by rw [hx, decide_eq_true (by omega)]; rfl)
              refine go1 (jn @f1 (jn @b0 @b1)) ?_
              refine runs_cond rfl (fun hc => by cases hc) (fun hc => ?_)
              refine go1 @r6 ?_
              exact ⟨l.length - (i + 1), by omega, i + 1, hi1, hn, rfl, rfl, rfl⟩
        · have hi1 : i = l.length := by have := of_decide_eq_false hc; omega
          subst hi1
          rw [by_end hf] at hany
          rw [← hany]
          refine go0 ?_
          exact leaves_v rfl rfl
      · cases h
    · cases h
  · cases h
def rnamedG : List AV → Mem → Option (AV × Mem)
  | [.lst _ 1 rows, .v (.int .i64 n)], m =>
    match unS rows with
    | some l => if l.length ≤ 1000 ∧ ∀ x ∈ l, okStr x then some (.v (.bool (namedB l n)), m) else none
    | none => none
  | _, _ => none
theorem rnamedG_at {m : Mem} {g : Grow} {l : List ByteArray} {n : Int} (h : l.length ≤ 1000 ∧ ∀ x ∈ l, okStr x) : rnamedG [.lst g 1 (rowsS l), .v (.int .i64 n)] m = some (.v (.bool (namedB l n)), m) := by
  simp only [rnamedG, unS_rowsS]
  rw [if_pos h]
def kp_rnamed : Nat → Option (List Nat) := fun
  | 0 => some [0, 1]
  | 1 => some [0, 1, 5]
  | 2 => some [0, 1, 5, 9]
  | 3 => some [0, 1, 5]
  | 4 => some [0, 1, 5, 17]
  | 5 => some [4]
  | 6 => some [4]
  | _ => none
attribute [go_sem] kp_rnamed
def tab_rnamed_ok : List (FuncId × (List AV → Mem → Option (AV × Mem))) := [(42, isNameG)]
theorem rnamed_ok : FunOk Tryz.prog 41 rnamedG := by
  have hC := table_ok (P := Tryz.prog) (l := tab_rnamed_ok) (table_more refIs_ok table_nil)
  have t1 := fun args mm => table_at (l := tab_rnamed_ok) (f := 42) (args := args) (m := mm) rfl
  refine fun_ok mixed hC Tryz.func41 rfl kp_rnamed false rfl fun args m r h => ?_
  unfold rnamedG at h
  split at h
  · rename_i g rows n
    split at h
    · rename_i l hl
      obtain rfl := unS_some hl
      split at h
      · rename_i hyp
        obtain ⟨hlen, hb⟩ := hyp
        simp only [Option.some.injEq] at h
        subst h
        refine ⟨Nat.le_of_ble_eq_true rfl, ?_⟩
        simp only [entry, List.length_cons, List.length_nil, List.range, List.range.loop, List.zip_cons_cons, List.zip_nil_right]
        have hany := firstBy_any notName l 0
        unfold namedB
        refine go0 ?_
        refine runs_loop (fun k e m' => ∃ (i : Nat), i ≤ l.length ∧ firstBy notName (l.drop i) i = firstBy notName l 0 ∧ m = m' ∧ k = l.length - i ∧
          e = [(0, AV.lst g 1 (rowsS l)), (1, .v (.int .i64 n)), (5, .v (.int .i64 (i : Int)))]) (k := l.length) ⟨0, Nat.zero_le _, rfl, rfl, rfl, rfl⟩ ?_
        rintro k e m' ⟨i, hi, hf, rfl, rfl, rfl⟩
        refine go0 ?_
        refine runs_cond rfl (fun hc => ?_) (fun hc => ?_)
        · have hi1 : i < l.length := by have := of_decide_eq_true hc; omega
          have f1 := atStrs (g := g) (kk := .i64) hi1
          have f2 := fun mm => isNameG_eq (m := mm) (hb (l.getD i ⟨#[]⟩) (by rw [List.getD, List.getElem?_eq_getElem hi1]; exact List.getElem_mem _))
          have hyes := fun hp => by_yes (d := (⟨#[]⟩ : ByteArray)) hi1 hp hf
          have hno := fun hp => by_no (d := (⟨#[]⟩ : ByteArray)) hi1 hp hf
          have r6 := next_i64 (i := i) (by omega)
          generalize l.getD i ⟨#[]⟩ = s at f1 f2 hyes hno
          have w1 : (!true) = false := rfl
          have w2 : (!false) = true := rfl
          cases hs : isName s with
          | false =>
            rw [hs] at f2
            have hy := hyes (by unfold notName; rw [hs]; rfl)
            rw [hy, decide_eq_true (by omega)] at hany
            rw [← hany, show (decide ((l.length : Int) ≤ n) && !true) = false from by simp]
            repeat' (first | refine gos1 (jn @f1 (jn @t1 (jn @f2 @w2))) ?_ | (refine ops_here ?_; (fail_if_success (refine ops_case (B := true) rfl rfl rfl ?_ ?_)); (fail_if_success (refine ops_case (B := false) rfl rfl rfl ?_ ?_)); refine ops_case rfl rfl rfl (fun hB => ?_) (fun hB => ?_) <;> rw [hB]) | (refine runs_here ?_; refine runs_cond rfl (fun hc => ?_) (fun hc => ?_) <;> first | (cases hc; done) | skip))
            all_goals exact leaves_v rfl rfl
          | true =>
            rw [hs] at f2
            have hn := hno (by unfold notName; rw [hs]; rfl)
            refine go1 (jn @f1 (jn @t1 (jn @f2 @w1))) ?_
            refine runs_cond rfl (fun hc => by cases hc) (fun hc => ?_)
            refine go1 @r6 ?_
            exact ⟨l.length - (i + 1), by omega, i + 1, hi1, hn, rfl, rfl, rfl⟩
        · have hi1 : i = l.length := by have := of_decide_eq_false hc; omega
          subst hi1
          rw [by_end hf] at hany
          rw [← hany, show (decide ((l.length : Int) ≤ n) && !(decide ((0 : Int) ≤ -1))) = decide ((l.length : Int) ≤ n) from by simp]
          refine go0 ?_
          exact leaves_v rfl rfl
      · cases h
    · cases h
  · cases h
end Go.Proofs.YtojaokhkbmiidaaGreat.Ev

namespace Go.Proofs.YtojaokhkbmiidaaGreat.Ev
open Go Go.Proofs
set_option maxRecDepth 10000
set_option maxHeartbeats 16000000
set_option linter.unusedVariables false
set_option linter.unusedSimpArgs false
attribute [local irreducible] Next Inside Runs Ops table nrow
attribute [local go_sem] szStr szInt Option.getD_some isNil evStr loadOne newNode cellsNode nf0 nf1 nf2 nf3 nf4 nf5 lf0 nh0 nh1 nh2 nh3 nh4 nh5 loadNodeLen zeroLen niLen eqLen Nat.zero_add
theorem refMay_low : FunOk Tryz.prog 96 (mayAt fun op => decide (op < 1)) := by
  have hC := table_ok (P := Tryz.prog) (l := tabRefMay) (table_more refQ_ok (table_more refLenMay_ok table_nil))
  have t1 := fun args mm => table_at (l := tabRefMay) (f := 136) (args := args) (m := mm) rfl
  have t2 := fun args mm => table_at (l := tabRefMay) (f := 43) (args := args) (m := mm) rfl
  refine fun_ok mixed hC Tryz.func96 rfl kpRefMay false rfl fun args m r h => ?_
  unfold mayAt at h
  split at h
  · rename_i cs
    split at h
    · rename_i x hx
      split at h
      · rename_i hop
        obtain rfl := unNd_row hx
        obtain ⟨op, a, b, c, k, u, n⟩ := x
        have hop := of_decide_eq_true hop
        simp only at hop
        simp only [Option.some.injEq] at h
        subst h
        refine ⟨Nat.le_of_ble_eq_true rfl, ?_⟩
        simp only [entry, List.length_cons, List.length_nil, List.range, List.range.loop, List.zip_cons_cons, List.zip_nil_right]
        have fin : ∀ (e : Env) (m' : Mem) (z : Bool), Ev.get e 2 = .v (.bool z) → finMem m m' = m → (z = true ↔ mayN ⟨op, a, b, c, k, u, n⟩) → Leaves Tryz.prog false Tryz.f96 m (.v (.bool (decide (mayN ⟨op, a, b, c, k, u, n⟩))), m) .ret e m' := fun e m' z h1 h2 h3 => by
          have : z = decide (mayN ⟨op, a, b, c, k, u, n⟩) := by rw [Bool.eq_iff_iff, decide_eq_true_eq]; exact h3
          rw [← this]
          exact leaves_fin rfl h1 h2
        have z0 : (decide (op < 1)) = true := decide_eq_true (by omega)
        have z1 : (decide (op ≥ 2)) = false := decide_eq_false (by omega)
        have z2 : (decide (op ≥ 7)) = false := decide_eq_false (by omega)
        have z3 : (op == 3) = false := beq_eq_false_iff_ne.2 (by omega)
        have z4 : (op == 4) = false := beq_eq_false_iff_ne.2 (by omega)
        have z5 : (op == 6) = false := beq_eq_false_iff_ne.2 (by omega)
        have z6 : (op == 7) = false := beq_eq_false_iff_ne.2 (by omega)
        have z7 : (op == 9) = false := beq_eq_false_iff_ne.2 (by omega)
        repeat' (first | refine gos1 (jn @t1 (jn @q_eq (jn @t2 (jn @lm_eq (jn @z0 (jn @z1 (jn @z2 (jn @z3 (jn @z4 (jn @z5 (jn @z6 @z7))))))))))) ?_ | (refine ops_here ?_; (fail_if_success (refine ops_case (B := true) rfl rfl rfl ?_ ?_)); (fail_if_success (refine ops_case (B := false) rfl rfl rfl ?_ ?_)); refine ops_case rfl rfl rfl (fun hB => ?_) (fun hB => ?_) <;> rw [hB]) | (refine runs_here ?_; refine runs_cond rfl (fun hc => ?_) (fun hc => ?_) <;> first | (cases hc; done) | skip))
        all_goals exact fin _ _ _ rfl fin_push (by clear fin hx t1 t2 hC; simp only [Bool.not_eq_true', Bool.not_eq_false', Bool.not_true, Bool.not_false, Bool.and_true, Bool.and_eq_true, Bool.and_eq_false_iff, decide_eq_true_eq, decide_eq_false_iff_not, Bool.false_eq_true, reduceCtorEq, false_iff, true_iff, beq_iff_eq, bne_iff_ne, beq_eq_false_iff_ne, bne_eq_false_iff_eq, ne_eq, not_false_eq_true, not_true_eq_false, true_or, or_true, true_implies, false_implies, implies_true, and_self, true_and, false_and, or_false, false_or, and_true, and_false] at *; simp only [mayN, inQ, lenMay, not_false_eq_true, not_true_eq_false, true_or, or_true, true_implies, false_implies, implies_true, and_self, true_and, false_and, or_false, false_or, and_true, and_false] at *; omega)
      · cases h
    · cases h
  · cases h
theorem refMay_high : FunOk Tryz.prog 96 (mayAt fun op => decide (9 < op)) := by
  have hC := table_ok (P := Tryz.prog) (l := tabRefMay) (table_more refQ_ok (table_more refLenMay_ok table_nil))
  have t1 := fun args mm => table_at (l := tabRefMay) (f := 136) (args := args) (m := mm) rfl
  have t2 := fun args mm => table_at (l := tabRefMay) (f := 43) (args := args) (m := mm) rfl
  refine fun_ok mixed hC Tryz.func96 rfl kpRefMay false rfl fun args m r h => ?_
  unfold mayAt at h
  split at h
  · rename_i cs
    split at h
    · rename_i x hx
      split at h
      · rename_i hop
        obtain rfl := unNd_row hx
        obtain ⟨op, a, b, c, k, u, n⟩ := x
        have hop := of_decide_eq_true hop
        simp only at hop
        simp only [Option.some.injEq] at h
        subst h
        refine ⟨Nat.le_of_ble_eq_true rfl, ?_⟩
        simp only [entry, List.length_cons, List.length_nil, List.range, List.range.loop, List.zip_cons_cons, List.zip_nil_right]
        have fin : ∀ (e : Env) (m' : Mem) (z : Bool), Ev.get e 2 = .v (.bool z) → finMem m m' = m → (z = true ↔ mayN ⟨op, a, b, c, k, u, n⟩) → Leaves Tryz.prog false Tryz.f96 m (.v (.bool (decide (mayN ⟨op, a, b, c, k, u, n⟩))), m) .ret e m' := fun e m' z h1 h2 h3 => by
          have : z = decide (mayN ⟨op, a, b, c, k, u, n⟩) := by rw [Bool.eq_iff_iff, decide_eq_true_eq]; exact h3
          rw [← this]
          exact leaves_fin rfl h1 h2
        have z0 : (decide (op < 1)) = false := decide_eq_false (by omega)
        have z1 : (decide (op > 9)) = true := decide_eq_true (by omega)
        have z2 : (decide (op ≥ 2)) = true := decide_eq_true (by omega)
        have z3 : (decide (op ≤ 7)) = false := decide_eq_false (by omega)
        have z4 : (decide (op ≥ 7)) = true := decide_eq_true (by omega)
        have z5 : (op == 3) = false := beq_eq_false_iff_ne.2 (by omega)
        have z6 : (op == 4) = false := beq_eq_false_iff_ne.2 (by omega)
        have z7 : (op == 6) = false := beq_eq_false_iff_ne.2 (by omega)
        have z8 : (op == 7) = false := beq_eq_false_iff_ne.2 (by omega)
        have z9 : (op == 9) = false := beq_eq_false_iff_ne.2 (by omega)
        repeat' (first | refine gos1 (jn @t1 (jn @q_eq (jn @t2 (jn @lm_eq (jn @z0 (jn @z1 (jn @z2 (jn @z3 (jn @z4 (jn @z5 (jn @z6 (jn @z7 (jn @z8 @z9))))))))))))) ?_ | (refine ops_here ?_; (fail_if_success (refine ops_case (B := true) rfl rfl rfl ?_ ?_)); (fail_if_success (refine ops_case (B := false) rfl rfl rfl ?_ ?_)); refine ops_case rfl rfl rfl (fun hB => ?_) (fun hB => ?_) <;> rw [hB]) | (refine runs_here ?_; refine runs_cond rfl (fun hc => ?_) (fun hc => ?_) <;> first | (cases hc; done) | skip))
        all_goals exact fin _ _ _ rfl fin_push (by clear fin hx t1 t2 hC; simp only [Bool.not_eq_true', Bool.not_eq_false', Bool.not_true, Bool.not_false, Bool.and_true, Bool.and_eq_true, Bool.and_eq_false_iff, decide_eq_true_eq, decide_eq_false_iff_not, Bool.false_eq_true, reduceCtorEq, false_iff, true_iff, beq_iff_eq, bne_iff_ne, beq_eq_false_iff_ne, bne_eq_false_iff_eq, ne_eq, not_false_eq_true, not_true_eq_false, true_or, or_true, true_implies, false_implies, implies_true, and_self, true_and, false_and, or_false, false_or, and_true, and_false] at *; simp only [mayN, inQ, lenMay, not_false_eq_true, not_true_eq_false, true_or, or_true, true_implies, false_implies, implies_true, and_self, true_and, false_and, or_false, false_or, and_true, and_false] at *; omega)
      · cases h
    · cases h
  · cases h
theorem refMay_at1 : FunOk Tryz.prog 96 (mayAt fun op => decide (op = 1)) := by
  have hC := table_ok (P := Tryz.prog) (l := tabRefMay) (table_more refQ_ok (table_more refLenMay_ok table_nil))
  have t1 := fun args mm => table_at (l := tabRefMay) (f := 136) (args := args) (m := mm) rfl
  have t2 := fun args mm => table_at (l := tabRefMay) (f := 43) (args := args) (m := mm) rfl
  refine fun_ok mixed hC Tryz.func96 rfl kpRefMay false rfl fun args m r h => ?_
  unfold mayAt at h
  split at h
  · rename_i cs
    split at h
    · rename_i x hx
      split at h
      · rename_i hop
        obtain rfl := unNd_row hx
        obtain ⟨op, a, b, c, k, u, n⟩ := x
        have hop := of_decide_eq_true hop
        simp only at hop
        simp only [Option.some.injEq] at h
        subst h
        refine ⟨Nat.le_of_ble_eq_true rfl, ?_⟩
        simp only [entry, List.length_cons, List.length_nil, List.range, List.range.loop, List.zip_cons_cons, List.zip_nil_right]
        have fin : ∀ (e : Env) (m' : Mem) (z : Bool), Ev.get e 2 = .v (.bool z) → finMem m m' = m → (z = true ↔ mayN ⟨op, a, b, c, k, u, n⟩) → Leaves Tryz.prog false Tryz.f96 m (.v (.bool (decide (mayN ⟨op, a, b, c, k, u, n⟩))), m) .ret e m' := fun e m' z h1 h2 h3 => by
          have : z = decide (mayN ⟨op, a, b, c, k, u, n⟩) := by rw [Bool.eq_iff_iff, decide_eq_true_eq]; exact h3
          rw [← this]
          exact leaves_fin rfl h1 h2
        subst hop
        repeat' (first | refine gos1 (jn @t1 (jn @q_eq (jn @t2 @lm_eq))) ?_ | (refine ops_here ?_; (fail_if_success (refine ops_case (B := true) rfl rfl rfl ?_ ?_)); (fail_if_success (refine ops_case (B := false) rfl rfl rfl ?_ ?_)); refine ops_case rfl rfl rfl (fun hB => ?_) (fun hB => ?_) <;> rw [hB]) | (refine runs_here ?_; refine runs_cond rfl (fun hc => ?_) (fun hc => ?_) <;> first | (cases hc; done) | skip))
        all_goals exact fin _ _ _ rfl fin_push (by clear fin hx t1 t2 hC; simp only [Bool.not_eq_true', Bool.not_eq_false', Bool.not_true, Bool.not_false, Bool.and_true, Bool.and_eq_true, Bool.and_eq_false_iff, decide_eq_true_eq, decide_eq_false_iff_not, Bool.false_eq_true, reduceCtorEq, false_iff, true_iff, beq_iff_eq, bne_iff_ne, beq_eq_false_iff_ne, bne_eq_false_iff_eq, ne_eq, not_false_eq_true, not_true_eq_false, true_or, or_true, true_implies, false_implies, implies_true, and_self, true_and, false_and, or_false, false_or, and_true, and_false] at *; simp only [mayN, inQ, lenMay, not_false_eq_true, not_true_eq_false, true_or, or_true, true_implies, false_implies, implies_true, and_self, true_and, false_and, or_false, false_or, and_true, and_false] at *; omega)
      · cases h
    · cases h
  · cases h
end Go.Proofs.YtojaokhkbmiidaaGreat.Ev

namespace Go.Proofs.YtojaokhkbmiidaaGreat.Ev
open Go Go.Proofs
set_option maxRecDepth 10000
set_option maxHeartbeats 16000000
set_option linter.unusedVariables false
set_option linter.unusedSimpArgs false
attribute [local irreducible] Next Inside Runs Ops table nrow
attribute [local go_sem] szStr szInt Option.getD_some isNil evStr loadOne newNode cellsNode nf0 nf1 nf2 nf3 nf4 nf5 lf0 nh0 nh1 nh2 nh3 nh4 nh5 loadNodeLen zeroLen niLen eqLen Nat.zero_add
theorem refMay_at2 : FunOk Tryz.prog 96 (mayAt fun op => decide (op = 2)) := by
  have hC := table_ok (P := Tryz.prog) (l := tabRefMay) (table_more refQ_ok (table_more refLenMay_ok table_nil))
  have t1 := fun args mm => table_at (l := tabRefMay) (f := 136) (args := args) (m := mm) rfl
  have t2 := fun args mm => table_at (l := tabRefMay) (f := 43) (args := args) (m := mm) rfl
  refine fun_ok mixed hC Tryz.func96 rfl kpRefMay false rfl fun args m r h => ?_
  unfold mayAt at h
  split at h
  · rename_i cs
    split at h
    · rename_i x hx
      split at h
      · rename_i hop
        obtain rfl := unNd_row hx
        obtain ⟨op, a, b, c, k, u, n⟩ := x
        have hop := of_decide_eq_true hop
        simp only at hop
        simp only [Option.some.injEq] at h
        subst h
        refine ⟨Nat.le_of_ble_eq_true rfl, ?_⟩
        simp only [entry, List.length_cons, List.length_nil, List.range, List.range.loop, List.zip_cons_cons, List.zip_nil_right]
        have fin : ∀ (e : Env) (m' : Mem) (z : Bool), Ev.get e 2 = .v (.bool z) → finMem m m' = m → (z = true ↔ mayN ⟨op, a, b, c, k, u, n⟩) → Leaves Tryz.prog false Tryz.f96 m (.v (.bool (decide (mayN ⟨op, a, b, c, k, u, n⟩))), m) .ret e m' := fun e m' z h1 h2 h3 => by
          have : z = decide (mayN ⟨op, a, b, c, k, u, n⟩) := by rw [Bool.eq_iff_iff, decide_eq_true_eq]; exact h3
          rw [← this]
          exact leaves_fin rfl h1 h2
        subst hop
        repeat' (first | refine gos1 (jn @t1 (jn @q_eq (jn @t2 @lm_eq))) ?_ | (refine ops_here ?_; (fail_if_success (refine ops_case (B := true) rfl rfl rfl ?_ ?_)); (fail_if_success (refine ops_case (B := false) rfl rfl rfl ?_ ?_)); refine ops_case rfl rfl rfl (fun hB => ?_) (fun hB => ?_) <;> rw [hB]) | (refine runs_here ?_; refine runs_cond rfl (fun hc => ?_) (fun hc => ?_) <;> first | (cases hc; done) | skip))
        all_goals exact fin _ _ _ rfl fin_push (by clear fin hx t1 t2 hC; simp only [Bool.not_eq_true', Bool.not_eq_false', Bool.not_true, Bool.not_false, Bool.and_true, Bool.and_eq_true, Bool.and_eq_false_iff, decide_eq_true_eq, decide_eq_false_iff_not, Bool.false_eq_true, reduceCtorEq, false_iff, true_iff, beq_iff_eq, bne_iff_ne, beq_eq_false_iff_ne, bne_eq_false_iff_eq, ne_eq, not_false_eq_true, not_true_eq_false, true_or, or_true, true_implies, false_implies, implies_true, and_self, true_and, false_and, or_false, false_or, and_true, and_false] at *; simp only [mayN, inQ, lenMay, not_false_eq_true, not_true_eq_false, true_or, or_true, true_implies, false_implies, implies_true, and_self, true_and, false_and, or_false, false_or, and_true, and_false] at *; omega)
      · cases h
    · cases h
  · cases h
theorem refMay_at3 : FunOk Tryz.prog 96 (mayAt fun op => decide (op = 3)) := by
  have hC := table_ok (P := Tryz.prog) (l := tabRefMay) (table_more refQ_ok (table_more refLenMay_ok table_nil))
  have t1 := fun args mm => table_at (l := tabRefMay) (f := 136) (args := args) (m := mm) rfl
  have t2 := fun args mm => table_at (l := tabRefMay) (f := 43) (args := args) (m := mm) rfl
  refine fun_ok mixed hC Tryz.func96 rfl kpRefMay false rfl fun args m r h => ?_
  unfold mayAt at h
  split at h
  · rename_i cs
    split at h
    · rename_i x hx
      split at h
      · rename_i hop
        obtain rfl := unNd_row hx
        obtain ⟨op, a, b, c, k, u, n⟩ := x
        have hop := of_decide_eq_true hop
        simp only at hop
        simp only [Option.some.injEq] at h
        subst h
        refine ⟨Nat.le_of_ble_eq_true rfl, ?_⟩
        simp only [entry, List.length_cons, List.length_nil, List.range, List.range.loop, List.zip_cons_cons, List.zip_nil_right]
        have fin : ∀ (e : Env) (m' : Mem) (z : Bool), Ev.get e 2 = .v (.bool z) → finMem m m' = m → (z = true ↔ mayN ⟨op, a, b, c, k, u, n⟩) → Leaves Tryz.prog false Tryz.f96 m (.v (.bool (decide (mayN ⟨op, a, b, c, k, u, n⟩))), m) .ret e m' := fun e m' z h1 h2 h3 => by
          have : z = decide (mayN ⟨op, a, b, c, k, u, n⟩) := by rw [Bool.eq_iff_iff, decide_eq_true_eq]; exact h3
          rw [← this]
          exact leaves_fin rfl h1 h2
        subst hop
        repeat' (first | refine gos1 (jn @t1 (jn @q_eq (jn @t2 @lm_eq))) ?_ | (refine ops_here ?_; (fail_if_success (refine ops_case (B := true) rfl rfl rfl ?_ ?_)); (fail_if_success (refine ops_case (B := false) rfl rfl rfl ?_ ?_)); refine ops_case rfl rfl rfl (fun hB => ?_) (fun hB => ?_) <;> rw [hB]) | (refine runs_here ?_; refine runs_cond rfl (fun hc => ?_) (fun hc => ?_) <;> first | (cases hc; done) | skip))
        all_goals exact fin _ _ _ rfl fin_push (by clear fin hx t1 t2 hC; simp only [Bool.not_eq_true', Bool.not_eq_false', Bool.not_true, Bool.not_false, Bool.and_true, Bool.and_eq_true, Bool.and_eq_false_iff, decide_eq_true_eq, decide_eq_false_iff_not, Bool.false_eq_true, reduceCtorEq, false_iff, true_iff, beq_iff_eq, bne_iff_ne, beq_eq_false_iff_ne, bne_eq_false_iff_eq, ne_eq, not_false_eq_true, not_true_eq_false, true_or, or_true, true_implies, false_implies, implies_true, and_self, true_and, false_and, or_false, false_or, and_true, and_false] at *; simp only [mayN, inQ, lenMay, not_false_eq_true, not_true_eq_false, true_or, or_true, true_implies, false_implies, implies_true, and_self, true_and, false_and, or_false, false_or, and_true, and_false] at *; omega)
      · cases h
    · cases h
  · cases h
theorem refMay_at4 : FunOk Tryz.prog 96 (mayAt fun op => decide (op = 4)) := by
  have hC := table_ok (P := Tryz.prog) (l := tabRefMay) (table_more refQ_ok (table_more refLenMay_ok table_nil))
  have t1 := fun args mm => table_at (l := tabRefMay) (f := 136) (args := args) (m := mm) rfl
  have t2 := fun args mm => table_at (l := tabRefMay) (f := 43) (args := args) (m := mm) rfl
  refine fun_ok mixed hC Tryz.func96 rfl kpRefMay false rfl fun args m r h => ?_
  unfold mayAt at h
  split at h
  · rename_i cs
    split at h
    · rename_i x hx
      split at h
      · rename_i hop
        obtain rfl := unNd_row hx
        obtain ⟨op, a, b, c, k, u, n⟩ := x
        have hop := of_decide_eq_true hop
        simp only at hop
        simp only [Option.some.injEq] at h
        subst h
        refine ⟨Nat.le_of_ble_eq_true rfl, ?_⟩
        simp only [entry, List.length_cons, List.length_nil, List.range, List.range.loop, List.zip_cons_cons, List.zip_nil_right]
        have fin : ∀ (e : Env) (m' : Mem) (z : Bool), Ev.get e 2 = .v (.bool z) → finMem m m' = m → (z = true ↔ mayN ⟨op, a, b, c, k, u, n⟩) → Leaves Tryz.prog false Tryz.f96 m (.v (.bool (decide (mayN ⟨op, a, b, c, k, u, n⟩))), m) .ret e m' := fun e m' z h1 h2 h3 => by
          have : z = decide (mayN ⟨op, a, b, c, k, u, n⟩) := by rw [Bool.eq_iff_iff, decide_eq_true_eq]; exact h3
          rw [← this]
          exact leaves_fin rfl h1 h2
        subst hop
        repeat' (first | refine gos1 (jn @t1 (jn @q_eq (jn @t2 @lm_eq))) ?_ | (refine ops_here ?_; (fail_if_success (refine ops_case (B := true) rfl rfl rfl ?_ ?_)); (fail_if_success (refine ops_case (B := false) rfl rfl rfl ?_ ?_)); refine ops_case rfl rfl rfl (fun hB => ?_) (fun hB => ?_) <;> rw [hB]) | (refine runs_here ?_; refine runs_cond rfl (fun hc => ?_) (fun hc => ?_) <;> first | (cases hc; done) | skip))
        all_goals exact fin _ _ _ rfl fin_push (by clear fin hx t1 t2 hC; simp only [Bool.not_eq_true', Bool.not_eq_false', Bool.not_true, Bool.not_false, Bool.and_true, Bool.and_eq_true, Bool.and_eq_false_iff, decide_eq_true_eq, decide_eq_false_iff_not, Bool.false_eq_true, reduceCtorEq, false_iff, true_iff, beq_iff_eq, bne_iff_ne, beq_eq_false_iff_ne, bne_eq_false_iff_eq, ne_eq, not_false_eq_true, not_true_eq_false, true_or, or_true, true_implies, false_implies, implies_true, and_self, true_and, false_and, or_false, false_or, and_true, and_false] at *; simp only [mayN, inQ, lenMay, not_false_eq_true, not_true_eq_false, true_or, or_true, true_implies, false_implies, implies_true, and_self, true_and, false_and, or_false, false_or, and_true, and_false] at *; omega)
      · cases h
    · cases h
  · cases h
end Go.Proofs.YtojaokhkbmiidaaGreat.Ev

namespace Go.Proofs.YtojaokhkbmiidaaGreat.Ev
open Go Go.Proofs
set_option maxRecDepth 10000
set_option maxHeartbeats 16000000
set_option linter.unusedVariables false
set_option linter.unusedSimpArgs false
attribute [local irreducible] Next Inside Runs Ops table nrow
attribute [local go_sem] szStr szInt Option.getD_some isNil evStr loadOne newNode cellsNode nf0 nf1 nf2 nf3 nf4 nf5 lf0 nh0 nh1 nh2 nh3 nh4 nh5 loadNodeLen zeroLen niLen eqLen Nat.zero_add
theorem refMay_at5 : FunOk Tryz.prog 96 (mayAt fun op => decide (op = 5)) := by
  have hC := table_ok (P := Tryz.prog) (l := tabRefMay) (table_more refQ_ok (table_more refLenMay_ok table_nil))
  have t1 := fun args mm => table_at (l := tabRefMay) (f := 136) (args := args) (m := mm) rfl
  have t2 := fun args mm => table_at (l := tabRefMay) (f := 43) (args := args) (m := mm) rfl
  refine fun_ok mixed hC Tryz.func96 rfl kpRefMay false rfl fun args m r h => ?_
  unfold mayAt at h
  split at h
  · rename_i cs
    split at h
    · rename_i x hx
      split at h
      · rename_i hop
        obtain rfl := unNd_row hx
        obtain ⟨op, a, b, c, k, u, n⟩ := x
        have hop := of_decide_eq_true hop
        simp only at hop
        simp only [Option.some.injEq] at h
        subst h
        refine ⟨Nat.le_of_ble_eq_true rfl, ?_⟩
        simp only [entry, List.length_cons, List.length_nil, List.range, List.range.loop, List.zip_cons_cons, List.zip_nil_right]
        have fin : ∀ (e : Env) (m' : Mem) (z : Bool), Ev.get e 2 = .v (.bool z) → finMem m m' = m → (z = true ↔ mayN ⟨op, a, b, c, k, u, n⟩) → Leaves Tryz.prog false Tryz.f96 m (.v (.bool (decide (mayN ⟨op, a, b, c, k, u, n⟩))), m) .ret e m' := fun e m' z h1 h2 h3 => by
          have : z = decide (mayN ⟨op, a, b, c, k, u, n⟩) := by rw [Bool.eq_iff_iff, decide_eq_true_eq]; exact h3
          rw [← this]
          exact leaves_fin rfl h1 h2
        subst hop
        repeat' (first | refine gos1 (jn @t1 (jn @q_eq (jn @t2 @lm_eq))) ?_ | (refine ops_here ?_; (fail_if_success (refine ops_case (B := true) rfl rfl rfl ?_ ?_)); (fail_if_success (refine ops_case (B := false) rfl rfl rfl ?_ ?_)); refine ops_case rfl rfl rfl (fun hB => ?_) (fun hB => ?_) <;> rw [hB]) | (refine runs_here ?_; refine runs_cond rfl (fun hc => ?_) (fun hc => ?_) <;> first | (cases hc; done) | skip))
        all_goals exact fin _ _ _ rfl fin_push (by clear fin hx t1 t2 hC; simp only [Bool.not_eq_true', Bool.not_eq_false', Bool.not_true, Bool.not_false, Bool.and_true, Bool.and_eq_true, Bool.and_eq_false_iff, decide_eq_true_eq, decide_eq_false_iff_not, Bool.false_eq_true, reduceCtorEq, false_iff, true_iff, beq_iff_eq, bne_iff_ne, beq_eq_false_iff_ne, bne_eq_false_iff_eq, ne_eq, not_false_eq_true, not_true_eq_false, true_or, or_true, true_implies, false_implies, implies_true, and_self, true_and, false_and, or_false, false_or, and_true, and_false] at *; simp only [mayN, inQ, lenMay, not_false_eq_true, not_true_eq_false, true_or, or_true, true_implies, false_implies, implies_true, and_self, true_and, false_and, or_false, false_or, and_true, and_false] at *; omega)
      · cases h
    · cases h
  · cases h
theorem refMay_at6 : FunOk Tryz.prog 96 (mayAt fun op => decide (op = 6)) := by
  have hC := table_ok (P := Tryz.prog) (l := tabRefMay) (table_more refQ_ok (table_more refLenMay_ok table_nil))
  have t1 := fun args mm => table_at (l := tabRefMay) (f := 136) (args := args) (m := mm) rfl
  have t2 := fun args mm => table_at (l := tabRefMay) (f := 43) (args := args) (m := mm) rfl
  refine fun_ok mixed hC Tryz.func96 rfl kpRefMay false rfl fun args m r h => ?_
  unfold mayAt at h
  split at h
  · rename_i cs
    split at h
    · rename_i x hx
      split at h
      · rename_i hop
        obtain rfl := unNd_row hx
        obtain ⟨op, a, b, c, k, u, n⟩ := x
        have hop := of_decide_eq_true hop
        simp only at hop
        simp only [Option.some.injEq] at h
        subst h
        refine ⟨Nat.le_of_ble_eq_true rfl, ?_⟩
        simp only [entry, List.length_cons, List.length_nil, List.range, List.range.loop, List.zip_cons_cons, List.zip_nil_right]
        have fin : ∀ (e : Env) (m' : Mem) (z : Bool), Ev.get e 2 = .v (.bool z) → finMem m m' = m → (z = true ↔ mayN ⟨op, a, b, c, k, u, n⟩) → Leaves Tryz.prog false Tryz.f96 m (.v (.bool (decide (mayN ⟨op, a, b, c, k, u, n⟩))), m) .ret e m' := fun e m' z h1 h2 h3 => by
          have : z = decide (mayN ⟨op, a, b, c, k, u, n⟩) := by rw [Bool.eq_iff_iff, decide_eq_true_eq]; exact h3
          rw [← this]
          exact leaves_fin rfl h1 h2
        subst hop
        repeat' (first | refine gos1 (jn @t1 (jn @q_eq (jn @t2 @lm_eq))) ?_ | (refine ops_here ?_; (fail_if_success (refine ops_case (B := true) rfl rfl rfl ?_ ?_)); (fail_if_success (refine ops_case (B := false) rfl rfl rfl ?_ ?_)); refine ops_case rfl rfl rfl (fun hB => ?_) (fun hB => ?_) <;> rw [hB]) | (refine runs_here ?_; refine runs_cond rfl (fun hc => ?_) (fun hc => ?_) <;> first | (cases hc; done) | skip))
        all_goals exact fin _ _ _ rfl fin_push (by clear fin hx t1 t2 hC; simp only [Bool.not_eq_true', Bool.not_eq_false', Bool.not_true, Bool.not_false, Bool.and_true, Bool.and_eq_true, Bool.and_eq_false_iff, decide_eq_true_eq, decide_eq_false_iff_not, Bool.false_eq_true, reduceCtorEq, false_iff, true_iff, beq_iff_eq, bne_iff_ne, beq_eq_false_iff_ne, bne_eq_false_iff_eq, ne_eq, not_false_eq_true, not_true_eq_false, true_or, or_true, true_implies, false_implies, implies_true, and_self, true_and, false_and, or_false, false_or, and_true, and_false] at *; simp only [mayN, inQ, lenMay, not_false_eq_true, not_true_eq_false, true_or, or_true, true_implies, false_implies, implies_true, and_self, true_and, false_and, or_false, false_or, and_true, and_false] at *; omega)
      · cases h
    · cases h
  · cases h
end Go.Proofs.YtojaokhkbmiidaaGreat.Ev

namespace Go.Proofs.YtojaokhkbmiidaaGreat.Ev
open Go Go.Proofs
set_option maxRecDepth 10000
set_option maxHeartbeats 16000000
set_option linter.unusedVariables false
set_option linter.unusedSimpArgs false
attribute [local irreducible] Next Inside Runs Ops table nrow
attribute [local go_sem] szStr szInt Option.getD_some isNil evStr loadOne newNode cellsNode nf0 nf1 nf2 nf3 nf4 nf5 lf0 nh0 nh1 nh2 nh3 nh4 nh5 loadNodeLen zeroLen niLen eqLen Nat.zero_add
theorem refMay_at7 : FunOk Tryz.prog 96 (mayAt fun op => decide (op = 7)) := by
  have hC := table_ok (P := Tryz.prog) (l := tabRefMay) (table_more refQ_ok (table_more refLenMay_ok table_nil))
  have t1 := fun args mm => table_at (l := tabRefMay) (f := 136) (args := args) (m := mm) rfl
  have t2 := fun args mm => table_at (l := tabRefMay) (f := 43) (args := args) (m := mm) rfl
  refine fun_ok mixed hC Tryz.func96 rfl kpRefMay false rfl fun args m r h => ?_
  unfold mayAt at h
  split at h
  · rename_i cs
    split at h
    · rename_i x hx
      split at h
      · rename_i hop
        obtain rfl := unNd_row hx
        obtain ⟨op, a, b, c, k, u, n⟩ := x
        have hop := of_decide_eq_true hop
        simp only at hop
        simp only [Option.some.injEq] at h
        subst h
        refine ⟨Nat.le_of_ble_eq_true rfl, ?_⟩
        simp only [entry, List.length_cons, List.length_nil, List.range, List.range.loop, List.zip_cons_cons, List.zip_nil_right]
        have fin : ∀ (e : Env) (m' : Mem) (z : Bool), Ev.get e 2 = .v (.bool z) → finMem m m' = m → (z = true ↔ mayN ⟨op, a, b, c, k, u, n⟩) → Leaves Tryz.prog false Tryz.f96 m (.v (.bool (decide (mayN ⟨op, a, b, c, k, u, n⟩))), m) .ret e m' := fun e m' z h1 h2 h3 => by
          have : z = decide (mayN ⟨op, a, b, c, k, u, n⟩) := by rw [Bool.eq_iff_iff, decide_eq_true_eq]; exact h3
          rw [← this]
          exact leaves_fin rfl h1 h2
        subst hop
        repeat' (first | refine gos1 (jn @t1 (jn @q_eq (jn @t2 @lm_eq))) ?_ | (refine ops_here ?_; (fail_if_success (refine ops_case (B := true) rfl rfl rfl ?_ ?_)); (fail_if_success (refine ops_case (B := false) rfl rfl rfl ?_ ?_)); refine ops_case rfl rfl rfl (fun hB => ?_) (fun hB => ?_) <;> rw [hB]) | (refine runs_here ?_; refine runs_cond rfl (fun hc => ?_) (fun hc => ?_) <;> first | (cases hc; done) | skip))
        all_goals exact fin _ _ _ rfl fin_push (by clear fin hx t1 t2 hC; simp only [Bool.not_eq_true', Bool.not_eq_false', Bool.not_true, Bool.not_false, Bool.and_true, Bool.and_eq_true, Bool.and_eq_false_iff, decide_eq_true_eq, decide_eq_false_iff_not, Bool.false_eq_true, reduceCtorEq, false_iff, true_iff, beq_iff_eq, bne_iff_ne, beq_eq_false_iff_ne, bne_eq_false_iff_eq, ne_eq, not_false_eq_true, not_true_eq_false, true_or, or_true, true_implies, false_implies, implies_true, and_self, true_and, false_and, or_false, false_or, and_true, and_false] at *; simp only [mayN, inQ, lenMay, not_false_eq_true, not_true_eq_false, true_or, or_true, true_implies, false_implies, implies_true, and_self, true_and, false_and, or_false, false_or, and_true, and_false] at *; omega)
      · cases h
    · cases h
  · cases h
theorem refMay_at8 : FunOk Tryz.prog 96 (mayAt fun op => decide (op = 8)) := by
  have hC := table_ok (P := Tryz.prog) (l := tabRefMay) (table_more refQ_ok (table_more refLenMay_ok table_nil))
  have t1 := fun args mm => table_at (l := tabRefMay) (f := 136) (args := args) (m := mm) rfl
  have t2 := fun args mm => table_at (l := tabRefMay) (f := 43) (args := args) (m := mm) rfl
  refine fun_ok mixed hC Tryz.func96 rfl kpRefMay false rfl fun args m r h => ?_
  unfold mayAt at h
  split at h
  · rename_i cs
    split at h
    · rename_i x hx
      split at h
      · rename_i hop
        obtain rfl := unNd_row hx
        obtain ⟨op, a, b, c, k, u, n⟩ := x
        have hop := of_decide_eq_true hop
        simp only at hop
        simp only [Option.some.injEq] at h
        subst h
        refine ⟨Nat.le_of_ble_eq_true rfl, ?_⟩
        simp only [entry, List.length_cons, List.length_nil, List.range, List.range.loop, List.zip_cons_cons, List.zip_nil_right]
        have fin : ∀ (e : Env) (m' : Mem) (z : Bool), Ev.get e 2 = .v (.bool z) → finMem m m' = m → (z = true ↔ mayN ⟨op, a, b, c, k, u, n⟩) → Leaves Tryz.prog false Tryz.f96 m (.v (.bool (decide (mayN ⟨op, a, b, c, k, u, n⟩))), m) .ret e m' := fun e m' z h1 h2 h3 => by
          have : z = decide (mayN ⟨op, a, b, c, k, u, n⟩) := by rw [Bool.eq_iff_iff, decide_eq_true_eq]; exact h3
          rw [← this]
          exact leaves_fin rfl h1 h2
        subst hop
        repeat' (first | refine gos1 (jn @t1 (jn @q_eq (jn @t2 @lm_eq))) ?_ | (refine ops_here ?_; (fail_if_success (refine ops_case (B := true) rfl rfl rfl ?_ ?_)); (fail_if_success (refine ops_case (B := false) rfl rfl rfl ?_ ?_)); refine ops_case rfl rfl rfl (fun hB => ?_) (fun hB => ?_) <;> rw [hB]) | (refine runs_here ?_; refine runs_cond rfl (fun hc => ?_) (fun hc => ?_) <;> first | (cases hc; done) | skip))
        all_goals exact fin _ _ _ rfl fin_push (by clear fin hx t1 t2 hC; simp only [Bool.not_eq_true', Bool.not_eq_false', Bool.not_true, Bool.not_false, Bool.and_true, Bool.and_eq_true, Bool.and_eq_false_iff, decide_eq_true_eq, decide_eq_false_iff_not, Bool.false_eq_true, reduceCtorEq, false_iff, true_iff, beq_iff_eq, bne_iff_ne, beq_eq_false_iff_ne, bne_eq_false_iff_eq, ne_eq, not_false_eq_true, not_true_eq_false, true_or, or_true, true_implies, false_implies, implies_true, and_self, true_and, false_and, or_false, false_or, and_true, and_false] at *; simp only [mayN, inQ, lenMay, not_false_eq_true, not_true_eq_false, true_or, or_true, true_implies, false_implies, implies_true, and_self, true_and, false_and, or_false, false_or, and_true, and_false] at *; omega)
      · cases h
    · cases h
  · cases h
theorem refMay_at9 : FunOk Tryz.prog 96 (mayAt fun op => decide (op = 9)) := by
  have hC := table_ok (P := Tryz.prog) (l := tabRefMay) (table_more refQ_ok (table_more refLenMay_ok table_nil))
  have t1 := fun args mm => table_at (l := tabRefMay) (f := 136) (args := args) (m := mm) rfl
  have t2 := fun args mm => table_at (l := tabRefMay) (f := 43) (args := args) (m := mm) rfl
  refine fun_ok mixed hC Tryz.func96 rfl kpRefMay false rfl fun args m r h => ?_
  unfold mayAt at h
  split at h
  · rename_i cs
    split at h
    · rename_i x hx
      split at h
      · rename_i hop
        obtain rfl := unNd_row hx
        obtain ⟨op, a, b, c, k, u, n⟩ := x
        have hop := of_decide_eq_true hop
        simp only at hop
        simp only [Option.some.injEq] at h
        subst h
        refine ⟨Nat.le_of_ble_eq_true rfl, ?_⟩
        simp only [entry, List.length_cons, List.length_nil, List.range, List.range.loop, List.zip_cons_cons, List.zip_nil_right]
        have fin : ∀ (e : Env) (m' : Mem) (z : Bool), Ev.get e 2 = .v (.bool z) → finMem m m' = m → (z = true ↔ mayN ⟨op, a, b, c, k, u, n⟩) → Leaves Tryz.prog false Tryz.f96 m (.v (.bool (decide (mayN ⟨op, a, b, c, k, u, n⟩))), m) .ret e m' := fun e m' z h1 h2 h3 => by
          have : z = decide (mayN ⟨op, a, b, c, k, u, n⟩) := by rw [Bool.eq_iff_iff, decide_eq_true_eq]; exact h3
          rw [← this]
          exact leaves_fin rfl h1 h2
        subst hop
        repeat' (first | refine gos1 (jn @t1 (jn @q_eq (jn @t2 @lm_eq))) ?_ | (refine ops_here ?_; (fail_if_success (refine ops_case (B := true) rfl rfl rfl ?_ ?_)); (fail_if_success (refine ops_case (B := false) rfl rfl rfl ?_ ?_)); refine ops_case rfl rfl rfl (fun hB => ?_) (fun hB => ?_) <;> rw [hB]) | (refine runs_here ?_; refine runs_cond rfl (fun hc => ?_) (fun hc => ?_) <;> first | (cases hc; done) | skip))
        all_goals exact fin _ _ _ rfl fin_push (by clear fin hx t1 t2 hC; simp only [Bool.not_eq_true', Bool.not_eq_false', Bool.not_true, Bool.not_false, Bool.and_true, Bool.and_eq_true, Bool.and_eq_false_iff, decide_eq_true_eq, decide_eq_false_iff_not, Bool.false_eq_true, reduceCtorEq, false_iff, true_iff, beq_iff_eq, bne_iff_ne, beq_eq_false_iff_ne, bne_eq_false_iff_eq, ne_eq, not_false_eq_true, not_true_eq_false, true_or, or_true, true_implies, false_implies, implies_true, and_self, true_and, false_and, or_false, false_or, and_true, and_false] at *; simp only [mayN, inQ, lenMay, not_false_eq_true, not_true_eq_false, true_or, or_true, true_implies, false_implies, implies_true, and_self, true_and, false_and, or_false, false_or, and_true, and_false] at *; omega)
      · cases h
    · cases h
  · cases h
end Go.Proofs.YtojaokhkbmiidaaGreat.Ev

namespace Go.Proofs.YtojaokhkbmiidaaGreat.Ev
open Go Go.Proofs
theorem refMay_ok : FunOk Tryz.prog 96 mayG := may_all fun op => by
  rcases (by omega : op < 1 ∨ 9 < op ∨ op = 1 ∨ op = 2 ∨ op = 3 ∨ op = 4 ∨ op = 5 ∨ op = 6 ∨ op = 7 ∨ op = 8 ∨ op = 9) with h | h | h | h | h | h | h | h | h | h | h
  · exact ⟨_, decide_eq_true h, refMay_low⟩
  · exact ⟨_, decide_eq_true h, refMay_high⟩
  · exact ⟨_, decide_eq_true h, refMay_at1⟩
  · exact ⟨_, decide_eq_true h, refMay_at2⟩
  · exact ⟨_, decide_eq_true h, refMay_at3⟩
  · exact ⟨_, decide_eq_true h, refMay_at4⟩
  · exact ⟨_, decide_eq_true h, refMay_at5⟩
  · exact ⟨_, decide_eq_true h, refMay_at6⟩
  · exact ⟨_, decide_eq_true h, refMay_at7⟩
  · exact ⟨_, decide_eq_true h, refMay_at8⟩
  · exact ⟨_, decide_eq_true h, refMay_at9⟩
end Go.Proofs.YtojaokhkbmiidaaGreat.Ev

namespace Go.Proofs.YtojaokhkbmiidaaGreat.Ev
open Go Go.Proofs
set_option maxRecDepth 10000
set_option maxHeartbeats 8000000
set_option linter.unusedVariables false
set_option linter.unusedSimpArgs false
attribute [local irreducible] Next Inside Runs Ops table
attribute [local go_sem] szStr szInt Option.getD_some isNil loadStr loadInt rowsS_len rowsI_len rowsN_len evStr fldOp ldOp ldNode
theorem anyN_no {p : Nd → Bool} {l : List Nd} {i : Nat} (hi : i < l.length) (h : (l.take i).any p = false) (hp : p (l.getD i nd0) = false) : (l.take (i + 1)).any p = false := by
  rw [take_next (d := nd0) hi, List.any_append, h, List.any_cons, hp]
  rfl
theorem anyN_yes {p : Nd → Bool} {l : List Nd} {i : Nat} (hi : i < l.length) (hp : p (l.getD i nd0) = true) : l.any p = true :=
  List.any_eq_true.2 ⟨_, by simp [List.getD, List.getElem?_eq_getElem hi], hp⟩
def kpRefCheckT : Nat → Option (List Nat) := fun _ => some [0, 2, 3, 6, 9, 13, 21, 24]
attribute [go_sem] kpRefCheckT
def tabRefCheckT : List (FuncId × (List AV → Mem → Option (AV × Mem))) := [(95, wholeG), (96, mayG), (97, refDepthG)]
theorem refCheckT_ok : FunOk Tryz.prog 44 checkTG := by
  have hC := table_ok (P := Tryz.prog) (l := tabRefCheckT) (table_more refWhole_ok (table_more refMay_ok (table_more refDepth_ok table_nil)))
  have t1 := fun args mm => table_at (l := tabRefCheckT) (f := 95) (args := args) (m := mm) rfl
  have t2 := fun args mm => table_at (l := tabRefCheckT) (f := 96) (args := args) (m := mm) rfl
  have t3 := fun args mm => table_at (l := tabRefCheckT) (f := 97) (args := args) (m := mm) rfl
  refine fun_ok mixed hC Tryz.func44 rfl kpRefCheckT false rfl fun args m r h => ?_
  unfold checkTG at h
  split at h
  · rename_i g rows
    split at h
    · rename_i l hl0
      obtain rfl := unN_some hl0
      split at h
      · rename_i hlen
        simp only [Option.some.injEq] at h
        subst h
        refine ⟨Nat.le_of_ble_eq_true rfl, ?_⟩
        simp only [entry, List.length_cons, List.length_nil, List.range, List.range.loop, List.zip_cons_cons, List.zip_nil_right]
        have f1 := fun mm => wholeG_eq (m := mm) (g := .no) hlen
        refine go0 ?_
        refine runs_cond rfl (fun hc => ?_) (fun hc => ?_)
        · have := of_decide_eq_true hc
          rw [show checkT l = 9 from if_pos (by omega)]
          refine go0 ?_
          exact leaves_v rfl rfl
        · have h64 := of_decide_eq_false hc
          have e : checkT l = if wholeB l = false ∨ l.any badN = true then 1 else if 32 < depthOf l then 7 else 0 := if_neg (by omega)
          cases hw : wholeB l with
          | false =>
            rw [hw] at f1
            have b1 : (!false) = true := rfl
            rw [e, if_pos (.inl hw)]
            refine go1 (jn @t1 (jn @f1 @b1)) ?_
            refine runs_cond rfl (fun hc => ?_) (fun hc => by cases hc)
            refine go0 ?_
            exact leaves_v rfl rfl
          | true =>
            rw [hw] at f1
            have b1 : (!true) = false := rfl
            refine go1 (jn @t1 (jn @f1 @b1)) ?_
            refine runs_cond rfl (fun hc => by cases hc) (fun hc => ?_)
            refine go0 ?_
            refine runs_loop (fun k e m' => ∃ (i : Nat) (x13 x21 : AV), i ≤ l.length ∧ (l.take i).any badN = false ∧ m = m' ∧ k = l.length - i ∧
              e = [(0, AV.lst g 7 (rowsN l)), (2, .v (.int .i64 0)), (3, .v (.int .i64 (i : Int))), (6, .v (.bool (decide ((l.length : Int) > 64)))), (9, .v (.bool false)), (13, x13), (21, x21), (24, .junk)])
              (k := l.length) ⟨0, _, _, Nat.zero_le _, rfl, rfl, rfl, rfl⟩ ?_
            rintro k e m' ⟨i, x13, x21, hi, hno, rfl, rfl, rfl⟩
            refine go0 ?_
            refine runs_cond rfl (fun hc => ?_) (fun hc => ?_)
            · have hi1 : i < l.length := by have := of_decide_eq_true hc; omega
              have f2 := atNodes (g := g) (kk := .i64) hi1
              have f3 := mayG_eq (l.getD i nd0)
              refine go1 (jn @f2 (jn @t2 @f3)) ?_
              refine runs_cond rfl (fun hc => ?_) (fun hc => ?_)
              · rw [e, if_pos (.inr (anyN_yes (p := badN) hi1 hc))]
                refine go0 ?_
                exact leaves_v rfl rfl
              · have r6 := next_i64 (i := i) (by omega)
                refine go1 @r6 ?_
                exact ⟨l.length - (i + 1), by omega, i + 1, _, _, hi1, anyN_no (p := badN) hi1 hno hc, rfl, rfl, rfl⟩
            · have hi1 : i = l.length := by have := of_decide_eq_false hc; omega
              subst hi1
              rw [List.take_length] at hno
              have hn : ¬ (wholeB l = false ∨ l.any badN = true) := by rw [hw, hno]; simp
              rw [e, if_neg hn]
              have hd : depthOf l = depthD l 0 := by unfold depthOf; rw [hw]; rfl
              unfold wholeB at hw
              simp only [Bool.and_eq_true, decide_eq_true_eq] at hw
              have f4 := fun mm => refDepthG_eq (m := mm) (g := .no) (at_ := 0) hlen (Int.le_refl _) (by omega)
              rw [hd]
              refine go1 (jn @t3 @f4) ?_
              refine runs_cond rfl (fun hc => ?_) (fun hc => ?_)
              · have := of_decide_eq_true hc
                rw [if_pos (by omega)]
                refine go0 ?_
                exact leaves_v rfl rfl
              · have := of_decide_eq_false hc
                rw [if_neg (by omega)]
                refine go0 ?_
                exact leaves_v rfl rfl
      · cases h
    · cases h
  · cases h
end Go.Proofs.YtojaokhkbmiidaaGreat.Ev

namespace Go.Proofs.YtojaokhkbmiidaaGreat.Ev
open Go Go.Proofs
set_option maxRecDepth 10000
set_option maxHeartbeats 8000000
set_option linter.unusedVariables false
set_option linter.unusedSimpArgs false
attribute [local irreducible] Next Inside Runs Ops table
attribute [local go_sem] szStr szInt Option.getD_some isNil evStr iv loadStr loadInt rowsS_len rowsGs_len rowsPh_len mapRc cellsRc newRc mkInts1 mkInts2 mkInts3 fpRcStop fpRcStopOn fpRcStopMetric fpRcStopPatience fpRcStopDelta fpRcPlateau fpRcPlateauOn fpRcPlateauMetric fpRcPlateauFactor fpRcPlateauPatience fpRcPlateauCooldown fpRcPlateauFloor fpRcPlateauDelta fpRcKeep fpRcKeepOn fpRcKeepMetric fpRcKeepCount fpRcEma fpRcEmaOn fpRcEmaDecay fpRcSwa fpRcSwaOn fpRcSwaFrom fpRcSwaFromU fpRcSwaEvery mk0Tp niTp eqTp' mk0Pt niPt eqPt' mk0Kp niKp eqKp' mk0Em niEm eqEm' mk0Sw niSw eqSw'
theorem mkInts4 {a b c d : Int} : evBuildSlice Tryz.prog 77 4 [(0, .v (.int .i64 a)), (1, .v (.int .i64 b)), (2, .v (.int .i64 c)), (3, .v (.int .i64 d))] = some (.lst .full 1 [[.v (.int .i64 a)], [.v (.int .i64 b)], [.v (.int .i64 c)], [.v (.int .i64 d)]]) := build_rows appInts rfl rfl (by decide)
attribute [local go_sem] mkInts4
theorem notnot (a : Bool) : (!(!a || false)) = a := by cases a <;> rfl
theorem counts1 (a : Int) (m : Mem) : rcountsG [.lst .no 1 [[.v (.int .i64 a)]]] m = some (.v (.bool (countB a)), m) := by
  have := rcountsG_at (m := m) (g := .no) (l := [a]) (Nat.le_of_ble_eq_true rfl)
  rw [show (!([a].any rcountsNot)) = countB a from notnot _] at this
  exact this
theorem values1 (a : Int) (m : Mem) : rvaluesG [.lst .no 1 [[.v (.int .i64 a)]]] m = some (.v (.bool (valueB a)), m) := by
  have := rvaluesG_at (m := m) (g := .no) (l := [a]) (Nat.le_of_ble_eq_true rfl)
  rw [show (!([a].any rvaluesNot)) = valueB a from notnot _] at this
  exact this
theorem counts2 (a b : Int) (m : Mem) : rcountsG [.lst .no 1 [[.v (.int .i64 a)], [.v (.int .i64 b)]]] m = some (.v (.bool (countB a && countB b)), m) := by
  have := rcountsG_at (m := m) (g := .no) (l := [a, b]) (Nat.le_of_ble_eq_true rfl)
  rw [show (!([a, b].any rcountsNot)) = (countB a && countB b) from by show (!(!countB a || (!countB b || false))) = _; cases countB a <;> cases countB b <;> rfl] at this
  exact this
theorem values3 (a b c : Int) (m : Mem) : rvaluesG [.lst .no 1 [[.v (.int .i64 a)], [.v (.int .i64 b)], [.v (.int .i64 c)]]] m = some (.v (.bool (valueB a && (valueB b && valueB c))), m) := by
  have := rvaluesG_at (m := m) (g := .no) (l := [a, b, c]) (Nat.le_of_ble_eq_true rfl)
  rw [show (!([a, b, c].any rvaluesNot)) = (valueB a && (valueB b && valueB c)) from by show (!(!valueB a || (!valueB b || (!valueB c || false)))) = _; cases valueB a <;> cases valueB b <;> cases valueB c <;> rfl] at this
  exact this
theorem counts4 (a b c d : Int) (m : Mem) : rcountsG [.lst .no 1 [[.v (.int .i64 a)], [.v (.int .i64 b)], [.v (.int .i64 c)], [.v (.int .i64 d)]]] m = some (.v (.bool (countB a && (countB b && (countB c && countB d)))), m) := by
  have := rcountsG_at (m := m) (g := .no) (l := [a, b, c, d]) (Nat.le_of_ble_eq_true rfl)
  rw [show (!([a, b, c, d].any rcountsNot)) = (countB a && (countB b && (countB c && countB d))) from by show (!(!countB a || (!countB b || (!countB c || (!countB d || false))))) = _; cases countB a <;> cases countB b <;> cases countB c <;> cases countB d <;> rfl] at this
  exact this
def rendsG : List AV → Mem → Option (AV × Mem)
  | [.agg cs], m =>
    match unRc cs with
    | some R => if R.fit then some (.v (.bool R.endsMay), m) else none
    | none => none
  | _, _ => none
theorem rendsG_at {R : Rc} {m : Mem} (h : R.fit) : rendsG [.agg R.row] m = some (.v (.bool R.endsMay), m) := by
  simp only [rendsG, unRc_row]
  rw [if_pos h]
def kpEnds18 : Nat → Option (List Nat) := fun
  | 0 => some [1]
  | 1 => some [1, 28]
  | 2 => some [2]
  | 3 => some [1, 63]
  | 4 => some [2]
  | 5 => some [1, 81]
  | 6 => some [2]
  | 7 => some [1, 119]
  | 8 => some [2]
  | 9 => some [2]
  | _ => none
attribute [go_sem] kpEnds18
def tab_ends18_ok : List (FuncId × (List AV → Mem → Option (AV × Mem))) := [(42, isNameG), (40, rcountsG), (98, rvaluesG), (43, lenMayG)]
theorem ends18_ok : FunOk Tryz.prog 45 rendsG := by
  have hC := table_ok (P := Tryz.prog) (l := tab_ends18_ok) (table_more refIs_ok (table_more rcounts_ok (table_more rvalues_ok (table_more refLenMay_ok table_nil))))
  have t1 := fun args mm => table_at (l := tab_ends18_ok) (f := 42) (args := args) (m := mm) rfl
  have t2 := fun args mm => table_at (l := tab_ends18_ok) (f := 40) (args := args) (m := mm) rfl
  have t3 := fun args mm => table_at (l := tab_ends18_ok) (f := 98) (args := args) (m := mm) rfl
  have t4 := fun args mm => table_at (l := tab_ends18_ok) (f := 43) (args := args) (m := mm) rfl
  refine fun_ok mixed hC Tryz.func45 rfl kpEnds18 false rfl fun args m r h => ?_
  unfold rendsG at h
  split at h
  · rename_i cs
    split at h
    · rename_i R hR
      obtain rfl := unRc_some hR
      split at h
      · rename_i hfit
        simp only [Option.some.injEq] at h
        subst h
        refine ⟨Nat.le_of_ble_eq_true rfl, ?_⟩
        simp only [entry, List.length_cons, List.length_nil, List.range, List.range.loop, List.zip_cons_cons, List.zip_nil_right]
        obtain ⟨_, _, _, _, hs1, hs2, hs3⟩ := hfit
        have hA := above_push (cs := R.row) (above_self m)
        have hv : (m.push R.row).var m.vars.length = some R.row := push_var
        have nr := newRc (m := m) (x := R)
        generalize m.push R.row = m1 at hA hv nr
        have fin : ∀ (e : Env) (b : Bool), Ev.get e 2 = .v (.bool b) → R.endsMay = b → Leaves Tryz.prog false Tryz.f45 m (.v (.bool R.endsMay), m) .ret e m1 := fun e b h1 h2 => by rw [h2]; exact leaves_fin rfl h1 (above_fin hA)
        have lc : ∀ u n mm, lenMayG [.agg [.v (.int .i64 u), .v (.int .i64 n)]] mm = some (.v (.bool (decide (lenMay u n))), mm) := fun _ _ _ => rfl
        have i1 := fun mm => isNameG_eq (s := R.stopMetric) (m := mm) hs1
        have i2 := fun mm => isNameG_eq (s := R.plateauMetric) (m := mm) hs2
        have i3 := fun mm => isNameG_eq (s := R.keepMetric) (m := mm) hs3
        have a1 := lpRcStopOn hv
        have a2 := lpRcStopMetric hv
        have a3 := lpRcStopPatience hv
        have a4 := lpRcStopDelta hv
        have a5 : evLoad Tryz.prog m1 25 (.ptr m.vars.length 8) = some (.agg R.tp.row) := lpRcStop hv
        have b1 := lpRcPlateauOn hv
        have b2 := lpRcPlateauMetric hv
        have b3 := lpRcPlateauFactor hv
        have b4 := lpRcPlateauPatience hv
        have b5 := lpRcPlateauCooldown hv
        have b6 := lpRcPlateauFloor hv
        have b7 := lpRcPlateauDelta hv
        have b8 : evLoad Tryz.prog m1 27 (.ptr m.vars.length 14) = some (.agg R.pt.row) := lpRcPlateau hv
        have c1 := lpRcKeepOn hv
        have c2 := lpRcKeepMetric hv
        have c3 := lpRcKeepCount hv
        have c4 : evLoad Tryz.prog m1 29 (.ptr m.vars.length 22) = some (.agg R.kp.row) := lpRcKeep hv
        have d1 := lpRcEmaOn hv
        have d2 := lpRcEmaDecay hv
        have d3 : evLoad Tryz.prog m1 31 (.ptr m.vars.length 26) = some (.agg R.em.row) := lpRcEma hv
        have f1 := lpRcSwaOn hv
        have f2 := lpRcSwaFrom hv
        have f3 := lpRcSwaFromU hv
        have f4 := lpRcSwaEvery hv
        have f5 : evLoad Tryz.prog m1 35 (.ptr m.vars.length 28) = some (.agg R.sw.row) := lpRcSwa hv
        refine go1 @nr ?_
        refine ops_rcut [(1, .ptr m.vars.length 0), (28, .v (.bool R.tp.bad))] m1 ?_ ?_
        · repeat' (first | refine gos1 (jn @a1 (jn @a2 (jn @a3 (jn @a4 (jn @t1 (jn @t2 (jn @t3 (jn @i1 (jn @counts1 @values1))))))))) ?_ | (refine ops_here ?_; (fail_if_success (refine ops_case (B := true) rfl rfl rfl ?_ ?_)); (fail_if_success (refine ops_case (B := false) rfl rfl rfl ?_ ?_)); refine ops_case rfl rfl rfl (fun hB => ?_) (fun hB => ?_) <;> rw [hB]) | (refine runs_here ?_; refine runs_cond rfl (fun hc => ?_) (fun hc => ?_) <;> first | (cases hc; done) | skip))
          all_goals refine ⟨?_, rfl⟩
          all_goals simp_all [Tp.bad, Rc.tp]
        repeat (first | refine next_normal ?_ | refine runs_seq ?_)
        refine runs_cond rfl (fun hc => ?_) (fun hc => ?_)
        · have e1 : R.endsMay = false := by simp [Rc.endsMay, Tp.may, hc]
          refine go0 ?_
          exact fin _ _ rfl e1
        have z1 := hc
        refine go0 ?_
        refine ops_rcut [(1, .ptr m.vars.length 0), (63, .v (.bool R.pt.bad))] m1 ?_ ?_
        · repeat' (first | refine gos1 (jn @b1 (jn @b2 (jn @b3 (jn @b4 (jn @b5 (jn @b6 (jn @b7 (jn @t1 (jn @t2 (jn @t3 (jn @i2 (jn @counts2 @values3)))))))))))) ?_ | (refine ops_here ?_; (fail_if_success (refine ops_case (B := true) rfl rfl rfl ?_ ?_)); (fail_if_success (refine ops_case (B := false) rfl rfl rfl ?_ ?_)); refine ops_case rfl rfl rfl (fun hB => ?_) (fun hB => ?_) <;> rw [hB]) | (refine runs_here ?_; refine runs_cond rfl (fun hc => ?_) (fun hc => ?_) <;> first | (cases hc; done) | skip))
          all_goals refine ⟨?_, rfl⟩
          all_goals simp_all [Pt.bad, Rc.pt]
          all_goals (generalize countB R.plateauPatience = x1 at *; generalize countB R.plateauCooldown = x2 at *; generalize valueB R.plateauFactor = x3 at *; generalize valueB R.plateauFloor = x4 at *; generalize valueB R.plateauDelta = x5 at *; revert x1 x2 x3 x4 x5; decide)
        repeat (first | refine next_normal ?_ | refine runs_seq ?_)
        refine runs_cond rfl (fun hc => ?_) (fun hc => ?_)
        · have e1 : R.endsMay = false := by simp [Rc.endsMay, Pt.may, hc]
          refine go0 ?_
          exact fin _ _ rfl e1
        have z2 := hc
        refine go0 ?_
        refine ops_rcut [(1, .ptr m.vars.length 0), (81, .v (.bool R.kp.bad))] m1 ?_ ?_
        · repeat' (first | refine gos1 (jn @c1 (jn @c2 (jn @c3 (jn @t1 (jn @t2 (jn @t3 (jn @i3 @counts1))))))) ?_ | (refine ops_here ?_; (fail_if_success (refine ops_case (B := true) rfl rfl rfl ?_ ?_)); (fail_if_success (refine ops_case (B := false) rfl rfl rfl ?_ ?_)); refine ops_case rfl rfl rfl (fun hB => ?_) (fun hB => ?_) <;> rw [hB]) | (refine runs_here ?_; refine runs_cond rfl (fun hc => ?_) (fun hc => ?_) <;> first | (cases hc; done) | skip))
          all_goals refine ⟨?_, rfl⟩
          all_goals simp_all [Kp.bad, Rc.kp]
        repeat (first | refine next_normal ?_ | refine runs_seq ?_)
        refine runs_cond rfl (fun hc => ?_) (fun hc => ?_)
        · have e1 : R.endsMay = false := by simp [Rc.endsMay, Kp.may, hc]
          refine go0 ?_
          exact fin _ _ rfl e1
        have z3 := hc
        refine go0 ?_
        refine ops_rcut [(1, .ptr m.vars.length 0), (119, .v (.bool (R.em.bad || R.sw.bad)))] m1 ?_ ?_
        · repeat' (first | refine gos1 (jn @d1 (jn @d2 (jn @t1 (jn @t2 (jn @t3 (jn @t4 (jn @counts1 (jn @values1 (jn @f1 (jn @f2 (jn @f3 (jn @f4 @lc)))))))))))) ?_ | (refine ops_here ?_; (fail_if_success (refine ops_case (B := true) rfl rfl rfl ?_ ?_)); (fail_if_success (refine ops_case (B := false) rfl rfl rfl ?_ ?_)); refine ops_case rfl rfl rfl (fun hB => ?_) (fun hB => ?_) <;> rw [hB]) | (refine runs_here ?_; refine runs_cond rfl (fun hc => ?_) (fun hc => ?_) <;> first | (cases hc; done) | skip))
          all_goals refine ⟨?_, rfl⟩
          all_goals simp_all [Em.bad, Rc.em, Sw.bad, Rc.sw]
        repeat (first | refine next_normal ?_ | refine runs_seq ?_)
        refine runs_cond rfl (fun hc => ?_) (fun hc => ?_)
        · have e1 : R.endsMay = false := by
            simp only [Rc.endsMay, Em.may, Sw.may]
            revert hc
            cases R.em.bad <;> cases R.sw.bad <;> simp
          refine go0 ?_
          exact fin _ _ rfl e1
        have z4 := hc
        obtain ⟨z4, z5⟩ := Bool.or_eq_false_iff.1 z4
        have eE : R.endsMay = ((R.stopOn || tpEq R.tp tp0) && ((R.plateauOn || ptEq R.pt pt0) && ((R.keepOn || kpEq R.kp kp0) && ((R.emaOn || emEq R.em em0) && (R.swaOn || swEq R.sw sw0))))) := by
          unfold Rc.endsMay Tp.may Pt.may Kp.may Em.may Sw.may
          rw [z1, z2, z3, z4, z5]
          rfl
        repeat' (first | refine gos1 (jn @a1 (jn @a5 (jn @b1 (jn @b8 (jn @c1 (jn @c4 (jn @d1 (jn @d3 (jn @f1 @f5))))))))) ?_ | (refine ops_here ?_; (fail_if_success (refine ops_case (B := true) rfl rfl rfl ?_ ?_)); (fail_if_success (refine ops_case (B := false) rfl rfl rfl ?_ ?_)); refine ops_case rfl rfl rfl (fun hB => ?_) (fun hB => ?_) <;> rw [hB]) | (refine runs_here ?_; refine runs_cond rfl (fun hc => ?_) (fun hc => ?_) <;> first | (cases hc; done) | skip))
        all_goals refine fin _ _ rfl (eE.trans ?_)
        all_goals simp_all
      · cases h
    · cases h
  · cases h
end Go.Proofs.YtojaokhkbmiidaaGreat.Ev

namespace Go.Proofs.YtojaokhkbmiidaaGreat.Ev
open Go Go.Proofs
set_option maxRecDepth 10000
set_option maxHeartbeats 8000000
set_option linter.unusedVariables false
set_option linter.unusedSimpArgs false
attribute [local irreducible] Next Inside Runs Ops table
attribute [local go_sem] szStr szInt Option.getD_some isNil evStr iv loadStr loadInt rowsS_len rowsGs_len rowsPh_len rowsN_len mapRc mapPh mapGs cellsRc newRc cellsPh cellsGs ldPh ldGs zrPh zoPh znPh zsPh zrGs zoGs znGs zsGs mkInts4 fpRcName fpRcSteps fpRcEpoch fpRcWeights fpRcEval fpRcMetrics fpRcGroups fpRcPhases fpPhName fpPhLen fpPhFrozen fpPhSets fpGsGroup fpGsParam fpGsNodes
def Rc.lite (R : Rc) : Prop := R.fit ∧ R.metrics.length ≤ 1000 ∧ R.groups.length ≤ 1000 ∧ R.phases.length ≤ 1000 ∧ ∀ p ∈ R.phases, p.frozen.length ≤ 1000 ∧ p.sets.length ≤ 1000
instance (R : Rc) : Decidable R.lite := by unfold Rc.lite; exact inferInstance
def mayBG : List AV → Mem → Option (AV × Mem)
  | [.agg cs], m =>
    match unRc cs with
    | some R => if R.lite then some (.v (.bool R.may), m) else none
    | none => none
  | _, _ => none
theorem mayBG_at {R : Rc} {m : Mem} (h : R.lite) : mayBG [.agg R.row] m = some (.v (.bool R.may), m) := by
  simp only [mayBG, unRc_row]
  rw [if_pos h]
def phHead (p : Ph) : Bool := !isName p.name || (!decide (lenMay p.lenU p.lenN) || (!namedB p.frozen 8 || decide ((p.sets.length : Int) > 24)))
theorem phNot_head (p : Ph) : phNot p = (phHead p || p.sets.any setNot) := by
  unfold phNot phMay phHead
  rw [show decide ((p.sets.length : Int) > 24) = !decide ((p.sets.length : Int) ≤ 24) from by rw [Bool.eq_iff_iff]; simp]
  cases isName p.name <;> cases decide (lenMay p.lenU p.lenN) <;> cases namedB p.frozen 8 <;> cases decide ((p.sets.length : Int) ≤ 24) <;> cases p.sets.any setNot <;> rfl
theorem setNot_ops (s : Gs) : setNot s = (!isName s.group || (decide (s.param < 0) || (decide (s.param > 2) || (checkT s.nodes != 0)))) := by
  unfold setNot setMay
  rw [show decide (s.param < 0) = !decide (0 ≤ s.param) from by rw [Bool.eq_iff_iff]; simp]
  rw [show decide (s.param > 2) = !decide (s.param < 3) from by rw [Bool.eq_iff_iff]; simp only [decide_eq_true_eq, Bool.not_eq_true', decide_eq_false_iff_not]; omega]
  rw [show (checkT s.nodes != 0) = !(checkT s.nodes == 0) from rfl]
  cases isName s.group <;> cases decide (0 ≤ s.param) <;> cases decide (s.param < 3) <;> cases (checkT s.nodes == 0) <;> rfl
theorem may_head {R : Rc} : R.may = (!(R.headBad || (R.listBad || decide ((R.phases.length : Int) > 16))) && (!(R.phases.any phNot) && R.endsMay)) := by
  unfold Rc.may Rc.phBad
  cases R.headBad <;> cases R.listBad <;> cases decide ((R.phases.length : Int) > 16) <;> cases R.phases.any phNot <;> cases R.endsMay <;> rfl
def kpMay18 : Nat → Option (List Nat) := fun
  | 0 => some [1]
  | 1 => some [1, 47]
  | 2 => some [2]
  | 3 => some [1, 3]
  | 4 => some [1, 3, 52]
  | 5 => some [1, 3]
  | 6 => some [1, 3, 4]
  | 7 => some [1, 3, 4, 81]
  | 8 => some [2]
  | 9 => some [1, 3, 4, 5]
  | 10 => some [1, 3, 4, 5, 86]
  | 11 => some [1, 3, 4, 5]
  | 12 => some [1, 3, 4, 5, 6]
  | 13 => some [1, 3, 4, 5, 113]
  | 14 => some [2]
  | 15 => some [2]
  | _ => none
attribute [go_sem] kpMay18
def tab_may18_ok : List (FuncId × (List AV → Mem → Option (AV × Mem))) := [(40, rcountsG), (41, rnamedG), (42, isNameG), (43, lenMayG), (44, checkTG), (45, rendsG)]
theorem may18_ok : FunOk Tryz.prog 14 mayBG := by
  have hC := table_ok (P := Tryz.prog) (l := tab_may18_ok) (table_more rcounts_ok (table_more rnamed_ok (table_more refIs_ok (table_more refLenMay_ok (table_more refCheckT_ok (table_more ends18_ok table_nil))))))
  have t1 := fun args mm => table_at (l := tab_may18_ok) (f := 40) (args := args) (m := mm) rfl
  have t2 := fun args mm => table_at (l := tab_may18_ok) (f := 41) (args := args) (m := mm) rfl
  have t3 := fun args mm => table_at (l := tab_may18_ok) (f := 42) (args := args) (m := mm) rfl
  have t4 := fun args mm => table_at (l := tab_may18_ok) (f := 43) (args := args) (m := mm) rfl
  have t5 := fun args mm => table_at (l := tab_may18_ok) (f := 44) (args := args) (m := mm) rfl
  have t6 := fun args mm => table_at (l := tab_may18_ok) (f := 45) (args := args) (m := mm) rfl
  refine fun_ok mixed hC Tryz.func14 rfl kpMay18 false rfl fun args m r h => ?_
  unfold mayBG at h
  split at h
  · rename_i cs
    split at h
    · rename_i R hR
      obtain rfl := unRc_some hR
      split at h
      · rename_i hl
        simp only [Option.some.injEq] at h
        subst h
        refine ⟨Nat.le_of_ble_eq_true rfl, ?_⟩
        simp only [entry, List.length_cons, List.length_nil, List.range, List.range.loop, List.zip_cons_cons, List.zip_nil_right]
        obtain ⟨hfit, hM, hG, hP, hph⟩ := hl
        have hA := above_push (cs := R.row) (above_self m)
        have hv : (m.push R.row).var m.vars.length = some R.row := push_var
        have nr := newRc (m := m) (x := R)
        generalize m.push R.row = m1 at hA hv nr
        have fin : ∀ (e : Env) (m' : Mem) (b : Bool), Above m m' → Ev.get e 2 = .v (.bool b) → R.may = b → Leaves Tryz.prog false Tryz.f14 m (.v (.bool R.may), m) .ret e m' := fun e m' b hA' h1 h2 => by rw [h2]; exact leaves_fin rfl h1 (above_fin hA')
        have lc : ∀ u n mm, lenMayG [.agg [.v (.int .i64 u), .v (.int .i64 n)]] mm = some (.v (.bool (decide (lenMay u n))), mm) := fun _ _ _ => rfl
        have n1 := fun mm => rnamedG_at (m := mm) (g := .no) (l := R.metrics) (n := 4) ⟨hM, hfit.2.1.2⟩
        have n2 := fun mm => rnamedG_at (m := mm) (g := .no) (l := R.groups) (n := 8) ⟨hG, hfit.2.2.1.2⟩
        have a1 := lpRcName hv
        have a2 := lpRcSteps hv
        have a3 := lpRcEpoch hv
        have a4 := lpRcWeights hv
        have a5 := lpRcEval hv
        have a6 := lpRcMetrics hv
        have a7 := lpRcGroups hv
        have a8 := lpRcPhases hv
        have d0 : decide ((R.groups.length : Int) < 1) = decide (R.groups.length = 0) := by rw [Bool.eq_iff_iff]; simp only [decide_eq_true_eq]; omega
        refine go1 @nr ?_
        refine ops_rcut [(1, .ptr m.vars.length 0), (47, .v (.bool (R.headBad || (R.listBad || decide ((R.phases.length : Int) > 16)))))] m1 ?_ ?_
        · unfold Rc.headBad Rc.listBad
          generalize namedB R.metrics 4 = q1 at n1
          generalize namedB R.groups 8 = q2 at n2
          have c4 := counts4 R.steps R.epoch R.weights R.eval
          rw [show (!countB R.steps || (!countB R.epoch || (!countB R.weights || !countB R.eval))) = !(countB R.steps && (countB R.epoch && (countB R.weights && countB R.eval))) from by cases countB R.steps <;> cases countB R.epoch <;> cases countB R.weights <;> cases countB R.eval <;> rfl]
          generalize (countB R.steps && (countB R.epoch && (countB R.weights && countB R.eval))) = q3 at c4
          generalize decide (R.groups.length = 0) = q4 at d0
          repeat' (first | refine gos1 (jn @a1 (jn @a2 (jn @a3 (jn @a4 (jn @a5 (jn @a6 (jn @a7 (jn @a8 (jn @t1 (jn @t2 (jn @c4 (jn @n1 (jn @n2 @d0))))))))))))) ?_ | (refine ops_here ?_; (fail_if_success (refine ops_case (B := true) rfl rfl rfl ?_ ?_)); (fail_if_success (refine ops_case (B := false) rfl rfl rfl ?_ ?_)); refine ops_case rfl rfl rfl (fun hB => ?_) (fun hB => ?_) <;> rw [hB]) | (refine runs_here ?_; refine runs_cond rfl (fun hc => ?_) (fun hc => ?_) <;> first | (cases hc; done) | skip))
          all_goals refine ⟨?_, rfl⟩
          all_goals simp_all
        repeat (first | refine next_normal ?_ | refine runs_seq ?_)
        refine runs_cond rfl (fun hc => ?_) (fun hc => ?_)
        · have e1 : R.may = false := by rw [may_head, hc]; rfl
          refine go0 ?_
          exact fin _ _ _ hA rfl e1
        have z0 := hc
        refine go0 ?_
        refine runs_loop (fun k e m' => ∃ (i : Nat), i ≤ R.phases.length ∧ firstBy phNot (R.phases.drop i) i = firstBy phNot R.phases 0 ∧ Above m m' ∧ m'.var m.vars.length = some R.row ∧ k = R.phases.length - i ∧
          e = [(1, AV.ptr m.vars.length 0), (3, .v (.int .i64 (i : Int)))]) (k := R.phases.length) ⟨0, Nat.zero_le _, rfl, hA, hv, rfl, rfl⟩ ?_
        rintro k e m2 ⟨i, hi0, hf, hA2, hv2, rfl, rfl⟩
        have l1 := lpRcPhases hv2
        refine go1 @l1 ?_
        refine runs_cond rfl (fun hc => ?_) (fun hc => ?_)
        · have hi1 : i < R.phases.length := by have := of_decide_eq_true hc; omega
          have f1 := atPh (g := .no) (kk := .i64) hi1
          have hp1 := hph _ (phase_mem hi1)
          have hp2 := hfit.2.2.2.1.2 _ (phase_mem hi1)
          have hyes := fun hp => firstBy_yes (d := ph0) (p := phNot) hi1 hp
          have hno := fun hp => by_no (d := ph0) hi1 hp hf
          have r6 := next_i64 (i := i) (by omega)
          generalize R.phases.getD i ph0 = p at f1 hp1 hp2 hyes hno
          have z1 := zsPh (m := m2) (x := p)
          have hA3 := above_push (cs := p.row) hA2
          have hv3 := push_old (cs' := p.row) hv2
          have hp3 : (m2.push p.row).var m2.vars.length = some p.row := push_var
          generalize m2.push p.row = m3 at z1 hA3 hv3 hp3
          have bad : ∀ e m', Above m m' → Ev.get e 2 = .v (.bool false) → phNot p = true → Leaves Tryz.prog false Tryz.f14 m (.v (.bool R.may), m) .ret e m' := fun e m' hA' hg hb => fin e m' false hA' hg (by rw [may_head, hyes hb]; simp)
          refine go1 (jn @l1 (jn @f1 @z1)) ?_
          generalize m2.vars.length = n4 at hp3 ⊢
          have y1 := lpPhName hp3
          have y2 := lpPhLen hp3
          have y3 := lpPhFrozen hp3
          have y4 := lpPhSets hp3
          have j1 := fun mm => isNameG_eq (s := p.name) (m := mm) hp2.1
          have n3 := fun mm => rnamedG_at (m := mm) (g := .no) (l := p.frozen) (n := 8) ⟨hp1.1, hp2.2.2.1⟩
          refine ops_rcut [(1, .ptr m.vars.length 0), (3, .v (.int .i64 (i : Int))), (4, .ptr n4 0), (81, .v (.bool (phHead p)))] m3 ?_ ?_
          · unfold phHead
            generalize namedB p.frozen 8 = q1 at n3
            generalize isName p.name = q2 at j1
            repeat' (first | refine gos1 (jn @y1 (jn @y2 (jn @y3 (jn @y4 (jn @t2 (jn @t3 (jn @t4 (jn @j1 (jn @n3 @lc))))))))) ?_ | (refine ops_here ?_; (fail_if_success (refine ops_case (B := true) rfl rfl rfl ?_ ?_)); (fail_if_success (refine ops_case (B := false) rfl rfl rfl ?_ ?_)); refine ops_case rfl rfl rfl (fun hB => ?_) (fun hB => ?_) <;> rw [hB]) | (refine runs_here ?_; refine runs_cond rfl (fun hc => ?_) (fun hc => ?_) <;> first | (cases hc; done) | skip))
            all_goals refine ⟨?_, rfl⟩
            all_goals simp_all
          repeat (first | refine next_normal ?_ | refine runs_seq ?_)
          refine runs_cond rfl (fun hc => ?_) (fun hc => ?_)
          · refine go0 ?_
            exact bad _ _ hA3 rfl (by rw [phNot_head, hc]; rfl)
          have zh := hc
          refine go0 ?_
          refine runs_loop (fun k e m' => ∃ (j : Nat), j ≤ p.sets.length ∧ firstBy setNot (p.sets.drop j) j = firstBy setNot p.sets 0 ∧ Above m m' ∧ m'.var m.vars.length = some R.row ∧ m'.var n4 = some p.row ∧ k = p.sets.length - j ∧
            e = [(1, AV.ptr m.vars.length 0), (3, .v (.int .i64 (i : Int))), (4, .ptr n4 0), (5, .v (.int .i64 (j : Int)))]) (k := p.sets.length) ⟨0, Nat.zero_le _, rfl, hA3, hv3, hp3, rfl, rfl⟩ ?_
          rintro k e m4 ⟨j, hj0, hg, hA4, hv4, hp4, rfl, rfl⟩
          have l2 := lpPhSets hp4
          refine go1 @l2 ?_
          refine runs_cond rfl (fun hc => ?_) (fun hc => ?_)
          · have hj1 : j < p.sets.length := by have := of_decide_eq_true hc; omega
            have f2 := atGs (g := .no) (kk := .i64) hj1
            have hs2 := hp2.2.2.2.2 _ (set_mem hj1)
            have syes := fun hp => firstBy_yes (d := gs0) (p := setNot) hj1 hp
            have sno := fun hp => by_no (d := gs0) hj1 hp hg
            have r7 := next_i64 (i := j) (by have := hp1.2; omega)
            generalize p.sets.getD j gs0 = s at f2 hs2 syes sno
            have z2 := zsGs (m := m4) (x := s)
            have hA5 := above_push (cs := s.row) hA4
            have hv5 := push_old (cs' := s.row) hv4
            have hp5 := push_old (cs' := s.row) hp4
            have hs5 : (m4.push s.row).var m4.vars.length = some s.row := push_var
            generalize m4.push s.row = m5 at z2 hA5 hv5 hp5 hs5
            refine go1 (jn @l2 (jn @f2 @z2)) ?_
            generalize m4.vars.length = n6 at hs5 ⊢
            have x1 := lpGsGroup hs5
            have x2 := lpGsParam hs5
            have x3 := lpGsNodes hs5
            have j2 := fun mm => isNameG_eq (s := s.group) (m := mm) hs2.1
            have c5 := fun mm => checkTG_eq (m := mm) (g := .no) hs2.2
            have hops := setNot_ops s
            refine ops_rcut [(1, .ptr m.vars.length 0), (3, .v (.int .i64 (i : Int))), (4, .ptr n4 0), (5, .v (.int .i64 (j : Int))), (113, .v (.bool (setNot s)))] m5 ?_ ?_
            · rw [hops]
              generalize isName s.group = q1 at j2
              generalize checkT s.nodes = q2 at c5
              repeat' (first | refine gos1 (jn @x1 (jn @x2 (jn @x3 (jn @t3 (jn @t5 (jn @j2 @c5)))))) ?_ | (refine ops_here ?_; (fail_if_success (refine ops_case (B := true) rfl rfl rfl ?_ ?_)); (fail_if_success (refine ops_case (B := false) rfl rfl rfl ?_ ?_)); refine ops_case rfl rfl rfl (fun hB => ?_) (fun hB => ?_) <;> rw [hB]) | (refine runs_here ?_; refine runs_cond rfl (fun hc => ?_) (fun hc => ?_) <;> first | (cases hc; done) | skip))
              all_goals refine ⟨?_, rfl⟩
              all_goals simp_all
            repeat (first | refine next_normal ?_ | refine runs_seq ?_)
            refine runs_cond rfl (fun hc => ?_) (fun hc => ?_)
            · refine go0 ?_
              exact bad _ _ hA5 rfl (by rw [phNot_head, syes hc, Bool.or_true])
            · refine go1 @r7 ?_
              exact ⟨p.sets.length - (j + 1), by omega, j + 1, hj1, sno hc, hA5, hv5, hp5, rfl, rfl⟩
          · have hj1 : j = p.sets.length := by have := of_decide_eq_false hc; omega
            subst hj1
            have hn := hno (by rw [phNot_head, zh, firstBy_no hg]; rfl)
            refine go1 @r6 ?_
            exact ⟨R.phases.length - (i + 1), by omega, i + 1, hi1, hn, hA4, hv4, rfl, rfl⟩
        · have hi1 : i = R.phases.length := by have := of_decide_eq_false hc; omega
          subst hi1
          have e1 : R.may = R.endsMay := by rw [may_head, z0, firstBy_no hf]; rfl
          have l0 := vrRc hv2
          have c6 := fun mm => rendsG_at (m := mm) hfit
          refine go1 (jn @l0 (jn @t6 @c6)) ?_
          exact fin _ _ _ hA2 rfl e1
      · cases h
    · cases h
  · cases h
end Go.Proofs.YtojaokhkbmiidaaGreat.Ev

namespace Go.Proofs.YtojaokhkbmiidaaGreat.Ev
open Go Go.Proofs
set_option maxRecDepth 10000
set_option maxHeartbeats 8000000
set_option linter.unusedVariables false
set_option linter.unusedSimpArgs false
attribute [local irreducible] Next Inside Runs Ops table
attribute [local go_sem] szStr szInt Option.getD_some isNil evStr iv mapRc cellsRc newRc rowsFl_len mkFl0
def rflawsG : List AV → Mem → Option (AV × Mem)
  | [.agg cs], m =>
    match unRc cs with
    | some R => if R.may = true ∧ R.fit then some (.lst .no 3 (rowsFl R.flaws), m) else none
    | none => none
  | _, _ => none
theorem rflawsG_at {R : Rc} {m : Mem} (h : R.may = true) (h1 : R.fit) : rflawsG [.agg R.row] m = some (.lst .no 3 (rowsFl R.flaws), m) := by
  simp only [rflawsG, unRc_row]
  rw [if_pos ⟨h, h1⟩]
def kpOf21 : Nat → Option (List Nat) := fun
  | 0 => some [1]
  | 1 => some [1, 3]
  | 2 => some [1, 3, 4]
  | 3 => some [1, 3, 4, 7]
  | 4 => some [1, 3, 4]
  | 5 => some [1, 3, 4]
  | 6 => some [2]
  | _ => none
attribute [go_sem] kpOf21
def tab_of21_ok : List (FuncId × (List AV → Mem → Option (AV × Mem))) := [(46, (brokenRG true))]
theorem of21_ok : FunOk Tryz.prog 16 rflawsG := by
  have hC := table_ok (P := Tryz.prog) (l := tab_of21_ok) (table_more broken20_1 table_nil)
  have t1 := fun args mm => table_at (l := tab_of21_ok) (f := 46) (args := args) (m := mm) rfl
  refine fun_ok mixed hC Tryz.func16 rfl kpOf21 false rfl fun args m r h => ?_
  unfold rflawsG at h
  split at h
  · rename_i cs
    split at h
    · rename_i R hR
      obtain rfl := unRc_some hR
      split at h
      · rename_i hyp
        obtain ⟨hmay, hfit⟩ := hyp
        simp only [Option.some.injEq] at h
        subst h
        refine ⟨Nat.le_of_ble_eq_true rfl, ?_⟩
        simp only [entry, List.length_cons, List.length_nil, List.range, List.range.loop, List.zip_cons_cons, List.zip_nil_right]
        have hsm := Rc.may_small hmay
        have hG0 : GrowsA m .full (m.push R.row) := growsA_push growsA_full
        have hv : (m.push R.row).var m.vars.length = some R.row := push_var
        have nr := newRc (m := m) (x := R)
        generalize m.push R.row = m1 at hG0 hv nr
        unfold Rc.flaws
        rw [if_pos hmay]
        refine go1 @nr ?_
        refine runs_loop (fun k e m' => ∃ (i : Nat) (gr : Grow), i ≤ 19 ∧ GrowsA m gr m' ∧ m'.var m.vars.length = some R.row ∧ k = 19 - i ∧
          e = [(1, AV.ptr m.vars.length 0), (3, .lst gr 3 (rowsFl (flawsTo R i))), (4, .v (.int .i64 ((i + 1 : Nat) : Int)))]) (k := 19) ⟨0, _, Nat.zero_le _, hG0, hv, rfl, rfl⟩ ?_
        rintro k e m' ⟨i, gr, hi0, hG, hw, rfl, rfl⟩
        refine go0 ?_
        refine runs_cond rfl (fun hc => ?_) (fun hc => ?_)
        · have hi1 : i < 19 := by have := of_decide_eq_true hc; omega
          have l2 := vrRc hw
          have f2 := fun mm => brokenRG_at (m := mm) (R := R) (b := true) (rule := ((i + 1 : Nat) : Int)) hmay hfit (by unfold isRule; omega) (.inl rfl)
          have hN : flawsTo R (i + 1) = flawsTo R i ++ brkL R ((i + 1 : Nat) : Int) := upto_next
          have hl1 : (flawsTo R i).length ≤ i * 4096 := upto_len i fun k _ => brkL_len hsm _
          have hl2 := brkL_len hsm ((i + 1 : Nat) : Int)
          have r6 := next_i64 (i := i + 1) (by omega)
          generalize ((i + 1 : Nat) : Int) = j at f2 hN hl2 r6
          obtain ⟨g2, m2, a1, hG2, hV⟩ := app_growsV appFl hG (y := .lst .no 3 (rowsFl (brkL R j))) asList_lst (xs := rowsFl (flawsTo R i)) (by rw [rowsFl_len, rowsFl_len]; unfold lim; omega)
          rw [rowsFl_app, ← hN] at a1
          refine go1 (jn @l2 (jn @t1 (jn @f2 (jn @a1 @r6)))) ?_
          exact ⟨19 - (i + 1), by omega, i + 1, _, hi1, hG2, by rw [hV]; exact hw, rfl, rfl⟩
        · have hi1 : i = 19 := by have := of_decide_eq_false hc; omega
          subst hi1
          refine go0 ?_
          exact leaves_lst rfl rfl (growsA_fin hG)
      · cases h
    · cases h
  · cases h
/-! ### Sound -/
def allKept (R : Rc) : Nat → Bool
  | 0 => true
  | n + 1 => R.kept ((n + 1 : Nat) : Int) && allKept R n
theorem allKept_no {R : Rc} {i : Nat} (h0 : 1 ≤ i) (h : R.kept (i : Int) = false) : ∀ {n : Nat}, i ≤ n → allKept R n = false
  | 0, hn => by omega
  | n + 1, hn => by
    by_cases e : i = n + 1
    · subst e; rw [allKept, h]; rfl
    · rw [allKept, allKept_no h0 h (by omega), Bool.and_false]
theorem allKept_flaws (R : Rc) : ∀ n : Nat, ((((flawsTo R n).length : Nat) : Int) == 0) = allKept R n
  | 0 => rfl
  | n + 1 => by
    have hN : flawsTo R (n + 1) = flawsTo R n ++ brkL R ((n + 1 : Nat) : Int) := upto_next
    have ih := allKept_flaws R n
    have hk : R.kept ((n + 1 : Nat) : Int) = ((((brkL R ((n + 1 : Nat) : Int)).length : Nat) : Int) == 0) := rfl
    rw [allKept, hk, ← ih, hN, List.length_append, Bool.eq_iff_iff]
    simp only [Bool.and_eq_true, beq_iff_eq]
    omega
theorem sound_kept (R : Rc) : R.sound = (R.may && allKept R 19) := by
  unfold Rc.sound Rc.flaws
  cases R.may with
  | false => rfl
  | true => rw [if_pos rfl, allKept_flaws]
def rsoundG : List AV → Mem → Option (AV × Mem)
  | [.agg cs], m =>
    match unRc cs with
    | some R => if R.lite then some (.v (.bool R.sound), m) else none
    | none => none
  | _, _ => none
theorem rsoundG_at {R : Rc} {m : Mem} (h : R.lite) : rsoundG [.agg R.row] m = some (.v (.bool R.sound), m) := by
  simp only [rsoundG, unRc_row]
  rw [if_pos h]
def kpSound21 : Nat → Option (List Nat) := fun
  | 0 => some [1]
  | 1 => some [1, 6]
  | 2 => some [2]
  | 3 => some [1, 3]
  | 4 => some [1, 3, 8]
  | 5 => some [1, 3]
  | 6 => some [1, 3, 14]
  | 7 => some [2]
  | 8 => some [2]
  | _ => none
attribute [go_sem] kpSound21
def tab_sound21_ok : List (FuncId × (List AV → Mem → Option (AV × Mem))) := [(14, mayBG), (39, (keptRG true))]
theorem sound21_ok : FunOk Tryz.prog 13 rsoundG := by
  have hC := table_ok (P := Tryz.prog) (l := tab_sound21_ok) (table_more may18_ok (table_more kept20_1 table_nil))
  have t1 := fun args mm => table_at (l := tab_sound21_ok) (f := 14) (args := args) (m := mm) rfl
  have t2 := fun args mm => table_at (l := tab_sound21_ok) (f := 39) (args := args) (m := mm) rfl
  refine fun_ok mixed hC Tryz.func13 rfl kpSound21 false rfl fun args m r h => ?_
  unfold rsoundG at h
  split at h
  · rename_i cs
    split at h
    · rename_i R hR
      obtain rfl := unRc_some hR
      split at h
      · rename_i hlite
        simp only [Option.some.injEq] at h
        subst h
        refine ⟨Nat.le_of_ble_eq_true rfl, ?_⟩
        simp only [entry, List.length_cons, List.length_nil, List.range, List.range.loop, List.zip_cons_cons, List.zip_nil_right]
        have hA := above_push (cs := R.row) (above_self m)
        have hv : (m.push R.row).var m.vars.length = some R.row := push_var
        have nr := newRc (m := m) (x := R)
        generalize m.push R.row = m1 at hA hv nr
        have l0 := vrRc hv
        have c1 := fun mm => mayBG_at (m := mm) hlite
        rw [sound_kept]
        cases hmay : R.may with
        | false =>
          rw [hmay] at c1
          refine go1 (jn @nr (jn @l0 (jn @t1 @c1))) ?_
          refine runs_cond rfl (fun hc => ?_) (fun hc => by cases hc)
          refine go0 ?_
          exact leaves_fin rfl rfl (above_fin hA)
        | true =>
          rw [hmay] at c1
          rw [Bool.true_and]
          refine go1 (jn @nr (jn @l0 (jn @t1 @c1))) ?_
          refine runs_cond rfl (fun hc => by cases hc) (fun hc => ?_)
          refine go0 ?_
          refine runs_loop (fun k e m' => ∃ (i : Nat), i ≤ 19 ∧ allKept R i = allKept R 19 ∧ m1 = m' ∧ k = 0 + i ∧
            e = [(1, AV.ptr m.vars.length 0), (3, .v (.int .i64 (i : Int)))]) (k := 19) ⟨19, Nat.le_refl _, rfl, rfl, rfl, rfl⟩ ?_
          rintro k e m' ⟨i, hi0, hf, rfl, rfl, rfl⟩
          refine go0 ?_
          refine runs_cond rfl (fun hc => ?_) (fun hc => ?_)
          · have hi1 : 1 ≤ i := by have := of_decide_eq_true hc; omega
            obtain ⟨j, rfl⟩ : ∃ j, i = j + 1 := ⟨i - 1, by omega⟩
            have c2 := fun mm => keptRG_at (m := mm) (R := R) (b := true) (rule := ((j + 1 : Nat) : Int)) hmay hlite.1 (by unfold isRule; omega) (.inl rfl)
            have r6 : IntKind.i64.wrap (((j + 1 : Nat) : Int) - 1) = (j : Int) := by rw [i64_wrap (by omega) (by omega)]; omega
            have hk : allKept R (j + 1) = (R.kept ((j + 1 : Nat) : Int) && allKept R j) := rfl
            cases hq : R.kept ((j + 1 : Nat) : Int) with
            | false =>
              rw [hq] at c2
              rw [allKept_no hi1 hq hi0]
              refine go1 (jn @l0 (jn @t2 @c2)) ?_
              refine runs_cond rfl (fun hc => ?_) (fun hc => by cases hc)
              refine go0 ?_
              exact leaves_fin rfl rfl (above_fin hA)
            | true =>
              rw [hq] at c2 hk
              rw [Bool.true_and] at hk
              refine go1 (jn @l0 (jn @t2 @c2)) ?_
              refine runs_cond rfl (fun hc => by cases hc) (fun hc => ?_)
              refine go1 @r6 ?_
              exact ⟨0 + j, by omega, j, by omega, by rw [← hk, hf], rfl, rfl, rfl⟩
          · have hi1 : i = 0 := by have := of_decide_eq_false hc; omega
            subst hi1
            rw [← hf]
            refine go0 ?_
            exact leaves_fin rfl rfl (above_fin hA)
      · cases h
    · cases h
  · cases h
end Go.Proofs.YtojaokhkbmiidaaGreat.Ev

namespace Go.Proofs.YtojaokhkbmiidaaGreat.Ev
open Go Go.Proofs
set_option maxRecDepth 10000
set_option maxHeartbeats 8000000
set_option linter.unusedVariables false
set_option linter.unusedSimpArgs false
attribute [local irreducible] Next Inside Runs Ops table
attribute [local go_sem] szStr szInt Option.getD_some isNil evStr iv loadStr loadInt rowsS_len rowsGs_len rowsPh_len rowsN_len mapRc mapPh mapGs cellsRc newRc cellsPh cellsGs ldPh ldGs zrPh zoPh znPh zsPh fpRcName fpRcMetrics fpRcGroups fpRcPhases fpRcStop fpRcStopMetric fpRcPlateau fpRcPlateauMetric fpRcKeep fpRcKeepMetric fpPhName fpPhFrozen fpPhSets feGsGroup leGsGroup feGsNodes leGsNodes
def bigS (n : Int) (s : ByteArray) : Bool := decide ((s.size : Int) > n)
def lightSets (n : Int) : List Gs → Option Int
  | [] => some n
  | s :: r => if n ≤ 60 then (if bigS 40 s.group || decide ((s.nodes.length : Int) > 60) then none else lightSets (n + (s.nodes.length : Int)) r) else some n
def lightHead (p : Ph) (n : Int) : Bool := bigS 40 p.name || (decide ((p.frozen.length : Int) > 12) || (decide ((p.sets.length : Int) > 30) || decide (n > 60)))
def lightPhases (n : Int) : List Ph → Option Int
  | [] => some n
  | p :: r => if lightHead p n then none else
    match lightSets n p.sets with
    | none => none
    | some n' => if p.frozen.any (bigS 40) then none else lightPhases n' r
def Rc.lightTop (R : Rc) : Bool := bigS 100 R.name || (decide ((R.metrics.length : Int) > 12) || (decide ((R.groups.length : Int) > 12) || (decide ((R.phases.length : Int) > 20) || decide (IntKind.i64.wrap (IntKind.i64.wrap ((R.stopMetric.size : Int) + (R.plateauMetric.size : Int)) + (R.keepMetric.size : Int)) > 100))))
def Rc.light (R : Rc) : Bool := !R.lightTop && (match lightPhases 0 R.phases with
  | none => false
  | some n => !((R.metrics ++ R.groups).any (bigS 40)) && decide (n ≤ 60))
theorem lightSets_mono : ∀ {l : List Gs} {n n' : Int}, lightSets n l = some n' → n ≤ n'
  | [], n, n', h => by simp only [lightSets, Option.some.injEq] at h; omega
  | s :: r, n, n', h => by
    unfold lightSets at h
    split at h
    · split at h
      · cases h
      · have := lightSets_mono h; omega
    · simp only [Option.some.injEq] at h; omega
theorem lightSets_all : ∀ {l : List Gs} {n n' : Int}, lightSets n l = some n' → n' ≤ 60 → ∀ s ∈ l, s.nodes.length ≤ 60
  | [], n, n', h, hn => fun s hs => by simp at hs
  | x :: r, n, n', h, hn => fun s hs => by
    unfold lightSets at h
    split at h
    · split at h
      · cases h
      · rename_i hb
        simp only [Bool.or_eq_true, decide_eq_true_eq, not_or] at hb
        rcases List.mem_cons.1 hs with rfl | hs
        · omega
        · exact lightSets_all h hn s hs
    · simp only [Option.some.injEq] at h; omega
theorem lightPhases_mono : ∀ {l : List Ph} {n n' : Int}, lightPhases n l = some n' → n ≤ n'
  | [], n, n', h => by simp only [lightPhases, Option.some.injEq] at h; omega
  | p :: r, n, n', h => by
    unfold lightPhases at h
    split at h
    · cases h
    · split at h
      · cases h
      · rename_i n1 h1
        split at h
        · cases h
        · have := lightSets_mono h1; have := lightPhases_mono h; omega
theorem lightPhases_all : ∀ {l : List Ph} {n n' : Int}, lightPhases n l = some n' → n' ≤ 60 → ∀ p ∈ l, p.frozen.length ≤ 12 ∧ p.sets.length ≤ 30 ∧ ∀ s ∈ p.sets, s.nodes.length ≤ 60
  | [], n, n', h, hn => fun s hs => by simp at hs
  | x :: r, n, n', h, hn => fun p hp => by
    unfold lightPhases at h
    split at h
    · cases h
    · rename_i hb
      split at h
      · cases h
      · rename_i n1 h1
        split at h
        · cases h
        · rcases List.mem_cons.1 hp with rfl | hp
          · have := lightPhases_mono h
            simp only [lightHead, Bool.or_eq_true, decide_eq_true_eq, not_or] at hb
            exact ⟨by omega, by omega, lightSets_all h1 (by omega)⟩
          · exact lightPhases_all h hn p hp
def Rc.wide (R : Rc) : Prop := okStr R.name ∧ (∀ s ∈ R.metrics, okStr s) ∧ (∀ s ∈ R.groups, okStr s) ∧ (∀ p ∈ R.phases, okStr p.name ∧ (∀ s ∈ p.frozen, okStr s) ∧ ∀ s ∈ p.sets, okStr s.group) ∧ okStr R.stopMetric ∧ okStr R.plateauMetric ∧ okStr R.keepMetric
instance (R : Rc) : Decidable R.wide := by unfold Rc.wide; exact inferInstance
structure Rc.Lit (R : Rc) : Prop where
  metrics : R.metrics.length ≤ 12
  groups : R.groups.length ≤ 12
  phases : R.phases.length ≤ 20
  each : ∀ p ∈ R.phases, p.frozen.length ≤ 12 ∧ p.sets.length ≤ 30 ∧ ∀ s ∈ p.sets, s.nodes.length ≤ 60
theorem light_lit {R : Rc} (h : R.light = true) : R.Lit := by
  unfold Rc.light Rc.lightTop at h
  simp only [Bool.and_eq_true, Bool.not_eq_true', Bool.or_eq_false_iff, decide_eq_false_iff_not] at h
  obtain ⟨⟨_, h1, h2, h3, _⟩, h4⟩ := h
  split at h4
  · cases h4
  · rename_i n hn
    simp only [Bool.and_eq_true, decide_eq_true_eq] at h4
    exact ⟨by omega, by omega, by omega, lightPhases_all hn h4.2⟩
theorem light_fit {R : Rc} (h : R.light = true) (hw : R.wide) : R.fit := by
  obtain ⟨h1, h2, h3, h4⟩ := light_lit h
  obtain ⟨w1, w2, w3, w4, w5⟩ := hw
  have b40 : (100 : Nat) ≤ big40 := by decide
  refine ⟨w1, ⟨by omega, w2⟩, ⟨by omega, w3⟩, ⟨by omega, fun p hp => ?_⟩, w5⟩
  obtain ⟨a1, a2, a3⟩ := h4 p hp
  obtain ⟨v1, v2, v3⟩ := w4 p hp
  exact ⟨v1, by omega, v2, by omega, fun s hs => ⟨v3 s hs, by have := a3 s hs; omega⟩⟩
def lightG : List AV → Mem → Option (AV × Mem)
  | [.agg cs], m =>
    match unRc cs with
    | some R => some (.v (.bool R.light), m)
    | none => none
  | _, _ => none
theorem lightG_at {R : Rc} {m : Mem} : lightG [.agg R.row] m = some (.v (.bool R.light), m) := by
  simp only [lightG, unRc_row]
def kpLight : Nat → Option (List Nat) := fun
  | 0 => some [1]
  | 1 => some [1, 47]
  | 2 => some [2]
  | 3 => some [1, 3]
  | 4 => some [1, 3, 4]
  | 5 => some [1, 3, 4, 52]
  | 6 => some [1, 3, 4]
  | 7 => some [1, 3, 4, 5]
  | 8 => some [1, 3, 4, 5, 79]
  | 9 => some [2]
  | 10 => some [1, 3, 4, 5, 6]
  | 11 => some [1, 3, 4, 5, 6, 88]
  | 12 => some [1, 3, 4, 5, 6]
  | 13 => some [1, 3, 4, 5, 6, 108]
  | 14 => some [2]
  | 15 => some [1, 3, 4, 5, 6]
  | 16 => some [1, 3, 4, 5, 7]
  | 17 => some [1, 3, 4, 5, 7, 122]
  | 18 => some [1, 3, 4, 5, 7]
  | 19 => some [1, 3, 4, 5, 7, 131]
  | 20 => some [2]
  | 21 => some [1, 3, 8]
  | 22 => some [1, 3, 8, 140]
  | 23 => some [1, 3, 8]
  | 24 => some [1, 3, 8, 176]
  | 25 => some [2]
  | 26 => some [2]
  | _ => none
attribute [go_sem] kpLight
theorem light_ok : FunOk Tryz.prog 9 lightG := by
  have hC := table_ok (P := Tryz.prog) (l := []) table_nil
  refine fun_ok mixed hC Tryz.func9 rfl kpLight false rfl fun args m r h => ?_
  unfold lightG at h
  split at h
  · rename_i cs
    split at h
    · rename_i R hR
      obtain rfl := unRc_some hR
      simp only [Option.some.injEq] at h
      subst h
      refine ⟨Nat.le_of_ble_eq_true rfl, ?_⟩
      simp only [entry, List.length_cons, List.length_nil, List.range, List.range.loop, List.zip_cons_cons, List.zip_nil_right]
      have hA := above_push (cs := R.row) (above_self m)
      have hv : (m.push R.row).var m.vars.length = some R.row := push_var
      have nr := newRc (m := m) (x := R)
      generalize m.push R.row = m1 at hA hv nr
      have fin : ∀ (e : Env) (m' : Mem) (b : Bool), Above m m' → Ev.get e 2 = .v (.bool b) → R.light = b → Leaves Tryz.prog false Tryz.f9 m (.v (.bool R.light), m) .ret e m' := fun e m' b hA' h1 h2 => by rw [h2]; exact leaves_fin rfl h1 (above_fin hA')
      have a1 := lpRcName hv
      have a2 := lpRcMetrics hv
      have a3 := lpRcGroups hv
      have a4 := lpRcPhases hv
      have a5 := lpRcStopMetric hv
      have a6 := lpRcPlateauMetric hv
      have a7 := lpRcKeepMetric hv
      refine go1 @nr ?_
      refine ops_rcut [(1, .ptr m.vars.length 0), (47, .v (.bool R.lightTop))] m1 ?_ ?_
      · unfold Rc.lightTop bigS
        repeat' (first | refine gos1 (jn @a1 (jn @a2 (jn @a3 (jn @a4 (jn @a5 (jn @a6 @a7)))))) ?_ | (refine ops_here ?_; (fail_if_success (refine ops_case (B := true) rfl rfl rfl ?_ ?_)); (fail_if_success (refine ops_case (B := false) rfl rfl rfl ?_ ?_)); refine ops_case rfl rfl rfl (fun hB => ?_) (fun hB => ?_) <;> rw [hB]) | (refine runs_here ?_; refine runs_cond rfl (fun hc => ?_) (fun hc => ?_) <;> first | (cases hc; done) | skip))
        all_goals refine ⟨?_, rfl⟩
        all_goals first | rfl | (simp_all; done)
      repeat (first | refine next_normal ?_ | refine runs_seq ?_)
      refine runs_cond rfl (fun hc => ?_) (fun hc => ?_)
      · have e1 : R.light = false := by unfold Rc.light; rw [hc]; rfl
        refine go0 ?_
        exact fin _ _ _ hA rfl e1
      have hlt : R.metrics.length ≤ 12 ∧ R.groups.length ≤ 12 ∧ R.phases.length ≤ 20 := by
        unfold Rc.lightTop at hc
        simp only [Bool.or_eq_false_iff, decide_eq_false_iff_not] at hc
        omega
      have eL : R.light = (match lightPhases 0 R.phases with
        | none => false
        | some n => !((R.metrics ++ R.groups).any (bigS 40)) && decide (n ≤ 60)) := by unfold Rc.light; rw [hc]; rfl
      refine go0 ?_
      refine runs_loop (fun k e m' => ∃ (i : Nat) (n : Int), i ≤ R.phases.length ∧ 0 ≤ n ∧ n ≤ 120 ∧ lightPhases n (R.phases.drop i) = lightPhases 0 R.phases ∧ Above m m' ∧ m'.var m.vars.length = some R.row ∧ k = R.phases.length - i ∧
        e = [(1, AV.ptr m.vars.length 0), (3, .v (.int .i64 n)), (4, .v (.int .i64 (i : Int)))]) (k := R.phases.length) ⟨0, 0, Nat.zero_le _, by omega, by omega, rfl, hA, hv, rfl, rfl⟩ ?_
      rintro k e m2 ⟨i, n, hi0, hn0, hn1, hf, hA2, hv2, rfl, rfl⟩
      have l1 := lpRcPhases hv2
      refine go1 @l1 ?_
      refine runs_cond rfl (fun hc => ?_) (fun hc => ?_)
      · have hi1 : i < R.phases.length := by have := of_decide_eq_true hc; omega
        have f1 := atPh (g := .no) (kk := .i64) hi1
        rw [drop_next (d := ph0) hi1] at hf
        have r6 := next_i64 (i := i) (by omega)
        generalize R.phases.getD i ph0 = p at f1 hf
        have z1 := zsPh (m := m2) (x := p)
        have hA3 := above_push (cs := p.row) hA2
        have hv3 := push_old (cs' := p.row) hv2
        have hp3 : (m2.push p.row).var m2.vars.length = some p.row := push_var
        generalize m2.push p.row = m3 at z1 hA3 hv3 hp3
        have bad : ∀ e m', Above m m' → Ev.get e 2 = .v (.bool false) → lightPhases n (p :: R.phases.drop (i + 1)) = none → Leaves Tryz.prog false Tryz.f9 m (.v (.bool R.light), m) .ret e m' := fun e m' hA' hg hb => fin e m' false hA' hg (by rw [eL, ← hf, hb])
        refine go1 (jn @l1 (jn @f1 @z1)) ?_
        generalize m2.vars.length = n4 at hp3 ⊢
        have y1 := lpPhName hp3
        have y3 := lpPhFrozen hp3
        have y4 := lpPhSets hp3
        refine ops_rcut [(1, .ptr m.vars.length 0), (3, .v (.int .i64 n)), (4, .v (.int .i64 (i : Int))), (5, .ptr n4 0), (79, .v (.bool (lightHead p n)))] m3 ?_ ?_
        · unfold lightHead bigS
          repeat' (first | refine gos1 (jn @y1 (jn @y3 @y4)) ?_ | (refine ops_here ?_; (fail_if_success (refine ops_case (B := true) rfl rfl rfl ?_ ?_)); (fail_if_success (refine ops_case (B := false) rfl rfl rfl ?_ ?_)); refine ops_case rfl rfl rfl (fun hB => ?_) (fun hB => ?_) <;> rw [hB]) | (refine runs_here ?_; refine runs_cond rfl (fun hc => ?_) (fun hc => ?_) <;> first | (cases hc; done) | skip))
          all_goals refine ⟨?_, rfl⟩
          all_goals first | rfl | (simp_all; done)
        repeat (first | refine next_normal ?_ | refine runs_seq ?_)
        refine runs_cond rfl (fun hc => ?_) (fun hc => ?_)
        · refine go0 ?_
          exact bad _ _ hA3 rfl (by unfold lightPhases; rw [hc]; rfl)
        have zh := hc
        have hP : lightPhases n (p :: R.phases.drop (i + 1)) = match lightSets n p.sets with
          | none => none
          | some n' => if p.frozen.any (bigS 40) then none else lightPhases n' (R.phases.drop (i + 1)) := by conv => lhs; unfold lightPhases
                                                                                                             rw [zh]; rfl
        have hlen : p.frozen.length ≤ 12 ∧ p.sets.length ≤ 30 ∧ n ≤ 60 := by
          unfold lightHead at zh
          simp only [Bool.or_eq_false_iff, decide_eq_false_iff_not] at zh
          omega
        refine go0 ?_
        refine runs_loop (fun k e m' => ∃ (j : Nat) (n' : Int), j ≤ p.sets.length ∧ 0 ≤ n' ∧ n' ≤ 120 ∧ lightSets n' (p.sets.drop j) = lightSets n p.sets ∧ m3 = m' ∧ k = p.sets.length - j ∧
          e = [(1, AV.ptr m.vars.length 0), (3, .v (.int .i64 n')), (4, .v (.int .i64 (i : Int))), (5, .ptr n4 0), (6, .v (.int .i64 (j : Int)))]) (k := p.sets.length) ⟨0, n, Nat.zero_le _, hn0, hn1, rfl, rfl, rfl, rfl⟩ ?_
        rintro k e m5 ⟨j, n', hj0, hn3, hn4, hS, rfl, rfl, rfl⟩
        refine go0 ?_
        refine ops_rcut [(1, .ptr m.vars.length 0), (3, .v (.int .i64 n')), (4, .v (.int .i64 (i : Int))), (5, .ptr n4 0), (6, .v (.int .i64 (j : Int))), (88, .v (.bool (decide ((j : Int) < (p.sets.length : Int)) && decide (n' ≤ 60))))] m3 ?_ ?_
        · cases q1 : decide ((j : Int) < (p.sets.length : Int)) with
          | true =>
            refine go1 (jn @y4 @q1) ?_
            exact ⟨by rw [Bool.true_and], rfl⟩
          | false =>
            refine go1 (jn @y4 @q1) ?_
            exact ⟨rfl, rfl⟩
        repeat (first | refine next_normal ?_ | refine runs_seq ?_)
        refine runs_cond rfl (fun hc => ?_) (fun hc => ?_)
        · simp only [Bool.and_eq_true, decide_eq_true_eq] at hc
          have hj1 : j < p.sets.length := by omega
          have f2 := atGs (g := .no) (kk := .i64) hj1
          rw [drop_next (d := gs0) hj1] at hS
          generalize p.sets.getD j gs0 = s at f2 hS
          have r7 := next_i64 (i := j) (by omega)
          have hS2 : lightSets n' (s :: p.sets.drop (j + 1)) = if bigS 40 s.group || decide ((s.nodes.length : Int) > 60) then none else lightSets (n' + (s.nodes.length : Int)) (p.sets.drop (j + 1)) := by
            conv => lhs; unfold lightSets
            rw [if_pos hc.2]
          rw [hS2] at hS
          refine go1 (jn @y4 @f2) ?_
          refine ops_rcut [(1, .ptr m.vars.length 0), (3, .v (.int .i64 n')), (4, .v (.int .i64 (i : Int))), (5, .ptr n4 0), (6, .v (.int .i64 (j : Int))), (108, .v (.bool (bigS 40 s.group || decide ((s.nodes.length : Int) > 60))))] m3 ?_ ?_
          · unfold bigS
            cases q1 : decide ((s.group.size : Int) > 40) with
            | true =>
              refine go1 @q1 ?_
              exact ⟨rfl, rfl⟩
            | false =>
              refine go1 (jn @q1 (jn @y4 @f2)) ?_
              exact ⟨by rw [Bool.false_or], rfl⟩
          repeat (first | refine next_normal ?_ | refine runs_seq ?_)
          refine runs_cond rfl (fun hb => ?_) (fun hb => ?_)
          · refine go0 ?_
            rw [hb, if_pos rfl] at hS
            exact bad _ _ hA3 rfl (by rw [hP, ← hS])
          · rw [hb, if_neg (by decide)] at hS
            simp only [Bool.or_eq_false_iff, decide_eq_false_iff_not] at hb
            have r8 : IntKind.i64.wrap (n' + (s.nodes.length : Int)) = n' + (s.nodes.length : Int) := i64_wrap (by omega) (by omega)
            refine go1 (jn @y4 (jn @f2 (jn @r8 @r7))) ?_
            exact ⟨p.sets.length - (j + 1), by omega, j + 1, n' + (s.nodes.length : Int), hj1, by omega, by omega, hS, rfl, rfl, rfl⟩
        have hS3 : lightSets n p.sets = some n' := by
          rw [← hS]
          by_cases hj1 : j < p.sets.length
          · rw [drop_next (d := gs0) hj1]
            unfold lightSets
            rw [if_neg]
            intro h60
            rw [decide_eq_true (show (j : Int) < (p.sets.length : Int) by omega), decide_eq_true h60] at hc
            cases hc
          · rw [List.drop_eq_nil_of_le (by omega)]
            rfl
        rw [hS3] at hP
        simp only at hP
        refine go0 ?_
        refine runs_loop (fun k e m' => ∃ (j : Nat), j ≤ p.frozen.length ∧ firstBy (bigS 40) (p.frozen.drop j) j = firstBy (bigS 40) p.frozen 0 ∧ m3 = m' ∧ k = p.frozen.length - j ∧
          e = [(1, AV.ptr m.vars.length 0), (3, .v (.int .i64 n')), (4, .v (.int .i64 (i : Int))), (5, .ptr n4 0), (7, .v (.int .i64 (j : Int)))]) (k := p.frozen.length) ⟨0, Nat.zero_le _, rfl, rfl, rfl, rfl⟩ ?_
        rintro k e m6 ⟨j, hj0, hg, rfl, rfl, rfl⟩
        refine go1 @y3 ?_
        refine runs_cond rfl (fun hc => ?_) (fun hc => ?_)
        · have hj1 : j < p.frozen.length := by have := of_decide_eq_true hc; omega
          have f2 := atStrs (g := .no) (kk := .i64) hj1
          have syes := fun hp => firstBy_yes (d := (⟨#[]⟩ : ByteArray)) (p := bigS 40) hj1 hp
          have sno := fun hp => by_no (d := (⟨#[]⟩ : ByteArray)) hj1 hp hg
          have r7 := next_i64 (i := j) (by omega)
          generalize p.frozen.getD j ⟨#[]⟩ = s at f2 syes sno
          refine go1 (jn @y3 @f2) ?_
          refine runs_cond rfl (fun hc => ?_) (fun hc => ?_)
          · refine go0 ?_
            exact bad _ _ hA3 rfl (by rw [hP, syes hc]; rfl)
          · refine go1 @r7 ?_
            exact ⟨p.frozen.length - (j + 1), by omega, j + 1, hj1, sno hc, rfl, rfl, rfl⟩
        · have hj1 : j = p.frozen.length := by have := of_decide_eq_false hc; omega
          subst hj1
          rw [firstBy_no hg, if_neg (by decide)] at hP
          refine go1 @r6 ?_
          exact ⟨R.phases.length - (i + 1), by omega, i + 1, n', hi1, hn3, hn4, by rw [← hP, hf], hA3, hv3, rfl, rfl⟩
      · have hi1 : i = R.phases.length := by have := of_decide_eq_false hc; omega
        subst hi1
        rw [List.drop_length] at hf
        rw [← hf] at eL
        have eL' : R.light = (!((R.metrics ++ R.groups).any (bigS 40)) && decide (n ≤ 60)) := eL
        generalize hL : R.metrics ++ R.groups = L at eL'
        have hLl : L.length = R.metrics.length + R.groups.length := by rw [← hL, List.length_append]
        have w0 : IntKind.i64.wrap ((R.metrics.length : Int) + (R.groups.length : Int)) = (L.length : Int) := by rw [i64_wrap (by omega) (by omega)]; omega
        refine go0 ?_
        refine runs_loop (fun k e m' => ∃ (i : Nat), i ≤ L.length ∧ firstBy (bigS 40) (L.drop i) i = firstBy (bigS 40) L 0 ∧ m2 = m' ∧ k = L.length - i ∧
          e = [(1, AV.ptr m.vars.length 0), (3, .v (.int .i64 n)), (8, .v (.int .i64 (i : Int)))]) (k := L.length) ⟨0, Nat.zero_le _, rfl, rfl, rfl, rfl⟩ ?_
        rintro k e m7 ⟨i, hi0, hg, rfl, rfl, rfl⟩
        have y1 := lpRcMetrics hv2
        have y2 := lpRcGroups hv2
        refine go1 (jn @y1 (jn @y2 @w0)) ?_
        refine runs_cond rfl (fun hc => ?_) (fun hc => ?_)
        · have hi1 : i < L.length := by have := of_decide_eq_true hc; omega
          have syes := fun hp => firstBy_yes (d := (⟨#[]⟩ : ByteArray)) (p := bigS 40) hi1 hp
          have sno := fun hp => by_no (d := (⟨#[]⟩ : ByteArray)) hi1 hp hg
          have r7 := next_i64 (i := i) (by omega)
          refine go0 ?_
          refine ops_rcut [(1, .ptr m.vars.length 0), (3, .v (.int .i64 n)), (8, .v (.int .i64 (i : Int))), (176, .v (.bool (bigS 40 (L.getD i ⟨#[]⟩))))] m2 ?_ ?_
          · by_cases hm : i < R.metrics.length
            · have b0 : decide ((i : Int) < (R.metrics.length : Int)) = true := decide_eq_true (by omega)
              have b1 : decide ((i : Int) ≥ (R.metrics.length : Int)) = false := decide_eq_false (by omega)
              have f2 := atStrs (g := .no) (kk := .i64) hm
              have e0 : L.getD i ⟨#[]⟩ = R.metrics.getD i ⟨#[]⟩ := by rw [← hL]; simp [List.getD, List.getElem?_append_left hm]
              rw [e0]
              generalize R.metrics.getD i ⟨#[]⟩ = s at f2
              unfold bigS
              cases q1 : decide ((s.size : Int) > 40) with
              | true =>
                refine go1 (jn @y1 (jn @b0 (jn @f2 @q1))) ?_
                exact ⟨rfl, rfl⟩
              | false =>
                refine go1 (jn @y1 (jn @b0 (jn @f2 (jn @q1 @b1)))) ?_
                exact ⟨rfl, rfl⟩
            · have b0 : decide ((i : Int) < (R.metrics.length : Int)) = false := decide_eq_false (by omega)
              have b1 : decide ((i : Int) ≥ (R.metrics.length : Int)) = true := decide_eq_true (by omega)
              have hm2 : i - R.metrics.length < R.groups.length := by omega
              have f2 := atStrs (g := .no) (kk := .i64) hm2
              have r8 : IntKind.i64.wrap ((i : Int) - (R.metrics.length : Int)) = ((i - R.metrics.length : Nat) : Int) := by rw [i64_wrap (by omega) (by omega)]; omega
              have e0 : L.getD i ⟨#[]⟩ = R.groups.getD (i - R.metrics.length) ⟨#[]⟩ := by rw [← hL]; simp [List.getD, List.getElem?_append_right (Nat.le_of_not_lt hm)]
              rw [e0]
              generalize R.groups.getD (i - R.metrics.length) ⟨#[]⟩ = s at f2
              unfold bigS
              refine go1 (jn @y1 (jn @b0 (jn @b1 (jn @y2 (jn @r8 @f2))))) ?_
              exact ⟨rfl, rfl⟩
          repeat (first | refine next_normal ?_ | refine runs_seq ?_)
          refine runs_cond rfl (fun hb => ?_) (fun hb => ?_)
          · refine go0 ?_
            exact fin _ _ _ hA2 rfl (by rw [eL', syes hb]; rfl)
          · refine go1 @r7 ?_
            exact ⟨L.length - (i + 1), by omega, i + 1, hi1, sno hb, rfl, rfl, rfl⟩
        · have hi1 : i = L.length := by have := of_decide_eq_false hc; omega
          subst hi1
          rw [firstBy_no hg] at eL'
          refine go0 ?_
          exact fin _ _ _ hA2 rfl (eL'.trans (by rw [Bool.not_false, Bool.true_and]))
    · cases h
  · cases h
end Go.Proofs.YtojaokhkbmiidaaGreat.Ev

namespace Go.Proofs.YtojaokhkbmiidaaGreat.Ev
open Go Go.Proofs
set_option maxRecDepth 10000
set_option maxHeartbeats 8000000
set_option linter.unusedVariables false
set_option linter.unusedSimpArgs false
attribute [local irreducible] Next Inside Runs Ops table
theorem ty_int {d : Nat} {p : List AV} (h : Typed Tryz.prog (d + 1) 3 p) : ∃ n, inI n ∧ p = [iv n] := by
  unfold Typed at h
  rw [Tryz.underlying3] at h
  obtain ⟨n, rfl, n0, n1⟩ := h
  simp [IntKind.min, IntKind.max, IntKind.signed, IntKind.bits] at n0 n1
  exact ⟨n, ⟨n0, n1⟩, rfl⟩
theorem ty_bool {d : Nat} {p : List AV} (h : Typed Tryz.prog (d + 1) 4 p) : ∃ b, p = [.v (.bool b)] := by
  unfold Typed at h
  rw [Tryz.underlying4] at h
  exact h
theorem ty_str {d : Nat} {p : List AV} (h : Typed Tryz.prog (d + 1) 9 p) : ∃ s, okStr s ∧ p = [.v (.string s)] := by
  unfold Typed at h
  rw [Tryz.underlying9] at h
  obtain ⟨s, rfl, h1⟩ := h
  exact ⟨s, h1, rfl⟩
theorem ty_strs {d : Nat} : ∀ {rows : List (List AV)}, (∀ row ∈ rows, Typed Tryz.prog (d + 1) 9 row) → ∃ l, (∀ s ∈ l, okStr s) ∧ rows = rowsS l
  | [], _ => ⟨[], (fun s hs => by simp at hs), rfl⟩
  | row :: rows, h => by
    obtain ⟨l, h1, rfl⟩ := ty_strs fun r hr => h r (List.mem_cons_of_mem _ hr)
    obtain ⟨s, h2, rfl⟩ := ty_str (h row (List.mem_cons_self ..))
    refine ⟨s :: l, fun x hx => ?_, rfl⟩
    rcases List.mem_cons.1 hx with rfl | hx
    · exact h2
    · exact h1 x hx
theorem ty_strsP {d : Nat} {p : List AV} (h : Typed Tryz.prog (d + 2) 22 p) : ∃ l, (∀ s ∈ l, okStr s) ∧ p = [.lst .no 1 (rowsS l)] := by
  unfold Typed at h
  rw [Tryz.underlying22] at h
  obtain ⟨rows, rfl, _, h2⟩ := h
  obtain ⟨l, h3, rfl⟩ := ty_strs h2
  exact ⟨l, h3, by rw [size_cells szStr]⟩
theorem ty_nodesP {d : Nat} {p : List AV} (h : Typed Tryz.prog (d + 4) 70 p) : ∃ l, OkN l ∧ p = [.lst .no 7 (rowsN l)] := by
  unfold Typed at h
  rw [Tryz.underlying70] at h
  obtain ⟨rows, rfl, _, h2⟩ := h
  obtain ⟨l, h3, rfl⟩ := rows_nodes h2
  exact ⟨l, h3, by rw [size_cells szNode]⟩
theorem ty_len {d : Nat} {p : List AV} (h : Typed Tryz.prog (d + 2) 33 p) : ∃ u n, p = [iv u, iv n] := by
  unfold Typed at h
  rw [Tryz.underlying33] at h
  obtain ⟨parts, rfl, hl, h⟩ := h
  match parts, hl with
  | [p0, p1], _ =>
    obtain ⟨a, a0, rfl⟩ := ty_int (h 0 _ p0 rfl rfl)
    obtain ⟨b, b0, rfl⟩ := ty_int (h 1 _ p1 rfl rfl)
    exact ⟨a, b, rfl⟩
theorem ty_gs {d : Nat} {p : List AV} (h : Typed Tryz.prog (d + 5) 72 p) : ∃ x : Gs, okStr x.group ∧ p = x.row := by
  unfold Typed at h
  rw [Tryz.underlying72] at h
  obtain ⟨parts, rfl, hl, h⟩ := h
  match parts, hl with
  | [p0, p1, p2], _ =>
    obtain ⟨a, a0, rfl⟩ := ty_str (h 0 _ p0 rfl rfl)
    obtain ⟨b, b0, rfl⟩ := ty_int (h 1 _ p1 rfl rfl)
    obtain ⟨c, c0, rfl⟩ := ty_nodesP (h 2 _ p2 rfl rfl)
    exact ⟨⟨a, b, c⟩, a0, rfl⟩
theorem ty_gss {d : Nat} : ∀ {rows : List (List AV)}, (∀ row ∈ rows, Typed Tryz.prog (d + 5) 72 row) → ∃ l : List Gs, (∀ s ∈ l, okStr s.group) ∧ rows = rowsGs l
  | [], _ => ⟨[], (fun s hs => by simp at hs), rfl⟩
  | row :: rows, h => by
    obtain ⟨l, h1, rfl⟩ := ty_gss fun r hr => h r (List.mem_cons_of_mem _ hr)
    obtain ⟨s, h2, rfl⟩ := ty_gs (h row (List.mem_cons_self ..))
    refine ⟨s :: l, fun x hx => ?_, rfl⟩
    rcases List.mem_cons.1 hx with rfl | hx
    · exact h2
    · exact h1 x hx
theorem ty_gssP {d : Nat} {p : List AV} (h : Typed Tryz.prog (d + 6) 67 p) : ∃ l : List Gs, (∀ s ∈ l, okStr s.group) ∧ p = [.lst .no 3 (rowsGs l)] := by
  unfold Typed at h
  rw [Tryz.underlying67] at h
  obtain ⟨rows, rfl, _, h2⟩ := h
  obtain ⟨l, h3, rfl⟩ := ty_gss h2
  exact ⟨l, h3, by rw [size_cells szGs]⟩
def Ph.wide (p : Ph) : Prop := okStr p.name ∧ (∀ s ∈ p.frozen, okStr s) ∧ ∀ s ∈ p.sets, okStr s.group
theorem ty_ph {d : Nat} {p : List AV} (h : Typed Tryz.prog (d + 7) 69 p) : ∃ x : Ph, x.wide ∧ p = x.row := by
  unfold Typed at h
  rw [Tryz.underlying69] at h
  obtain ⟨parts, rfl, hl, h⟩ := h
  match parts, hl with
  | [p0, p1, p2, p3], _ =>
    obtain ⟨a, a0, rfl⟩ := ty_str (h 0 _ p0 rfl rfl)
    obtain ⟨u, n, rfl⟩ := ty_len (h 1 _ p1 rfl rfl)
    obtain ⟨b, b0, rfl⟩ := ty_strsP (h 2 _ p2 rfl rfl)
    obtain ⟨c, c0, rfl⟩ := ty_gssP (h 3 _ p3 rfl rfl)
    exact ⟨⟨a, u, n, b, c⟩, ⟨a0, b0, c0⟩, rfl⟩
theorem ty_phs {d : Nat} : ∀ {rows : List (List AV)}, (∀ row ∈ rows, Typed Tryz.prog (d + 7) 69 row) → ∃ l : List Ph, (∀ s ∈ l, s.wide) ∧ rows = rowsPh l
  | [], _ => ⟨[], (fun s hs => by simp at hs), rfl⟩
  | row :: rows, h => by
    obtain ⟨l, h1, rfl⟩ := ty_phs fun r hr => h r (List.mem_cons_of_mem _ hr)
    obtain ⟨s, h2, rfl⟩ := ty_ph (h row (List.mem_cons_self ..))
    refine ⟨s :: l, fun x hx => ?_, rfl⟩
    rcases List.mem_cons.1 hx with rfl | hx
    · exact h2
    · exact h1 x hx
theorem ty_phsP {d : Nat} {p : List AV} (h : Typed Tryz.prog (d + 8) 23 p) : ∃ l : List Ph, (∀ s ∈ l, s.wide) ∧ p = [.lst .no 5 (rowsPh l)] := by
  unfold Typed at h
  rw [Tryz.underlying23] at h
  obtain ⟨rows, rfl, _, h2⟩ := h
  obtain ⟨l, h3, rfl⟩ := ty_phs h2
  exact ⟨l, h3, by rw [size_cells szPh]⟩
theorem ty_tp {d : Nat} {p : List AV} (h : Typed Tryz.prog (d + 2) 25 p) : ∃ x : Tp, okStr x.Metric ∧ p = x.row := by
  unfold Typed at h
  rw [Tryz.underlying25] at h
  obtain ⟨parts, rfl, hl, h⟩ := h
  match parts, hl with
  | [p0, p1, p2, p3, p4, p5], _ =>
    obtain ⟨a, rfl⟩ := ty_bool (h 0 _ p0 rfl rfl)
    obtain ⟨b, b0, rfl⟩ := ty_str (h 1 _ p1 rfl rfl)
    obtain ⟨c, rfl⟩ := ty_bool (h 2 _ p2 rfl rfl)
    obtain ⟨e, e0, rfl⟩ := ty_int (h 3 _ p3 rfl rfl)
    obtain ⟨f, f0, rfl⟩ := ty_int (h 4 _ p4 rfl rfl)
    obtain ⟨g, rfl⟩ := ty_bool (h 5 _ p5 rfl rfl)
    exact ⟨⟨a, b, c, e, f, g⟩, b0, rfl⟩
theorem ty_pt {d : Nat} {p : List AV} (h : Typed Tryz.prog (d + 2) 27 p) : ∃ x : Pt, okStr x.Metric ∧ p = x.row := by
  unfold Typed at h
  rw [Tryz.underlying27] at h
  obtain ⟨parts, rfl, hl, h⟩ := h
  match parts, hl with
  | [p0, p1, p2, p3, p4, p5, p6, p7], _ =>
    obtain ⟨a, rfl⟩ := ty_bool (h 0 _ p0 rfl rfl)
    obtain ⟨b, b0, rfl⟩ := ty_str (h 1 _ p1 rfl rfl)
    obtain ⟨c, rfl⟩ := ty_bool (h 2 _ p2 rfl rfl)
    obtain ⟨e, e0, rfl⟩ := ty_int (h 3 _ p3 rfl rfl)
    obtain ⟨f, f0, rfl⟩ := ty_int (h 4 _ p4 rfl rfl)
    obtain ⟨g, g0, rfl⟩ := ty_int (h 5 _ p5 rfl rfl)
    obtain ⟨i, i0, rfl⟩ := ty_int (h 6 _ p6 rfl rfl)
    obtain ⟨j, j0, rfl⟩ := ty_int (h 7 _ p7 rfl rfl)
    exact ⟨⟨a, b, c, e, f, g, i, j⟩, b0, rfl⟩
theorem ty_kp {d : Nat} {p : List AV} (h : Typed Tryz.prog (d + 2) 29 p) : ∃ x : Kp, okStr x.Metric ∧ p = x.row := by
  unfold Typed at h
  rw [Tryz.underlying29] at h
  obtain ⟨parts, rfl, hl, h⟩ := h
  match parts, hl with
  | [p0, p1, p2, p3], _ =>
    obtain ⟨a, rfl⟩ := ty_bool (h 0 _ p0 rfl rfl)
    obtain ⟨b, b0, rfl⟩ := ty_str (h 1 _ p1 rfl rfl)
    obtain ⟨c, rfl⟩ := ty_bool (h 2 _ p2 rfl rfl)
    obtain ⟨e, e0, rfl⟩ := ty_int (h 3 _ p3 rfl rfl)
    exact ⟨⟨a, b, c, e⟩, b0, rfl⟩
theorem ty_em {d : Nat} {p : List AV} (h : Typed Tryz.prog (d + 2) 31 p) : ∃ x : Em, p = x.row := by
  unfold Typed at h
  rw [Tryz.underlying31] at h
  obtain ⟨parts, rfl, hl, h⟩ := h
  match parts, hl with
  | [p0, p1], _ =>
    obtain ⟨a, rfl⟩ := ty_bool (h 0 _ p0 rfl rfl)
    obtain ⟨b, b0, rfl⟩ := ty_int (h 1 _ p1 rfl rfl)
    exact ⟨⟨a, b⟩, rfl⟩
theorem ty_sw {d : Nat} {p : List AV} (h : Typed Tryz.prog (d + 3) 35 p) : ∃ x : Sw, p = x.row := by
  unfold Typed at h
  rw [Tryz.underlying35] at h
  obtain ⟨parts, rfl, hl, h⟩ := h
  match parts, hl with
  | [p0, p1, p2], _ =>
    obtain ⟨a, rfl⟩ := ty_bool (h 0 _ p0 rfl rfl)
    obtain ⟨u, n, rfl⟩ := ty_len (h 1 _ p1 rfl rfl)
    obtain ⟨b, b0, rfl⟩ := ty_int (h 2 _ p2 rfl rfl)
    exact ⟨⟨a, u, n, b⟩, rfl⟩
theorem ty_rc {d : Nat} {p : List AV} (h : Typed Tryz.prog (d + 9) 37 p) : ∃ R : Rc, R.wide ∧ (inI R.steps ∧ inI R.epoch ∧ inI R.eval) ∧ p = R.row := by
  unfold Typed at h
  rw [Tryz.underlying37] at h
  obtain ⟨parts, rfl, hl, h⟩ := h
  match parts, hl with
  | [p0, p1, p2, p3, p4, p5, p6, p7, p8, p9, p10, p11, p12], _ =>
    obtain ⟨c0, a0, rfl⟩ := ty_str (h 0 _ p0 rfl rfl)
    obtain ⟨c1, a1, rfl⟩ := ty_int (h 1 _ p1 rfl rfl)
    obtain ⟨c2, a2, rfl⟩ := ty_int (h 2 _ p2 rfl rfl)
    obtain ⟨c3, a3, rfl⟩ := ty_int (h 3 _ p3 rfl rfl)
    obtain ⟨c4, a4, rfl⟩ := ty_strsP (h 4 _ p4 rfl rfl)
    obtain ⟨c5, a5, rfl⟩ := ty_strsP (h 5 _ p5 rfl rfl)
    obtain ⟨c6, a6, rfl⟩ := ty_int (h 6 _ p6 rfl rfl)
    obtain ⟨c7, a7, rfl⟩ := ty_phsP (h 7 _ p7 rfl rfl)
    obtain ⟨s, s0, rfl⟩ := ty_tp (h 8 _ p8 rfl rfl)
    obtain ⟨t, t0, rfl⟩ := ty_pt (h 9 _ p9 rfl rfl)
    obtain ⟨k, k0, rfl⟩ := ty_kp (h 10 _ p10 rfl rfl)
    obtain ⟨e, rfl⟩ := ty_em (h 11 _ p11 rfl rfl)
    obtain ⟨w, rfl⟩ := ty_sw (h 12 _ p12 rfl rfl)
    exact ⟨⟨c0, c1, c2, c3, c4, c5, c6, c7, s.On, s.Metric, s.Max, s.Patience, s.Delta, s.Rel, t.On, t.Metric, t.Max, t.Factor, t.Patience, t.Cooldown, t.Floor, t.Delta, k.On, k.Metric, k.Max, k.Count, e.On, e.Decay, w.On, w.FromU, w.FromN, w.Every⟩, ⟨a0, a4, a5, a7, s0, t0, k0⟩, ⟨a1, a2, a6⟩, rfl⟩
theorem arg_rc {d : Nat} {a : AV} (h : TypedArg Tryz.prog (d + 9) 37 a) : ∃ R : Rc, R.wide ∧ (inI R.steps ∧ inI R.epoch ∧ inI R.eval) ∧ a = .agg R.row := by
  unfold TypedArg at h
  rw [Tryz.underlying37] at h
  obtain ⟨cs, rfl, h⟩ := h
  obtain ⟨R, h1, h2, rfl⟩ := ty_rc h
  exact ⟨R, h1, h2, rfl⟩
theorem lit_lite {R : Rc} (h : R.light = true) (hw : R.wide) : R.fit ∧ R.metrics.length ≤ 1000 ∧ R.groups.length ≤ 1000 ∧ R.phases.length ≤ 1000 ∧ ∀ p ∈ R.phases, p.frozen.length ≤ 1000 ∧ p.sets.length ≤ 1000 := by
  obtain ⟨h1, h2, h3, h4⟩ := light_lit h
  exact ⟨light_fit h hw, by omega, by omega, by omega, fun p hp => by obtain ⟨a1, a2, _⟩ := h4 p hp; exact ⟨by omega, by omega⟩⟩
end Go.Proofs.YtojaokhkbmiidaaGreat.Ev

namespace Go.Proofs.YtojaokhkbmiidaaGreat.Ev
open Go Go.Proofs
set_option maxRecDepth 10000
set_option maxHeartbeats 8000000
set_option linter.unusedVariables false
set_option linter.unusedSimpArgs false
attribute [local irreducible] Next Inside Runs Ops table
def extC : Ctx := ⟨fun _ _ => none, fun _ => false, fun f => if f = 122 then some isNameG else if f = 86 then some setsG else if f = 77 then some endsRG else none⟩
theorem extC_ok : ∀ f g, extC.ext f = some g → FunOk Tryz.prog f g := by
  intro f g h
  unfold extC at h
  simp only at h
  split at h
  · rename_i e
    cases h
    subst e
    exact is_ok
  · split at h
    · rename_i e
      cases h
      subst e
      exact sets_ok
    · split at h
      · rename_i e
        cases h
        subst e
        exact endsR_ok
      · cases h
theorem awake_of {f : FuncId} (hrun : runC Tryz.prog extC 60 f [] ⟨[], []⟩ = some (.v (.bool true), ⟨[], []⟩)) : FunOk Tryz.prog f yesG := by
  have h := wide_ok (P := Tryz.prog) (f := f) (x := .bool true) fun args m r m' hg => by
    dsimp only at hg
    split at hg
    · rename_i hc
      obtain ⟨rfl, h1, h2⟩ := hc
      obtain ⟨v, t⟩ := m
      simp only at h1 h2
      subst h1
      subst h2
      cases hg
      exact runC_ok mixed extC_ok 60 _ _ _ _ _ hrun
    · cases hg
  intro args m r m' hg
  refine h args m r m' ?_
  cases args with
  | nil => exact hg
  | cons a rest => cases hg
theorem awake21_ok : FunOk Tryz.prog 10 yesG := awake_of (by kernel_rfl)
theorem awake22_ok : FunOk Tryz.prog 17 yesG := awake_of (by kernel_rfl)
end Go.Proofs.YtojaokhkbmiidaaGreat.Ev

namespace Go.Proofs.YtojaokhkbmiidaaGreat.Ev
open Go Go.Proofs
set_option maxRecDepth 10000
set_option maxHeartbeats 8000000
set_option linter.unusedVariables false
set_option linter.unusedSimpArgs false
attribute [local irreducible] Next Inside Runs Ops table
noncomputable section
attribute [local go_sem] szStr szInt Option.getD_some isNil evStr iv loadStr loadInt rowsFl_len niFl ldFl
def sameFG : List AV → Mem → Option (AV × Mem)
  | [.lst _ 3 rows, .lst _ 3 rows2], m =>
    match unsFl rows with
    | some l => open Classical in if l.length ≤ 1000000 ∧ rows2 = rowsFl l then some (.v (.bool true), m) else none
    | none => none
  | _, _ => none
theorem sameFG_at {m : Mem} {g g2 : Grow} {l : List Fl} (h : l.length ≤ 1000000) : sameFG [.lst g 3 (rowsFl l), .lst g2 3 (rowsFl l)] m = some (.v (.bool true), m) := by
  simp only [sameFG, unsFl_rowsFl]
  rw [if_pos ⟨h, trivial⟩]
def kpSame20 : Nat → Option (List Nat) := fun
  | 0 => some [0, 1]
  | 1 => some [0, 1, 10]
  | 2 => some [4]
  | 3 => some [0, 1, 5]
  | 4 => some [0, 1, 5, 14]
  | 5 => some [0, 1, 5]
  | 6 => some [0, 1, 5, 25]
  | 7 => some [4]
  | 8 => some [4]
  | _ => none
attribute [go_sem] kpSame20
theorem sameF_ok : FunOk Tryz.prog 15 sameFG := by
  have hC := table_ok (P := Tryz.prog) (l := []) table_nil
  refine fun_ok mixed hC Tryz.func15 rfl kpSame20 false rfl fun args m r h => ?_
  unfold sameFG at h
  split at h
  · rename_i g rows g2 rows2
    split at h
    · rename_i l hl
      obtain rfl := unsFl_some hl
      split at h
      · rename_i hyp
        obtain ⟨hlen, rfl⟩ := hyp
        simp only [Option.some.injEq] at h
        subst h
        refine ⟨Nat.le_of_ble_eq_true rfl, ?_⟩
        simp only [entry, List.length_cons, List.length_nil, List.range, List.range.loop, List.zip_cons_cons, List.zip_nil_right]
        have b0 : ((l.length : Int) != (l.length : Int)) = false := by simp
        refine go1 @b0 ?_
        refine runs_cond rfl (fun hc => by cases hc) (fun hc => ?_)
        refine go0 ?_
        refine runs_loop (fun k e m' => ∃ (i : Nat), i ≤ l.length ∧ m = m' ∧ k = l.length - i ∧
          e = [(0, AV.lst g 3 (rowsFl l)), (1, .lst g2 3 (rowsFl l)), (5, .v (.int .i64 (i : Int)))]) (k := l.length) ⟨0, Nat.zero_le _, rfl, rfl, rfl⟩ ?_
        rintro k e m' ⟨i, hi, rfl, rfl, rfl⟩
        refine go0 ?_
        refine runs_cond rfl (fun hc => ?_) (fun hc => ?_)
        · have hi1 : i < l.length := by have := of_decide_eq_true hc; omega
          have f1 := atFl (g := g) (kk := .i64) hi1
          have f2 := atFl (g := g2) (kk := .i64) hi1
          have r6 := next_i64 (i := i) (by omega)
          generalize l.getD i fl0 = x at f1 f2
          have e1 : eqTy Tryz.prog 8 83 (.agg x.row) (.agg x.row) = some true := by rw [eqFl]; simp
          have w1 : (!true) = false := rfl
          refine go0 ?_
          refine runs_ops_drawn_kept (by kernel_rfl) ?_
          refine go1 (jn @f1 (jn @f2 (jn @e1 @w1))) ?_
          refine runs_cond rfl (fun hc => by cases hc) (fun hc => ?_)
          refine go1 @r6 ?_
          exact ⟨l.length - (i + 1), by omega, i + 1, hi1, rfl, rfl, rfl⟩
        · refine go0 ?_
          exact leaves_v rfl rfl
      · cases h
    · cases h
  · cases h
end
end Go.Proofs.YtojaokhkbmiidaaGreat.Ev
