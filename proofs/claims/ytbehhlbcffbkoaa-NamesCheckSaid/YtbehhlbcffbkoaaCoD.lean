/- Names: the walks of the two tests of one text. -/
import Derived.Test.YtbehhlbcffbkoaaCoC
namespace Go.Proofs.Ytbehhlbcffbkoaa.Ev
open Go Go.Proofs
set_option maxRecDepth 10000
set_option linter.unusedVariables false
set_option linter.unusedSimpArgs false
attribute [local irreducible] Next Inside Runs Ops table XRuns XOps XNext XInside
def lettersTo (s : ByteArray) : Nat → Bool
  | 0 => true
  | n + 1 => lettersTo s n && letterB ((s.get! n).toNat : Nat) (n == 0)
theorem letters_no {s : ByteArray} {i : Nat} (h : letterB ((s.get! i).toNat : Nat) (i == 0) = false) : ∀ {n : Nat}, i < n → lettersTo s n = false
  | 0, hn => by omega
  | n + 1, hn => by
    unfold lettersTo
    rcases Nat.lt_succ_iff_lt_or_eq.1 hn with hn | rfl
    · rw [letters_no h hn]; rfl
    · rw [h, Bool.and_false]
def isName (s : ByteArray) : Bool := lettersTo s s.size && (decide (1 ≤ s.size) && decide (s.size ≤ 16) && !keyword s)
theorem name_no {s : ByteArray} {i : Nat} (hi : i < s.size) (h : letterB ((s.get! i).toNat : Nat) (i == 0) = false) : isName s = false := by
  unfold isName
  rw [letters_no h hi]
  rfl
theorem letter_high {c : Nat} (h : 128 ≤ c) (f : Bool) : letterB (c : Int) f = false := by
  unfold letterB
  rw [decide_eq_false (by omega : ¬ (c : Int) ≤ 122), decide_eq_false (by omega : ¬ (c : Int) ≤ 57), decide_eq_false (by omega : ¬ (c : Int) = 95)]
  simp
theorem get_bang {s : ByteArray} {i : Nat} (h : i < s.size) : s.get! i = s[i]'h := by
  show s.get! i = _
  simp [ByteArray.get!, getElem!_pos, h]
  rfl
theorem size_zero {s : ByteArray} : (s != ⟨#[]⟩) = decide (1 ≤ s.size) := by
  by_cases h : s = ⟨#[]⟩
  · subst h; rfl
  · rw [bytes_ne.2 h]
    refine (decide_eq_true ?_).symm
    rcases Nat.eq_zero_or_pos s.size with h0 | h0
    · exfalso
      apply h
      obtain ⟨a⟩ := s
      have : a.size = 0 := h0
      rw [Array.eq_empty_of_size_eq_zero this]
    · exact h0
def isNameG : List AV → Mem → Option (AV × Mem)
  | [.v (.string s)], m => if s.size ≤ 9223372036854775807 then some (.v (.bool (isName s)), m) else none
  | _, _ => none
theorem isNameG_eq {s : ByteArray} {m : Mem} (h : s.size ≤ 9223372036854775807) : isNameG [.v (.string s)] m = some (.v (.bool (isName s)), m) := if_pos h
def kpIs : Nat → Option (List Nat) := fun _ => some [0, 2, 3, 4, 6, 7, 8, 15]
def tabIs : List (FuncId × (List AV → Mem → Option (AV × Mem))) := [(76, letterG), (48, keywordG)]
theorem is_ok : FunOk Try.prog 46 isNameG := by
  have hC := table_ok (P := Try.prog) (l := tabIs) (table_more letter_ok (table_more keyword_ok table_nil))
  have t1 := fun args mm => table_at (l := tabIs) (f := 76) (args := args) (m := mm) rfl
  have t2 := fun args mm => table_at (l := tabIs) (f := 48) (args := args) (m := mm) rfl
  refine fun_okX Try.func46 rfl false rfl fun args m r h => ?_
  unfold isNameG at h
  split at h
  · rename_i s
    split at h
    · rename_i hlen
      simp only [Option.some.injEq] at h
      subst h
      refine ⟨Nat.le_of_ble_eq_true rfl, fun φ w => ?_⟩
      simp only [entry, List.length_cons, List.length_nil, List.range, List.range.loop, List.zip_cons_cons, List.zip_nil_right]
      repeat (first | refine x_seq ?_ | refine x_block ?_ | refine xn_normal ?_ | refine xi_normal ?_ | refine xn_exit ?_ | refine xi_exit ?_ | refine xi_other (by decide) ?_ | refine xn_ret ?_ | refine xi_ret ?_ | refine x_skip ?_ | refine x_exit ?_ | refine x_ret ?_)
      refine x_region (kp := kpIs) mixed hC ?_
      repeat (first
        | refine runs_seq ?_ | refine runs_block ?_ | refine next_normal ?_ | refine inside_normal ?_ | refine next_exit ?_ | refine inside_exit ?_ | refine inside_other (by decide) ?_ | refine next_ret ?_ | refine inside_ret ?_
        | refine runs_ops_kept ?_ | refine runs_skip ?_ | refine runs_exit ?_ | refine runs_ret ?_
        | refine ops_op rfl rfl (by decide) (by simp only [evOp, opd, constAV, constCell, Ev.get, reduceIte, Nat.reduceEqDiff, reduceCtorEq, evBinN, nilCmp, evBin, evInt, evUn, evConvert, evBuiltin, evLen, evField, evPart, tStr, tInt, tElem, tArr, tBool, tAgg, tField, Try.underlying9, Try.underlying3, Try.underlying4, Try.underlying5, Try.underlying21, Try.underlying45, Try.underlying64, Try.underlying56, Try.underlying40, Try.underlying34, Try.underlying2, Try.underlying26, List.zipWith, Option.map_some, Option.map_none, List.length_cons, List.length_nil, ne_eq, Int.reduceEq, not_false_eq_true, and_self, and_true, true_and, szStr, szInt, Option.getD_some, isNil, loadStr, loadInt, mkInts0, mkInts1, mkStrs0, mkStrs1, rowsS_len, rowsI_len, evStr, evCall, List.size_toArray, List.append_nil, List.nil_append, List.map_cons, List.map_nil, argAV, argCell, List.toList_toArray, fieldTy]; rfl) (fun h => by first | rfl | (simp at h; done)) ?_
        | refine ops_yes rfl rfl (by simp only [Ev.get, reduceIte, Nat.reduceEqDiff, szStr, szInt, Option.getD_some, isNil, loadStr, loadInt, mkInts0, mkInts1, mkStrs0, mkStrs1, rowsS_len, rowsI_len, evStr]; first | done | rfl) rfl (by decide) (by simp only [evOp, opd, constAV, constCell, Ev.get, reduceIte, Nat.reduceEqDiff, reduceCtorEq, evBinN, nilCmp, evBin, evInt, evUn, evConvert, evBuiltin, evLen, evField, evPart, tStr, tInt, tElem, tArr, tBool, tAgg, tField, Try.underlying9, Try.underlying3, Try.underlying4, Try.underlying5, Try.underlying21, Try.underlying45, Try.underlying64, Try.underlying56, Try.underlying40, Try.underlying34, Try.underlying2, Try.underlying26, List.zipWith, Option.map_some, Option.map_none, List.length_cons, List.length_nil, ne_eq, Int.reduceEq, not_false_eq_true, and_self, and_true, true_and, szStr, szInt, Option.getD_some, isNil, loadStr, loadInt, mkInts0, mkInts1, mkStrs0, mkStrs1, rowsS_len, rowsI_len, evStr, evCall, List.size_toArray, List.append_nil, List.nil_append, List.map_cons, List.map_nil, argAV, argCell, List.toList_toArray, fieldTy]; rfl) (fun h => by first | rfl | (simp at h; done)) ?_
        | refine ops_no rfl rfl (by simp only [Ev.get, reduceIte, Nat.reduceEqDiff, szStr, szInt, Option.getD_some, isNil, loadStr, loadInt, mkInts0, mkInts1, mkStrs0, mkStrs1, rowsS_len, rowsI_len, evStr]; first | done | rfl) (by decide) rfl (by decide) ?_
        | refine ops_off rfl rfl rfl rfl (by decide) ?_
        | (refine ops_nil ?_; intro e2 h2; simp only [restr, kpIs, List.map_cons, List.map_nil, Ev.get, reduceIte, Nat.reduceEqDiff] at h2; subst h2))
      repeat (first | refine x_seq ?_ | refine x_block ?_ | refine xn_normal ?_ | refine xi_normal ?_ | refine xn_exit ?_ | refine xi_exit ?_ | refine xi_other (by decide) ?_ | refine xn_ret ?_ | refine xi_ret ?_ | refine x_skip ?_ | refine x_exit ?_ | refine x_ret ?_)
      refine x_ops (l2 := some [0, 2, 3, 4, 6, 7, 8, 15]) ?_
      refine xo_op hC rfl rfl (by decide) (by simp only [evOp, opd, constAV, constCell, Ev.get, reduceIte, Nat.reduceEqDiff, reduceCtorEq, evBinN, nilCmp, evBin, evInt, evUn, evConvert, evBuiltin, evLen, evField, evPart, tStr, tInt, tElem, tArr, tBool, tAgg, tField, Try.underlying9, Try.underlying3, Try.underlying4, Try.underlying5, Try.underlying21, Try.underlying45, Try.underlying64, Try.underlying56, Try.underlying40, Try.underlying34, Try.underlying2, Try.underlying26, List.zipWith, Option.map_some, Option.map_none, List.length_cons, List.length_nil, ne_eq, Int.reduceEq, not_false_eq_true, and_self, and_true, true_and, szStr, szInt, Option.getD_some, isNil, loadStr, loadInt, mkInts0, mkInts1, mkStrs0, mkStrs1, rowsS_len, rowsI_len, evStr]; rfl) ?_
      refine xo_range rfl rfl (by decide) rfl strS rfl fun b => ?_
      refine xo_nil ?_
      intro e2 h2
      simp only [restr, List.map_cons, List.map_nil, Ev.get, reduceIte, Nat.reduceEqDiff] at h2
      subst h2
      repeat (first | refine x_seq ?_ | refine x_block ?_ | refine xn_normal ?_ | refine xi_normal ?_ | refine xn_exit ?_ | refine xi_exit ?_ | refine xi_other (by decide) ?_ | refine xn_ret ?_ | refine xi_ret ?_ | refine x_skip ?_ | refine x_exit ?_ | refine x_ret ?_)
      refine x_loop (fun k e m' F => ∃ (pos : Nat) (x3 x4 x7 x8 x15 : AV), pos ≤ s.size ∧ lettersTo s pos = true ∧ m = m' ∧ F = [(b, .stringIter s pos)] ∧ k = s.size - pos ∧
        e = [(0, AV.v (.string s)), (2, .v (.bool false)), (3, x3), (4, x4), (6, .v (.pointer (some ⟨b, 0, none⟩))), (7, x7), (8, x8), (15, x15)]) (k := s.size) ⟨0, _, _, _, _, _, Nat.zero_le _, rfl, rfl, rfl, rfl, rfl⟩ ?_
      rintro k e m' F ⟨pos, x3, x4, x7, x8, x15, hpos, hok, rfl, rfl, rfl, rfl⟩
      repeat (first | refine x_seq ?_ | refine x_block ?_ | refine xn_normal ?_ | refine xi_normal ?_ | refine xn_exit ?_ | refine xi_exit ?_ | refine xi_other (by decide) ?_ | refine xn_ret ?_ | refine xi_ret ?_ | refine x_skip ?_ | refine x_exit ?_ | refine x_ret ?_)
      refine x_ops (l2 := some [0, 2, 3, 4, 6, 7, 8, 15]) ?_
      refine xo_next rfl rfl (by decide) rfl rfl (List.mem_singleton.2 rfl) (fun hp => ?_) (fun hp => ?_)
      · refine xo_op hC rfl rfl (by decide) (by simp only [evOp, opd, constAV, constCell, Ev.get, reduceIte, Nat.reduceEqDiff, reduceCtorEq, evBinN, nilCmp, evBin, evInt, evUn, evConvert, evBuiltin, evLen, evField, evPart, tStr, tInt, tElem, tArr, tBool, tAgg, tField, Try.underlying9, Try.underlying3, Try.underlying4, Try.underlying5, Try.underlying21, Try.underlying45, Try.underlying64, Try.underlying56, Try.underlying40, Try.underlying34, Try.underlying2, Try.underlying26, List.zipWith, Option.map_some, Option.map_none, List.length_cons, List.length_nil, ne_eq, Int.reduceEq, not_false_eq_true, and_self, and_true, true_and, szStr, szInt, Option.getD_some, isNil, loadStr, loadInt, mkInts0, mkInts1, mkStrs0, mkStrs1, rowsS_len, rowsI_len, evStr]; rfl) ?_
        refine xo_nil ?_
        intro e2 h2
        simp only [restr, List.map_cons, List.map_nil, Ev.get, reduceIte, Nat.reduceEqDiff] at h2
        subst h2
        repeat (first | refine x_seq ?_ | refine x_block ?_ | refine xn_normal ?_ | refine xi_normal ?_ | refine xn_exit ?_ | refine xi_exit ?_ | refine xi_other (by decide) ?_ | refine xn_ret ?_ | refine xi_ret ?_ | refine x_skip ?_ | refine x_exit ?_ | refine x_ret ?_)
        refine x_cond rfl (fun hc => ?_) (fun hc => by cases hc)
        repeat (first | refine x_seq ?_ | refine x_block ?_ | refine xn_normal ?_ | refine xi_normal ?_ | refine xn_exit ?_ | refine xi_exit ?_ | refine xi_other (by decide) ?_ | refine xn_ret ?_ | refine xi_ret ?_ | refine x_skip ?_ | refine x_exit ?_ | refine x_ret ?_)
        refine x_region (kp := kpIs) mixed hC ?_
        repeat (first
          | refine runs_seq ?_ | refine runs_block ?_ | refine next_normal ?_ | refine inside_normal ?_ | refine next_exit ?_ | refine inside_exit ?_ | refine inside_other (by decide) ?_ | refine next_ret ?_ | refine inside_ret ?_
          | refine runs_ops_kept ?_ | refine runs_skip ?_ | refine runs_exit ?_ | refine runs_ret ?_
          | refine ops_op rfl rfl (by decide) (by simp only [evOp, opd, constAV, constCell, Ev.get, reduceIte, Nat.reduceEqDiff, reduceCtorEq, evBinN, nilCmp, evBin, evInt, evUn, evConvert, evBuiltin, evLen, evField, evPart, tStr, tInt, tElem, tArr, tBool, tAgg, tField, Try.underlying9, Try.underlying3, Try.underlying4, Try.underlying5, Try.underlying21, Try.underlying45, Try.underlying64, Try.underlying56, Try.underlying40, Try.underlying34, Try.underlying2, Try.underlying26, List.zipWith, Option.map_some, Option.map_none, List.length_cons, List.length_nil, ne_eq, Int.reduceEq, not_false_eq_true, and_self, and_true, true_and, szStr, szInt, Option.getD_some, isNil, loadStr, loadInt, mkInts0, mkInts1, mkStrs0, mkStrs1, rowsS_len, rowsI_len, evStr, evCall, List.size_toArray, List.append_nil, List.nil_append, List.map_cons, List.map_nil, argAV, argCell, List.toList_toArray, fieldTy]; rfl) (fun h => by first | rfl | (simp at h; done)) ?_
          | refine ops_yes rfl rfl (by simp only [Ev.get, reduceIte, Nat.reduceEqDiff, szStr, szInt, Option.getD_some, isNil, loadStr, loadInt, mkInts0, mkInts1, mkStrs0, mkStrs1, rowsS_len, rowsI_len, evStr]; first | done | rfl) rfl (by decide) (by simp only [evOp, opd, constAV, constCell, Ev.get, reduceIte, Nat.reduceEqDiff, reduceCtorEq, evBinN, nilCmp, evBin, evInt, evUn, evConvert, evBuiltin, evLen, evField, evPart, tStr, tInt, tElem, tArr, tBool, tAgg, tField, Try.underlying9, Try.underlying3, Try.underlying4, Try.underlying5, Try.underlying21, Try.underlying45, Try.underlying64, Try.underlying56, Try.underlying40, Try.underlying34, Try.underlying2, Try.underlying26, List.zipWith, Option.map_some, Option.map_none, List.length_cons, List.length_nil, ne_eq, Int.reduceEq, not_false_eq_true, and_self, and_true, true_and, szStr, szInt, Option.getD_some, isNil, loadStr, loadInt, mkInts0, mkInts1, mkStrs0, mkStrs1, rowsS_len, rowsI_len, evStr, evCall, List.size_toArray, List.append_nil, List.nil_append, List.map_cons, List.map_nil, argAV, argCell, List.toList_toArray, fieldTy]; rfl) (fun h => by first | rfl | (simp at h; done)) ?_
          | refine ops_no rfl rfl (by simp only [Ev.get, reduceIte, Nat.reduceEqDiff, szStr, szInt, Option.getD_some, isNil, loadStr, loadInt, mkInts0, mkInts1, mkStrs0, mkStrs1, rowsS_len, rowsI_len, evStr]; first | done | rfl) (by decide) rfl (by decide) ?_
          | refine ops_off rfl rfl rfl rfl (by decide) ?_
          | (refine ops_nil ?_; intro e2 h2; simp only [restr, kpIs, List.map_cons, List.map_nil, Ev.get, reduceIte, Nat.reduceEqDiff] at h2; subst h2))
        repeat (first | refine x_seq ?_ | refine x_block ?_ | refine xn_normal ?_ | refine xi_normal ?_ | refine xn_exit ?_ | refine xi_exit ?_ | refine xi_other (by decide) ?_ | refine xn_ret ?_ | refine xi_ret ?_ | refine x_skip ?_ | refine x_exit ?_ | refine x_ret ?_)
        have hgb := get_bang hp
        have fl : ∀ c f mm, letterG [.v (.int .i32 c), .v (.bool f)] mm = some (.v (.bool (letterB c f)), mm) := fun _ _ _ => rfl
        refine x_region (kp := kpIs) mixed hC ?_
        have hz : ((pos : Int) == 0) = (pos == 0) := by
          cases pos <;> rfl
        repeat (first
          | refine runs_seq ?_ | refine runs_block ?_ | refine next_normal ?_ | refine inside_normal ?_ | refine next_exit ?_ | refine inside_exit ?_ | refine inside_other (by decide) ?_ | refine next_ret ?_ | refine inside_ret ?_
          | refine runs_ops_kept ?_ | refine runs_skip ?_ | refine runs_exit ?_ | refine runs_ret ?_
          | refine ops_op rfl rfl (by decide) (by simp only [evOp, opd, constAV, constCell, Ev.get, reduceIte, Nat.reduceEqDiff, reduceCtorEq, evBinN, nilCmp, evBin, evInt, evUn, evConvert, evBuiltin, evLen, evField, evPart, tStr, tInt, tElem, tArr, tBool, tAgg, tField, Try.underlying9, Try.underlying3, Try.underlying4, Try.underlying5, Try.underlying21, Try.underlying45, Try.underlying64, Try.underlying56, Try.underlying40, Try.underlying34, Try.underlying2, Try.underlying26, List.zipWith, Option.map_some, Option.map_none, List.length_cons, List.length_nil, ne_eq, Int.reduceEq, not_false_eq_true, and_self, and_true, true_and, szStr, szInt, Option.getD_some, isNil, loadStr, loadInt, mkInts0, mkInts1, mkStrs0, mkStrs1, rowsS_len, rowsI_len, evStr, evCall, List.size_toArray, List.append_nil, List.nil_append, List.map_cons, List.map_nil, argAV, argCell, List.toList_toArray, fieldTy, t1, fl]; rfl) (fun h => by first | rfl | (simp at h; done)) ?_
          | refine ops_yes rfl rfl (by simp only [Ev.get, reduceIte, Nat.reduceEqDiff, szStr, szInt, Option.getD_some, isNil, loadStr, loadInt, mkInts0, mkInts1, mkStrs0, mkStrs1, rowsS_len, rowsI_len, evStr, t1, fl]; first | done | rfl) rfl (by decide) (by simp only [evOp, opd, constAV, constCell, Ev.get, reduceIte, Nat.reduceEqDiff, reduceCtorEq, evBinN, nilCmp, evBin, evInt, evUn, evConvert, evBuiltin, evLen, evField, evPart, tStr, tInt, tElem, tArr, tBool, tAgg, tField, Try.underlying9, Try.underlying3, Try.underlying4, Try.underlying5, Try.underlying21, Try.underlying45, Try.underlying64, Try.underlying56, Try.underlying40, Try.underlying34, Try.underlying2, Try.underlying26, List.zipWith, Option.map_some, Option.map_none, List.length_cons, List.length_nil, ne_eq, Int.reduceEq, not_false_eq_true, and_self, and_true, true_and, szStr, szInt, Option.getD_some, isNil, loadStr, loadInt, mkInts0, mkInts1, mkStrs0, mkStrs1, rowsS_len, rowsI_len, evStr, evCall, List.size_toArray, List.append_nil, List.nil_append, List.map_cons, List.map_nil, argAV, argCell, List.toList_toArray, fieldTy, t1, fl]; rfl) (fun h => by first | rfl | (simp at h; done)) ?_
          | refine ops_no rfl rfl (by simp only [Ev.get, reduceIte, Nat.reduceEqDiff, szStr, szInt, Option.getD_some, isNil, loadStr, loadInt, mkInts0, mkInts1, mkStrs0, mkStrs1, rowsS_len, rowsI_len, evStr, t1, fl]; first | done | rfl) (by decide) rfl (by decide) ?_
          | refine ops_off rfl rfl rfl rfl (by decide) ?_
          | (refine ops_nil ?_; intro e2 h2; simp only [restr, kpIs, List.map_cons, List.map_nil, Ev.get, reduceIte, Nat.reduceEqDiff] at h2; subst h2))
        repeat (first | refine x_seq ?_ | refine x_block ?_ | refine xn_normal ?_ | refine xi_normal ?_ | refine xn_exit ?_ | refine xi_exit ?_ | refine xi_other (by decide) ?_ | refine xn_ret ?_ | refine xi_ret ?_ | refine x_skip ?_ | refine x_exit ?_ | refine x_ret ?_)
        refine x_cond rfl (fun hc => ?_) (fun hc => ?_)
        · have hbad : letterB ((s.get! pos).toNat : Nat) (pos == 0) = false := by
            rcases Nat.lt_or_ge (s.get! pos).toNat 128 with ha | ha
            · rw [hgb] at ha ⊢
              rw [decode_ascii s pos hp ha, hz] at hc
              simpa using hc
            · exact letter_high ha _
          rw [name_no hp hbad]
          repeat (first | refine x_seq ?_ | refine x_block ?_ | refine xn_normal ?_ | refine xi_normal ?_ | refine xn_exit ?_ | refine xi_exit ?_ | refine xi_other (by decide) ?_ | refine xn_ret ?_ | refine xi_ret ?_ | refine x_skip ?_ | refine x_exit ?_ | refine x_ret ?_)
          refine x_region (kp := kpIs) mixed hC ?_
          repeat (first
            | refine runs_seq ?_ | refine runs_block ?_ | refine next_normal ?_ | refine inside_normal ?_ | refine next_exit ?_ | refine inside_exit ?_ | refine inside_other (by decide) ?_ | refine next_ret ?_ | refine inside_ret ?_
            | refine runs_ops_kept ?_ | refine runs_skip ?_ | refine runs_exit ?_ | refine runs_ret ?_
            | refine ops_op rfl rfl (by decide) (by simp only [evOp, opd, constAV, constCell, Ev.get, reduceIte, Nat.reduceEqDiff, reduceCtorEq, evBinN, nilCmp, evBin, evInt, evUn, evConvert, evBuiltin, evLen, evField, evPart, tStr, tInt, tElem, tArr, tBool, tAgg, tField, Try.underlying9, Try.underlying3, Try.underlying4, Try.underlying5, Try.underlying21, Try.underlying45, Try.underlying64, Try.underlying56, Try.underlying40, Try.underlying34, Try.underlying2, Try.underlying26, List.zipWith, Option.map_some, Option.map_none, List.length_cons, List.length_nil, ne_eq, Int.reduceEq, not_false_eq_true, and_self, and_true, true_and, szStr, szInt, Option.getD_some, isNil, loadStr, loadInt, mkInts0, mkInts1, mkStrs0, mkStrs1, rowsS_len, rowsI_len, evStr, evCall, List.size_toArray, List.append_nil, List.nil_append, List.map_cons, List.map_nil, argAV, argCell, List.toList_toArray, fieldTy]; rfl) (fun h => by first | rfl | (simp at h; done)) ?_
            | refine ops_yes rfl rfl (by simp only [Ev.get, reduceIte, Nat.reduceEqDiff, szStr, szInt, Option.getD_some, isNil, loadStr, loadInt, mkInts0, mkInts1, mkStrs0, mkStrs1, rowsS_len, rowsI_len, evStr]; first | done | rfl) rfl (by decide) (by simp only [evOp, opd, constAV, constCell, Ev.get, reduceIte, Nat.reduceEqDiff, reduceCtorEq, evBinN, nilCmp, evBin, evInt, evUn, evConvert, evBuiltin, evLen, evField, evPart, tStr, tInt, tElem, tArr, tBool, tAgg, tField, Try.underlying9, Try.underlying3, Try.underlying4, Try.underlying5, Try.underlying21, Try.underlying45, Try.underlying64, Try.underlying56, Try.underlying40, Try.underlying34, Try.underlying2, Try.underlying26, List.zipWith, Option.map_some, Option.map_none, List.length_cons, List.length_nil, ne_eq, Int.reduceEq, not_false_eq_true, and_self, and_true, true_and, szStr, szInt, Option.getD_some, isNil, loadStr, loadInt, mkInts0, mkInts1, mkStrs0, mkStrs1, rowsS_len, rowsI_len, evStr, evCall, List.size_toArray, List.append_nil, List.nil_append, List.map_cons, List.map_nil, argAV, argCell, List.toList_toArray, fieldTy]; rfl) (fun h => by first | rfl | (simp at h; done)) ?_
            | refine ops_no rfl rfl (by simp only [Ev.get, reduceIte, Nat.reduceEqDiff, szStr, szInt, Option.getD_some, isNil, loadStr, loadInt, mkInts0, mkInts1, mkStrs0, mkStrs1, rowsS_len, rowsI_len, evStr]; first | done | rfl) (by decide) rfl (by decide) ?_
            | refine ops_off rfl rfl rfl rfl (by decide) ?_
            | (refine ops_nil ?_; intro e2 h2; simp only [restr, kpIs, List.map_cons, List.map_nil, Ev.get, reduceIte, Nat.reduceEqDiff] at h2; subst h2))
          repeat (first | refine x_seq ?_ | refine x_block ?_ | refine xn_normal ?_ | refine xi_normal ?_ | refine xn_exit ?_ | refine xi_exit ?_ | refine xi_other (by decide) ?_ | refine xn_ret ?_ | refine xi_ret ?_ | refine x_skip ?_ | refine x_exit ?_ | refine x_ret ?_)
          exact x_leaves (leaves_v rfl rfl)
        · have ha : (s.get! pos).toNat < 128 := by
            rcases Nat.lt_or_ge (s.get! pos).toNat 128 with ha | ha
            · exact ha
            · rw [hgb] at ha
              have := letter_high (decode_high s pos hp ha).1 ((pos : Int) == 0)
              rw [this] at hc
              cases hc
          have hgood : letterB ((s.get! pos).toNat : Nat) (pos == 0) = true := by
            rw [hgb] at ha ⊢
            rw [decode_ascii s pos hp ha, hz] at hc
            simpa using hc
          rw [hgb] at ha
          repeat (first | refine x_seq ?_ | refine x_block ?_ | refine xn_normal ?_ | refine xi_normal ?_ | refine xn_exit ?_ | refine xi_exit ?_ | refine xi_other (by decide) ?_ | refine xn_ret ?_ | refine xi_ret ?_ | refine x_skip ?_ | refine x_exit ?_ | refine x_ret ?_)
          rw [decode_ascii s pos hp ha]
          exact ⟨s.size - (pos + 1), by omega, pos + 1, _, _, _, _, _, hp, by rw [lettersTo, hok, hgood]; rfl, rfl, by simp [setObjs], rfl, rfl⟩
      · refine xo_op hC rfl rfl (by decide) (by simp only [evOp, opd, constAV, constCell, Ev.get, reduceIte, Nat.reduceEqDiff, reduceCtorEq, evBinN, nilCmp, evBin, evInt, evUn, evConvert, evBuiltin, evLen, evField, evPart, tStr, tInt, tElem, tArr, tBool, tAgg, tField, Try.underlying9, Try.underlying3, Try.underlying4, Try.underlying5, Try.underlying21, Try.underlying45, Try.underlying64, Try.underlying56, Try.underlying40, Try.underlying34, Try.underlying2, Try.underlying26, List.zipWith, Option.map_some, Option.map_none, List.length_cons, List.length_nil, ne_eq, Int.reduceEq, not_false_eq_true, and_self, and_true, true_and, szStr, szInt, Option.getD_some, isNil, loadStr, loadInt, mkInts0, mkInts1, mkStrs0, mkStrs1, rowsS_len, rowsI_len, evStr]; rfl) ?_
        refine xo_nil ?_
        intro e2 h2
        simp only [restr, List.map_cons, List.map_nil, Ev.get, reduceIte, Nat.reduceEqDiff] at h2
        subst h2
        have hend : pos = s.size := by omega
        subst hend
        repeat (first | refine x_seq ?_ | refine x_block ?_ | refine xn_normal ?_ | refine xi_normal ?_ | refine xn_exit ?_ | refine xi_exit ?_ | refine xi_other (by decide) ?_ | refine xn_ret ?_ | refine xi_ret ?_ | refine x_skip ?_ | refine x_exit ?_ | refine x_ret ?_)
        refine x_cond rfl (fun hc => by cases hc) (fun hc => ?_)
        repeat (first | refine x_seq ?_ | refine x_block ?_ | refine xn_normal ?_ | refine xi_normal ?_ | refine xn_exit ?_ | refine xi_exit ?_ | refine xi_other (by decide) ?_ | refine xn_ret ?_ | refine xi_ret ?_ | refine x_skip ?_ | refine x_exit ?_ | refine x_ret ?_)
        refine x_region (kp := kpIs) mixed hC ?_
        have hz := size_zero (s := s)
        have fk : ∀ s mm, keywordG [.v (.string s)] mm = some (.v (.bool (keyword s)), mm) := fun _ _ => rfl
        by_cases h1 : 1 ≤ s.size
        · have b1 : (s != ⟨#[]⟩) = true := hz.trans (decide_eq_true h1)
          by_cases h2 : s.size ≤ 16
          · have b2 : decide ((s.size : Int) ≤ 16) = true := decide_eq_true (by omega)
            repeat (first
              | refine runs_seq ?_ | refine runs_block ?_ | refine next_normal ?_ | refine inside_normal ?_ | refine next_exit ?_ | refine inside_exit ?_ | refine inside_other (by decide) ?_ | refine next_ret ?_ | refine inside_ret ?_
              | refine runs_ops_kept ?_ | refine runs_skip ?_ | refine runs_exit ?_ | refine runs_ret ?_
              | refine ops_op rfl rfl (by decide) (by simp only [evOp, opd, constAV, constCell, Ev.get, reduceIte, Nat.reduceEqDiff, reduceCtorEq, evBinN, nilCmp, evBin, evInt, evUn, evConvert, evBuiltin, evLen, evField, evPart, tStr, tInt, tElem, tArr, tBool, tAgg, tField, Try.underlying9, Try.underlying3, Try.underlying4, Try.underlying5, Try.underlying21, Try.underlying45, Try.underlying64, Try.underlying56, Try.underlying40, Try.underlying34, Try.underlying2, Try.underlying26, List.zipWith, Option.map_some, Option.map_none, List.length_cons, List.length_nil, ne_eq, Int.reduceEq, not_false_eq_true, and_self, and_true, true_and, szStr, szInt, Option.getD_some, isNil, loadStr, loadInt, mkInts0, mkInts1, mkStrs0, mkStrs1, rowsS_len, rowsI_len, evStr, evCall, List.size_toArray, List.append_nil, List.nil_append, List.map_cons, List.map_nil, argAV, argCell, List.toList_toArray, fieldTy, b1, b2, t2, fk]; rfl) (fun h => by first | rfl | (simp at h; done)) ?_
              | refine ops_yes rfl rfl (by simp only [Ev.get, reduceIte, Nat.reduceEqDiff, szStr, szInt, Option.getD_some, isNil, loadStr, loadInt, mkInts0, mkInts1, mkStrs0, mkStrs1, rowsS_len, rowsI_len, evStr, b1, b2, t2, fk]; first | done | rfl) rfl (by decide) (by simp only [evOp, opd, constAV, constCell, Ev.get, reduceIte, Nat.reduceEqDiff, reduceCtorEq, evBinN, nilCmp, evBin, evInt, evUn, evConvert, evBuiltin, evLen, evField, evPart, tStr, tInt, tElem, tArr, tBool, tAgg, tField, Try.underlying9, Try.underlying3, Try.underlying4, Try.underlying5, Try.underlying21, Try.underlying45, Try.underlying64, Try.underlying56, Try.underlying40, Try.underlying34, Try.underlying2, Try.underlying26, List.zipWith, Option.map_some, Option.map_none, List.length_cons, List.length_nil, ne_eq, Int.reduceEq, not_false_eq_true, and_self, and_true, true_and, szStr, szInt, Option.getD_some, isNil, loadStr, loadInt, mkInts0, mkInts1, mkStrs0, mkStrs1, rowsS_len, rowsI_len, evStr, evCall, List.size_toArray, List.append_nil, List.nil_append, List.map_cons, List.map_nil, argAV, argCell, List.toList_toArray, fieldTy, b1, b2, t2, fk]; rfl) (fun h => by first | rfl | (simp at h; done)) ?_
              | refine ops_no rfl rfl (by simp only [Ev.get, reduceIte, Nat.reduceEqDiff, szStr, szInt, Option.getD_some, isNil, loadStr, loadInt, mkInts0, mkInts1, mkStrs0, mkStrs1, rowsS_len, rowsI_len, evStr, b1, b2, t2, fk]; first | done | rfl) (by decide) rfl (by decide) ?_
              | refine ops_off rfl rfl rfl rfl (by decide) ?_
              | (refine ops_nil ?_; intro e2 h2; simp only [restr, kpIs, List.map_cons, List.map_nil, Ev.get, reduceIte, Nat.reduceEqDiff] at h2; subst h2))
            repeat (first | refine x_seq ?_ | refine x_block ?_ | refine xn_normal ?_ | refine xi_normal ?_ | refine xn_exit ?_ | refine xi_exit ?_ | refine xi_other (by decide) ?_ | refine xn_ret ?_ | refine xi_ret ?_ | refine x_skip ?_ | refine x_exit ?_ | refine x_ret ?_)
            exact x_leaves (leaves_v rfl (by simp [isName, hok, h1, h2]; rfl))
          · have b2 : decide ((s.size : Int) ≤ 16) = false := decide_eq_false (by omega)
            repeat (first
              | refine runs_seq ?_ | refine runs_block ?_ | refine next_normal ?_ | refine inside_normal ?_ | refine next_exit ?_ | refine inside_exit ?_ | refine inside_other (by decide) ?_ | refine next_ret ?_ | refine inside_ret ?_
              | refine runs_ops_kept ?_ | refine runs_skip ?_ | refine runs_exit ?_ | refine runs_ret ?_
              | refine ops_op rfl rfl (by decide) (by simp only [evOp, opd, constAV, constCell, Ev.get, reduceIte, Nat.reduceEqDiff, reduceCtorEq, evBinN, nilCmp, evBin, evInt, evUn, evConvert, evBuiltin, evLen, evField, evPart, tStr, tInt, tElem, tArr, tBool, tAgg, tField, Try.underlying9, Try.underlying3, Try.underlying4, Try.underlying5, Try.underlying21, Try.underlying45, Try.underlying64, Try.underlying56, Try.underlying40, Try.underlying34, Try.underlying2, Try.underlying26, List.zipWith, Option.map_some, Option.map_none, List.length_cons, List.length_nil, ne_eq, Int.reduceEq, not_false_eq_true, and_self, and_true, true_and, szStr, szInt, Option.getD_some, isNil, loadStr, loadInt, mkInts0, mkInts1, mkStrs0, mkStrs1, rowsS_len, rowsI_len, evStr, evCall, List.size_toArray, List.append_nil, List.nil_append, List.map_cons, List.map_nil, argAV, argCell, List.toList_toArray, fieldTy, b1, b2, t2, fk]; rfl) (fun h => by first | rfl | (simp at h; done)) ?_
              | refine ops_yes rfl rfl (by simp only [Ev.get, reduceIte, Nat.reduceEqDiff, szStr, szInt, Option.getD_some, isNil, loadStr, loadInt, mkInts0, mkInts1, mkStrs0, mkStrs1, rowsS_len, rowsI_len, evStr, b1, b2, t2, fk]; first | done | rfl) rfl (by decide) (by simp only [evOp, opd, constAV, constCell, Ev.get, reduceIte, Nat.reduceEqDiff, reduceCtorEq, evBinN, nilCmp, evBin, evInt, evUn, evConvert, evBuiltin, evLen, evField, evPart, tStr, tInt, tElem, tArr, tBool, tAgg, tField, Try.underlying9, Try.underlying3, Try.underlying4, Try.underlying5, Try.underlying21, Try.underlying45, Try.underlying64, Try.underlying56, Try.underlying40, Try.underlying34, Try.underlying2, Try.underlying26, List.zipWith, Option.map_some, Option.map_none, List.length_cons, List.length_nil, ne_eq, Int.reduceEq, not_false_eq_true, and_self, and_true, true_and, szStr, szInt, Option.getD_some, isNil, loadStr, loadInt, mkInts0, mkInts1, mkStrs0, mkStrs1, rowsS_len, rowsI_len, evStr, evCall, List.size_toArray, List.append_nil, List.nil_append, List.map_cons, List.map_nil, argAV, argCell, List.toList_toArray, fieldTy, b1, b2, t2, fk]; rfl) (fun h => by first | rfl | (simp at h; done)) ?_
              | refine ops_no rfl rfl (by simp only [Ev.get, reduceIte, Nat.reduceEqDiff, szStr, szInt, Option.getD_some, isNil, loadStr, loadInt, mkInts0, mkInts1, mkStrs0, mkStrs1, rowsS_len, rowsI_len, evStr, b1, b2, t2, fk]; first | done | rfl) (by decide) rfl (by decide) ?_
              | refine ops_off rfl rfl rfl rfl (by decide) ?_
              | (refine ops_nil ?_; intro e2 h2; simp only [restr, kpIs, List.map_cons, List.map_nil, Ev.get, reduceIte, Nat.reduceEqDiff] at h2; subst h2))
            repeat (first | refine x_seq ?_ | refine x_block ?_ | refine xn_normal ?_ | refine xi_normal ?_ | refine xn_exit ?_ | refine xi_exit ?_ | refine xi_other (by decide) ?_ | refine xn_ret ?_ | refine xi_ret ?_ | refine x_skip ?_ | refine x_exit ?_ | refine x_ret ?_)
            exact x_leaves (leaves_v rfl (by simp [isName, h2]; rfl))
        · have b1 : (s != ⟨#[]⟩) = false := hz.trans (decide_eq_false h1)
          repeat (first
            | refine runs_seq ?_ | refine runs_block ?_ | refine next_normal ?_ | refine inside_normal ?_ | refine next_exit ?_ | refine inside_exit ?_ | refine inside_other (by decide) ?_ | refine next_ret ?_ | refine inside_ret ?_
            | refine runs_ops_kept ?_ | refine runs_skip ?_ | refine runs_exit ?_ | refine runs_ret ?_
            | refine ops_op rfl rfl (by decide) (by simp only [evOp, opd, constAV, constCell, Ev.get, reduceIte, Nat.reduceEqDiff, reduceCtorEq, evBinN, nilCmp, evBin, evInt, evUn, evConvert, evBuiltin, evLen, evField, evPart, tStr, tInt, tElem, tArr, tBool, tAgg, tField, Try.underlying9, Try.underlying3, Try.underlying4, Try.underlying5, Try.underlying21, Try.underlying45, Try.underlying64, Try.underlying56, Try.underlying40, Try.underlying34, Try.underlying2, Try.underlying26, List.zipWith, Option.map_some, Option.map_none, List.length_cons, List.length_nil, ne_eq, Int.reduceEq, not_false_eq_true, and_self, and_true, true_and, szStr, szInt, Option.getD_some, isNil, loadStr, loadInt, mkInts0, mkInts1, mkStrs0, mkStrs1, rowsS_len, rowsI_len, evStr, evCall, List.size_toArray, List.append_nil, List.nil_append, List.map_cons, List.map_nil, argAV, argCell, List.toList_toArray, fieldTy, b1, t2, fk]; rfl) (fun h => by first | rfl | (simp at h; done)) ?_
            | refine ops_yes rfl rfl (by simp only [Ev.get, reduceIte, Nat.reduceEqDiff, szStr, szInt, Option.getD_some, isNil, loadStr, loadInt, mkInts0, mkInts1, mkStrs0, mkStrs1, rowsS_len, rowsI_len, evStr, b1, t2, fk]; first | done | rfl) rfl (by decide) (by simp only [evOp, opd, constAV, constCell, Ev.get, reduceIte, Nat.reduceEqDiff, reduceCtorEq, evBinN, nilCmp, evBin, evInt, evUn, evConvert, evBuiltin, evLen, evField, evPart, tStr, tInt, tElem, tArr, tBool, tAgg, tField, Try.underlying9, Try.underlying3, Try.underlying4, Try.underlying5, Try.underlying21, Try.underlying45, Try.underlying64, Try.underlying56, Try.underlying40, Try.underlying34, Try.underlying2, Try.underlying26, List.zipWith, Option.map_some, Option.map_none, List.length_cons, List.length_nil, ne_eq, Int.reduceEq, not_false_eq_true, and_self, and_true, true_and, szStr, szInt, Option.getD_some, isNil, loadStr, loadInt, mkInts0, mkInts1, mkStrs0, mkStrs1, rowsS_len, rowsI_len, evStr, evCall, List.size_toArray, List.append_nil, List.nil_append, List.map_cons, List.map_nil, argAV, argCell, List.toList_toArray, fieldTy, b1, t2, fk]; rfl) (fun h => by first | rfl | (simp at h; done)) ?_
            | refine ops_no rfl rfl (by simp only [Ev.get, reduceIte, Nat.reduceEqDiff, szStr, szInt, Option.getD_some, isNil, loadStr, loadInt, mkInts0, mkInts1, mkStrs0, mkStrs1, rowsS_len, rowsI_len, evStr, b1, t2, fk]; first | done | rfl) (by decide) rfl (by decide) ?_
            | refine ops_off rfl rfl rfl rfl (by decide) ?_
            | (refine ops_nil ?_; intro e2 h2; simp only [restr, kpIs, List.map_cons, List.map_nil, Ev.get, reduceIte, Nat.reduceEqDiff] at h2; subst h2))
          repeat (first | refine x_seq ?_ | refine x_block ?_ | refine xn_normal ?_ | refine xi_normal ?_ | refine xn_exit ?_ | refine xi_exit ?_ | refine xi_other (by decide) ?_ | refine xn_ret ?_ | refine xi_ret ?_ | refine x_skip ?_ | refine x_exit ?_ | refine x_ret ?_)
          exact x_leaves (leaves_v rfl (by simp [isName, h1]; rfl))
    · cases h
  · cases h
end Go.Proofs.Ytbehhlbcffbkoaa.Ev
