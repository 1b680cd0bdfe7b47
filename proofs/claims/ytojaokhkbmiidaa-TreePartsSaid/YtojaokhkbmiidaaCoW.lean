/- Trees: whole ones, and how deep they are. -/
import Derived.Test.YtojaokhkbmiidaaCoV
namespace Go.Proofs.Ytojaokhkbmiidaa.Ev
open Go Go.Proofs
set_option maxRecDepth 10000
set_option maxHeartbeats 4000000
set_option linter.unusedVariables false
set_option linter.unusedSimpArgs false
attribute [local irreducible] Next Inside Runs Ops table
def wholeB (l : List Nd) : Bool := decide (0 < l.length) && decide (l.length ≤ 64) && decide (endOf l 0 = (l.length : Int))
def wholeG : List AV → Mem → Option (AV × Mem)
  | [.lst _ 7 rows], m =>
    match unN rows with
    | some l => if l.length ≤ big40 then some (.v (.bool (wholeB l)), m) else none
    | none => none
  | _, _ => none
theorem wholeG_eq {m : Mem} {g : Grow} {l : List Nd} (h : l.length ≤ big40) : wholeG [.lst g 7 (rowsN l)] m = some (.v (.bool (wholeB l)), m) := by
  simp only [wholeG, unN_rowsN]
  rw [if_pos h]
def kpWhole : Nat → Option (List Nat) := fun _ => some [0, 2]
theorem whole_ok : FunOk Try.prog 37 wholeG := by
  have hC := table_ok (P := Try.prog) (l := [(10, endG)]) (table_more end_ok table_nil)
  have t1 := fun args mm => table_at (l := [(10, endG)]) (f := 10) (args := args) (m := mm) rfl
  refine fun_ok mixed hC Try.func37 rfl kpWhole false rfl fun args m r h => ?_
  unfold wholeG at h
  split at h
  · rename_i g rows
    split at h
    · rename_i l hl0
      obtain rfl := unN_some hl0
      split at h
      · rename_i hlen
        simp only [Option.some.injEq] at h
        subst h
        refine ⟨Nat.le_of_ble_eq_true rfl, ?_⟩
        simp only [entry, List.length_cons, List.length_nil, List.range, List.range.loop, List.zip_cons_cons, List.zip_nil_right]
        have f1 := fun mm => endG_eq (m := mm) (g := .no) (at_ := 0) hlen (by decide)
        by_cases h0 : 0 < l.length
        · have b0 : decide ((l.length : Int) > 0) = true := decide_eq_true (by omega)
          by_cases h1 : l.length ≤ 64
          · have b1 : decide ((l.length : Int) ≤ 64) = true := decide_eq_true (by omega)
            have e1 : (endOf l 0 == (l.length : Int)) = wholeB l := by
              unfold wholeB
              rw [decide_eq_true h0, decide_eq_true h1]
              rfl
            repeat (first
              | refine runs_seq ?_ | refine runs_block ?_ | refine next_normal ?_ | refine inside_normal ?_ | refine next_exit ?_ | refine inside_exit ?_ | refine inside_other (by decide) ?_ | refine next_ret ?_ | refine inside_ret ?_
              | refine runs_ops_kept ?_ | refine runs_skip ?_ | refine runs_exit ?_ | refine runs_ret ?_
              | ((first | refine' ops_op rfl rfl (by decide) ?_ ?_ ?_ | refine' ops_yes rfl rfl (by simp only [Ev.get, reduceIte, Nat.reduceEqDiff, szStr, szInt, Option.getD_some, isNil, loadStr, loadInt, mkInts0, mkInts1, mkStrs0, mkStrs1, rowsS_len, rowsI_len, rowsN_len, evStr, fldOp, ldOp, b0, b1, t1, f1, e1]; first | done | rfl) rfl (by decide) ?_ ?_ ?_ | refine' ops_op0 rfl rfl ?_ ?_ ?_); rotate_left 2; (focus (simp only [evOp, opd, constAV, constCell, Ev.get, reduceIte, Nat.reduceEqDiff, reduceCtorEq, evBinN, nilCmp, evBin, evInt, evUn, evConvert, evBuiltin, evLen, evField, evPart, tStr, tInt, tElem, tArr, tBool, tAgg, tField, Try.underlying9, Try.underlying3, Try.underlying4, Try.underlying5, Try.underlying21, Try.underlying121, Try.underlying38, Try.underlying25, Try.underlying135, Try.underlying33, Try.underlying2, Try.underlying147, Try.underlying22, Try.underlying56, Try.underlying54, List.zipWith, Option.map_some, Option.map_none, List.length_cons, List.length_nil, ne_eq, Int.reduceEq, not_false_eq_true, and_self, and_true, true_and, szStr, szInt, Option.getD_some, isNil, loadStr, loadInt, mkInts0, mkInts1, mkStrs0, mkStrs1, rowsS_len, rowsI_len, rowsN_len, evStr, fldOp, ldOp, evCall, List.size_toArray, List.append_nil, List.nil_append, List.map_cons, List.map_nil, argAV, argCell, List.toList_toArray, fieldTy, b0, b1, t1, f1, e1]; first | done | rfl)); exact (fun h => by first | rfl | (simp at h; done) | exact absurd (Bool.and_eq_true_iff.mp h).2 (by decide)))
              | refine ops_no rfl rfl (by simp only [Ev.get, reduceIte, Nat.reduceEqDiff, szStr, szInt, Option.getD_some, isNil, loadStr, loadInt, mkInts0, mkInts1, mkStrs0, mkStrs1, rowsS_len, rowsI_len, rowsN_len, evStr, fldOp, ldOp, b0, b1, t1, f1, e1]; first | done | rfl) (by decide) rfl (by decide) ?_
              | refine ops_off rfl rfl rfl rfl (by decide) ?_
              | (refine ops_nil ?_; intro e2 h2; simp only [restr, kpWhole, List.map_cons, List.map_nil, Ev.get, reduceIte, Nat.reduceEqDiff] at h2; subst h2))
            exact leaves_v rfl rfl
          · have b1 : decide ((l.length : Int) ≤ 64) = false := decide_eq_false (by omega)
            rw [show wholeB l = false by unfold wholeB; rw [decide_eq_false h1]; simp]
            repeat (first
              | refine runs_seq ?_ | refine runs_block ?_ | refine next_normal ?_ | refine inside_normal ?_ | refine next_exit ?_ | refine inside_exit ?_ | refine inside_other (by decide) ?_ | refine next_ret ?_ | refine inside_ret ?_
              | refine runs_ops_kept ?_ | refine runs_skip ?_ | refine runs_exit ?_ | refine runs_ret ?_
              | ((first | refine' ops_op rfl rfl (by decide) ?_ ?_ ?_ | refine' ops_yes rfl rfl (by simp only [Ev.get, reduceIte, Nat.reduceEqDiff, szStr, szInt, Option.getD_some, isNil, loadStr, loadInt, mkInts0, mkInts1, mkStrs0, mkStrs1, rowsS_len, rowsI_len, rowsN_len, evStr, fldOp, ldOp, b0, b1, t1, f1]; first | done | rfl) rfl (by decide) ?_ ?_ ?_ | refine' ops_op0 rfl rfl ?_ ?_ ?_); rotate_left 2; (focus (simp only [evOp, opd, constAV, constCell, Ev.get, reduceIte, Nat.reduceEqDiff, reduceCtorEq, evBinN, nilCmp, evBin, evInt, evUn, evConvert, evBuiltin, evLen, evField, evPart, tStr, tInt, tElem, tArr, tBool, tAgg, tField, Try.underlying9, Try.underlying3, Try.underlying4, Try.underlying5, Try.underlying21, Try.underlying121, Try.underlying38, Try.underlying25, Try.underlying135, Try.underlying33, Try.underlying2, Try.underlying147, Try.underlying22, Try.underlying56, Try.underlying54, List.zipWith, Option.map_some, Option.map_none, List.length_cons, List.length_nil, ne_eq, Int.reduceEq, not_false_eq_true, and_self, and_true, true_and, szStr, szInt, Option.getD_some, isNil, loadStr, loadInt, mkInts0, mkInts1, mkStrs0, mkStrs1, rowsS_len, rowsI_len, rowsN_len, evStr, fldOp, ldOp, evCall, List.size_toArray, List.append_nil, List.nil_append, List.map_cons, List.map_nil, argAV, argCell, List.toList_toArray, fieldTy, b0, b1, t1, f1]; first | done | rfl)); exact (fun h => by first | rfl | (simp at h; done) | exact absurd (Bool.and_eq_true_iff.mp h).2 (by decide)))
              | refine ops_no rfl rfl (by simp only [Ev.get, reduceIte, Nat.reduceEqDiff, szStr, szInt, Option.getD_some, isNil, loadStr, loadInt, mkInts0, mkInts1, mkStrs0, mkStrs1, rowsS_len, rowsI_len, rowsN_len, evStr, fldOp, ldOp, b0, b1, t1, f1]; first | done | rfl) (by decide) rfl (by decide) ?_
              | refine ops_off rfl rfl rfl rfl (by decide) ?_
              | (refine ops_nil ?_; intro e2 h2; simp only [restr, kpWhole, List.map_cons, List.map_nil, Ev.get, reduceIte, Nat.reduceEqDiff] at h2; subst h2))
            exact leaves_v rfl rfl
        · have b0 : decide ((l.length : Int) > 0) = false := decide_eq_false (by omega)
          rw [show wholeB l = false by unfold wholeB; rw [decide_eq_false h0]; simp]
          repeat (first
            | refine runs_seq ?_ | refine runs_block ?_ | refine next_normal ?_ | refine inside_normal ?_ | refine next_exit ?_ | refine inside_exit ?_ | refine inside_other (by decide) ?_ | refine next_ret ?_ | refine inside_ret ?_
            | refine runs_ops_kept ?_ | refine runs_skip ?_ | refine runs_exit ?_ | refine runs_ret ?_
            | ((first | refine' ops_op rfl rfl (by decide) ?_ ?_ ?_ | refine' ops_yes rfl rfl (by simp only [Ev.get, reduceIte, Nat.reduceEqDiff, szStr, szInt, Option.getD_some, isNil, loadStr, loadInt, mkInts0, mkInts1, mkStrs0, mkStrs1, rowsS_len, rowsI_len, rowsN_len, evStr, fldOp, ldOp, b0, t1, f1]; first | done | rfl) rfl (by decide) ?_ ?_ ?_ | refine' ops_op0 rfl rfl ?_ ?_ ?_); rotate_left 2; (focus (simp only [evOp, opd, constAV, constCell, Ev.get, reduceIte, Nat.reduceEqDiff, reduceCtorEq, evBinN, nilCmp, evBin, evInt, evUn, evConvert, evBuiltin, evLen, evField, evPart, tStr, tInt, tElem, tArr, tBool, tAgg, tField, Try.underlying9, Try.underlying3, Try.underlying4, Try.underlying5, Try.underlying21, Try.underlying121, Try.underlying38, Try.underlying25, Try.underlying135, Try.underlying33, Try.underlying2, Try.underlying147, Try.underlying22, Try.underlying56, Try.underlying54, List.zipWith, Option.map_some, Option.map_none, List.length_cons, List.length_nil, ne_eq, Int.reduceEq, not_false_eq_true, and_self, and_true, true_and, szStr, szInt, Option.getD_some, isNil, loadStr, loadInt, mkInts0, mkInts1, mkStrs0, mkStrs1, rowsS_len, rowsI_len, rowsN_len, evStr, fldOp, ldOp, evCall, List.size_toArray, List.append_nil, List.nil_append, List.map_cons, List.map_nil, argAV, argCell, List.toList_toArray, fieldTy, b0, t1, f1]; first | done | rfl)); exact (fun h => by first | rfl | (simp at h; done) | exact absurd (Bool.and_eq_true_iff.mp h).2 (by decide)))
            | refine ops_no rfl rfl (by simp only [Ev.get, reduceIte, Nat.reduceEqDiff, szStr, szInt, Option.getD_some, isNil, loadStr, loadInt, mkInts0, mkInts1, mkStrs0, mkStrs1, rowsS_len, rowsI_len, rowsN_len, evStr, fldOp, ldOp, b0, t1, f1]; first | done | rfl) (by decide) rfl (by decide) ?_
            | refine ops_off rfl rfl rfl rfl (by decide) ?_
            | (refine ops_nil ?_; intro e2 h2; simp only [restr, kpWhole, List.map_cons, List.map_nil, Ev.get, reduceIte, Nat.reduceEqDiff] at h2; subst h2))
          exact leaves_v rfl rfl
      · cases h
    · cases h
  · cases h
theorem refWhole_ok : FunOk Try.prog 17 wholeG := by
  have hC := table_ok (P := Try.prog) (l := [(12, endG)]) (table_more refEnd_ok table_nil)
  have t1 := fun args mm => table_at (l := [(12, endG)]) (f := 12) (args := args) (m := mm) rfl
  refine fun_ok mixed hC Try.func17 rfl kpWhole false rfl fun args m r h => ?_
  unfold wholeG at h
  split at h
  · rename_i g rows
    split at h
    · rename_i l hl0
      obtain rfl := unN_some hl0
      split at h
      · rename_i hlen
        simp only [Option.some.injEq] at h
        subst h
        refine ⟨Nat.le_of_ble_eq_true rfl, ?_⟩
        simp only [entry, List.length_cons, List.length_nil, List.range, List.range.loop, List.zip_cons_cons, List.zip_nil_right]
        have f1 := fun mm => endG_eq (m := mm) (g := .no) (at_ := 0) hlen (by decide)
        by_cases h1 : l.length ≤ 64
        · have b1 : decide ((l.length : Int) ≤ 64) = true := decide_eq_true (by omega)
          have e1 : (endOf l 0 == (l.length : Int)) = wholeB l := by
            unfold wholeB
            rw [decide_eq_true h1]
            by_cases h0 : 0 < l.length
            · rw [decide_eq_true h0]; rfl
            · rw [decide_eq_false h0]
              have : l = [] := List.eq_nil_of_length_eq_zero (by omega)
              subst this
              rfl
          repeat (first
            | refine runs_seq ?_ | refine runs_block ?_ | refine next_normal ?_ | refine inside_normal ?_ | refine next_exit ?_ | refine inside_exit ?_ | refine inside_other (by decide) ?_ | refine next_ret ?_ | refine inside_ret ?_
            | refine runs_ops_kept ?_ | refine runs_skip ?_ | refine runs_exit ?_ | refine runs_ret ?_
            | ((first | refine' ops_op rfl rfl (by decide) ?_ ?_ ?_ | refine' ops_yes rfl rfl (by simp only [Ev.get, reduceIte, Nat.reduceEqDiff, szStr, szInt, Option.getD_some, isNil, loadStr, loadInt, mkInts0, mkInts1, mkStrs0, mkStrs1, rowsS_len, rowsI_len, rowsN_len, evStr, fldOp, ldOp, b1, t1, f1, e1]; first | done | rfl) rfl (by decide) ?_ ?_ ?_ | refine' ops_op0 rfl rfl ?_ ?_ ?_); rotate_left 2; (focus (simp only [evOp, opd, constAV, constCell, Ev.get, reduceIte, Nat.reduceEqDiff, reduceCtorEq, evBinN, nilCmp, evBin, evInt, evUn, evConvert, evBuiltin, evLen, evField, evPart, tStr, tInt, tElem, tArr, tBool, tAgg, tField, Try.underlying9, Try.underlying3, Try.underlying4, Try.underlying5, Try.underlying21, Try.underlying121, Try.underlying38, Try.underlying25, Try.underlying135, Try.underlying33, Try.underlying2, Try.underlying147, Try.underlying22, Try.underlying56, Try.underlying54, List.zipWith, Option.map_some, Option.map_none, List.length_cons, List.length_nil, ne_eq, Int.reduceEq, not_false_eq_true, and_self, and_true, true_and, szStr, szInt, Option.getD_some, isNil, loadStr, loadInt, mkInts0, mkInts1, mkStrs0, mkStrs1, rowsS_len, rowsI_len, rowsN_len, evStr, fldOp, ldOp, evCall, List.size_toArray, List.append_nil, List.nil_append, List.map_cons, List.map_nil, argAV, argCell, List.toList_toArray, fieldTy, b1, t1, f1, e1]; first | done | rfl)); exact (fun h => by first | rfl | (simp at h; done) | exact absurd (Bool.and_eq_true_iff.mp h).2 (by decide)))
            | refine ops_no rfl rfl (by simp only [Ev.get, reduceIte, Nat.reduceEqDiff, szStr, szInt, Option.getD_some, isNil, loadStr, loadInt, mkInts0, mkInts1, mkStrs0, mkStrs1, rowsS_len, rowsI_len, rowsN_len, evStr, fldOp, ldOp, b1, t1, f1, e1]; first | done | rfl) (by decide) rfl (by decide) ?_
            | refine ops_off rfl rfl rfl rfl (by decide) ?_
            | (refine ops_nil ?_; intro e2 h2; simp only [restr, kpWhole, List.map_cons, List.map_nil, Ev.get, reduceIte, Nat.reduceEqDiff] at h2; subst h2))
          exact leaves_v rfl rfl
        · have b1 : decide ((l.length : Int) ≤ 64) = false := decide_eq_false (by omega)
          rw [show wholeB l = false by unfold wholeB; rw [decide_eq_false h1]; simp]
          repeat (first
            | refine runs_seq ?_ | refine runs_block ?_ | refine next_normal ?_ | refine inside_normal ?_ | refine next_exit ?_ | refine inside_exit ?_ | refine inside_other (by decide) ?_ | refine next_ret ?_ | refine inside_ret ?_
            | refine runs_ops_kept ?_ | refine runs_skip ?_ | refine runs_exit ?_ | refine runs_ret ?_
            | ((first | refine' ops_op rfl rfl (by decide) ?_ ?_ ?_ | refine' ops_yes rfl rfl (by simp only [Ev.get, reduceIte, Nat.reduceEqDiff, szStr, szInt, Option.getD_some, isNil, loadStr, loadInt, mkInts0, mkInts1, mkStrs0, mkStrs1, rowsS_len, rowsI_len, rowsN_len, evStr, fldOp, ldOp, b1, t1, f1]; first | done | rfl) rfl (by decide) ?_ ?_ ?_ | refine' ops_op0 rfl rfl ?_ ?_ ?_); rotate_left 2; (focus (simp only [evOp, opd, constAV, constCell, Ev.get, reduceIte, Nat.reduceEqDiff, reduceCtorEq, evBinN, nilCmp, evBin, evInt, evUn, evConvert, evBuiltin, evLen, evField, evPart, tStr, tInt, tElem, tArr, tBool, tAgg, tField, Try.underlying9, Try.underlying3, Try.underlying4, Try.underlying5, Try.underlying21, Try.underlying121, Try.underlying38, Try.underlying25, Try.underlying135, Try.underlying33, Try.underlying2, Try.underlying147, Try.underlying22, Try.underlying56, Try.underlying54, List.zipWith, Option.map_some, Option.map_none, List.length_cons, List.length_nil, ne_eq, Int.reduceEq, not_false_eq_true, and_self, and_true, true_and, szStr, szInt, Option.getD_some, isNil, loadStr, loadInt, mkInts0, mkInts1, mkStrs0, mkStrs1, rowsS_len, rowsI_len, rowsN_len, evStr, fldOp, ldOp, evCall, List.size_toArray, List.append_nil, List.nil_append, List.map_cons, List.map_nil, argAV, argCell, List.toList_toArray, fieldTy, b1, t1, f1]; first | done | rfl)); exact (fun h => by first | rfl | (simp at h; done) | exact absurd (Bool.and_eq_true_iff.mp h).2 (by decide)))
            | refine ops_no rfl rfl (by simp only [Ev.get, reduceIte, Nat.reduceEqDiff, szStr, szInt, Option.getD_some, isNil, loadStr, loadInt, mkInts0, mkInts1, mkStrs0, mkStrs1, rowsS_len, rowsI_len, rowsN_len, evStr, fldOp, ldOp, b1, t1, f1]; first | done | rfl) (by decide) rfl (by decide) ?_
            | refine ops_off rfl rfl rfl rfl (by decide) ?_
            | (refine ops_nil ?_; intro e2 h2; simp only [restr, kpWhole, List.map_cons, List.map_nil, Ev.get, reduceIte, Nat.reduceEqDiff] at h2; subst h2))
          exact leaves_v rfl rfl
      · cases h
    · cases h
  · cases h
/-! ### how deep -/
def maxL : List Nat → Nat
  | [] => 0
  | a :: l => max a (maxL l)
theorem maxL_app : ∀ (l : List Nat) (a : Nat), maxL (l ++ [a]) = max (maxL l) a
  | [], a => by simp [maxL]
  | b :: l, a => by simp only [List.cons_append, maxL, maxL_app l a]; omega
theorem maxL_le {n : Nat} : ∀ {l : List Nat}, (∀ a ∈ l, a ≤ n) → maxL l ≤ n
  | [], _ => Nat.zero_le _
  | a :: l, h => by
    have h1 := h a (List.mem_cons_self ..)
    have h2 := maxL_le (l := l) fun b hb => h b (List.mem_cons_of_mem _ hb)
    simp only [maxL]
    omega
def depthF (l : List Nd) : Nat → Int → Nat
  | 0, _ => 0
  | f + 1, a => maxL ((belowOf l a).map (depthF l f)) + 1
theorem depthF_le (l : List Nd) : ∀ (f : Nat) (a : Int), depthF l f a ≤ f
  | 0, _ => Nat.le_refl _
  | f + 1, a => by
    unfold depthF
    have := maxL_le (n := f) (l := (belowOf l a).map (depthF l f)) fun b hb => by
      obtain ⟨c, _, rfl⟩ := List.mem_map.1 hb
      exact depthF_le l f c
    omega
theorem belowW_mem (l : List Nd) : ∀ (k n : Nat) (b : Int), 0 ≤ endW (l.drop n) k n → b ∈ belowW l k (n : Int) → (n : Int) ≤ b ∧ b < (l.length : Int) ∧ 0 ≤ endOf l b
  | 0, n, b, _, hb => by simp [belowW] at hb
  | k + 1, n, b, h, hb => by
    have h1 := endW_add l (l.drop n) 1 k n rfl
    rw [show 1 + k = k + 1 by omega, ← endOf_nat] at h1
    rw [h1] at h
    split at h
    · omega
    · rename_i hn
      have hin := endOf_in l (n : Int)
      rcases List.mem_cons.1 hb with rfl | hb
      · exact ⟨Int.le_refl _, by omega, by omega⟩
      · obtain ⟨q, hq⟩ := Int.eq_ofNat_of_zero_le (by omega : 0 ≤ endOf l (n : Int))
        rw [hq] at hb h
        rw [Int.toNat_natCast] at h
        obtain ⟨g1, g2, g3⟩ := belowW_mem l k q b h hb
        exact ⟨by omega, g2, g3⟩
theorem end_arity {l : List Nd} {p : Nat} (h : 0 ≤ endOf l (p : Int)) : p < l.length ∧ endOf l (p : Int) = endW (l.drop (p + 1)) (arAt l (p : Int)) (p + 1) := by
  have hin := endOf_in l (p : Int)
  have hp : p < l.length := by omega
  refine ⟨hp, ?_⟩
  rw [endOf_nat] at h ⊢
  rw [drop_next (d := nd0) hp, endW] at h ⊢
  unfold arAt
  rw [Int.toNat_natCast]
  split at h
  · omega
  · rename_i hn
    rw [if_neg hn, Nat.zero_add]
theorem below_mem {l : List Nd} {a b : Int} (ha : 0 ≤ a) (hb : b ∈ belowOf l a) : a < b ∧ b < (l.length : Int) ∧ 0 ≤ endOf l b := by
  unfold belowOf at hb
  split at hb
  · simp at hb
  · rename_i hn
    obtain ⟨p, rfl⟩ := Int.eq_ofNat_of_zero_le ha
    obtain ⟨_, h1⟩ := end_arity (l := l) (p := p) (by omega)
    obtain ⟨g1, g2, g3⟩ := belowW_mem l (arAt l (p : Int)) (p + 1) b (by omega) hb
    exact ⟨by omega, g2, g3⟩
theorem depthF_same (l : List Nd) : ∀ (f : Nat) (a : Int), 0 ≤ a → a < (l.length : Int) → (l.length : Int) - a ≤ (f : Int) → depthF l f a = depthF l (f + 1) a
  | 0, a, ha, h1, h => by omega
  | f + 1, a, ha, h1, h => by
    rw [depthF, depthF]
    congr 2
    refine List.map_congr_left fun b hb => ?_
    obtain ⟨h1, h2, _⟩ := below_mem ha hb
    exact depthF_same l f b (by omega) h2 (by omega)
def depthD (l : List Nd) (a : Int) : Nat := depthF l l.length a
theorem depthD_eq {l : List Nd} {a : Int} (h0 : 0 ≤ a) (h1 : a < (l.length : Int)) : depthD l a = maxL ((belowOf l a).map (depthD l)) + 1 := by
  unfold depthD
  obtain ⟨f, hf⟩ : ∃ f, l.length = f + 1 := ⟨l.length - 1, by omega⟩
  conv => lhs; rw [hf, depthF]
  congr 2
  refine List.map_congr_left fun b hb => ?_
  obtain ⟨h2, h3, _⟩ := below_mem h0 hb
  rw [hf]
  exact depthF_same l f b (by omega) h3 (by omega)
theorem depthD_le (l : List Nd) (a : Int) : depthD l a ≤ l.length := depthF_le l _ _
def depthOf (l : List Nd) : Nat := if wholeB l then depthD l 0 else 0
/-! ### the document's way -/
def refDepthGk (n : Nat) : List AV → Mem → Option (AV × Mem)
  | [.lst _ 7 rows, .v (.int .i64 at_)], m =>
    match unN rows with
    | some l => if (l.length ≤ big40 ∧ 0 ≤ at_ ∧ 0 ≤ endOf l at_) ∧ (l.length : Int) - at_ < (n : Int) then some (.v (.int .i64 (depthD l at_ : Nat)), m) else none
    | none => none
  | _, _ => none
theorem refDepthGk_eq {n : Nat} {m : Mem} {g : Grow} {l : List Nd} {at_ : Int} (h : l.length ≤ big40) (h1 : 0 ≤ at_) (h2 : 0 ≤ endOf l at_) (h3 : (l.length : Int) - at_ < (n : Int)) : refDepthGk n [.lst g 7 (rowsN l), .v (.int .i64 at_)] m = some (.v (.int .i64 (depthD l at_ : Nat)), m) := by
  simp only [refDepthGk, unN_rowsN]
  rw [if_pos ⟨⟨h, h1, h2⟩, h3⟩]
def kpRefDepth : Nat → Option (List Nat) := fun _ => some [0, 1, 4, 5, 6, 7, 8, 15, 26]
theorem refDepth_k : ∀ n, FunOk Try.prog 18 (refDepthGk n) := prev_ok fun n ih => by
  have hC := table_ok (P := Try.prog) (l := [(18, prevG refDepthGk n), (16, refBelowG)]) (table_more ih (table_more refBelow_ok table_nil))
  have t1 := fun args mm => table_at (l := [(18, prevG refDepthGk n), (16, refBelowG)]) (f := 16) (args := args) (m := mm) rfl
  have t2 := fun args mm => table_at (l := [(18, prevG refDepthGk n), (16, refBelowG)]) (f := 18) (args := args) (m := mm) rfl
  refine fun_ok mixed hC Try.func18 rfl kpRefDepth false rfl fun args m r h => ?_
  unfold refDepthGk at h
  split at h
  · rename_i g rows at_
    split at h
    · rename_i l hl0
      obtain rfl := unN_some hl0
      split at h
      · rename_i hb
        obtain ⟨⟨hlen, h0, he⟩, hn⟩ := hb
        have hlen' := hlen
        simp only [Option.some.injEq] at h
        subst h
        unfold big40 at hlen
        refine ⟨Nat.le_of_ble_eq_true rfl, ?_⟩
        simp only [entry, List.length_cons, List.length_nil, List.range, List.range.loop, List.zip_cons_cons, List.zip_nil_right]
        have hin := endOf_in l at_
        have h1 : at_ < (l.length : Int) := by omega
        have e1 : belowOf l at_ = belowW l (arAt l at_) (at_ + 1) := if_neg (by omega)
        have f1 := fun mm => refBelowG_eq (m := mm) (g := .no) hlen' h0 h1
        rw [← e1] at f1
        have hD := depthD_eq h0 h1
        have hmem := fun b => below_mem (l := l) (b := b) h0
        have hle2 := (belowOf_okI hlen' (at_ := at_) ⟨by omega, by omega⟩).2
        generalize belowOf l at_ = lb at f1 hD hmem hle2
        repeat (first
          | refine runs_seq ?_ | refine runs_block ?_ | refine next_normal ?_ | refine inside_normal ?_ | refine next_exit ?_ | refine inside_exit ?_ | refine inside_other (by decide) ?_ | refine next_ret ?_ | refine inside_ret ?_
          | refine runs_ops_kept ?_ | refine runs_skip ?_ | refine runs_exit ?_ | refine runs_ret ?_
          | ((first | refine' ops_op rfl rfl (by decide) ?_ ?_ ?_ | refine' ops_yes rfl rfl (by simp only [Ev.get, reduceIte, Nat.reduceEqDiff, szStr, szInt, Option.getD_some, isNil, loadStr, loadInt, mkInts0, mkInts1, mkStrs0, mkStrs1, rowsS_len, rowsI_len, rowsN_len, evStr, fldOp, ldOp, t1, f1]; first | done | rfl) rfl (by decide) ?_ ?_ ?_ | refine' ops_op0 rfl rfl ?_ ?_ ?_); rotate_left 2; (focus (simp only [evOp, opd, constAV, constCell, Ev.get, reduceIte, Nat.reduceEqDiff, reduceCtorEq, evBinN, nilCmp, evBin, evInt, evUn, evConvert, evBuiltin, evLen, evField, evPart, tStr, tInt, tElem, tArr, tBool, tAgg, tField, Try.underlying9, Try.underlying3, Try.underlying4, Try.underlying5, Try.underlying21, Try.underlying121, Try.underlying38, Try.underlying25, Try.underlying135, Try.underlying33, Try.underlying2, Try.underlying147, Try.underlying22, Try.underlying56, Try.underlying54, List.zipWith, Option.map_some, Option.map_none, List.length_cons, List.length_nil, ne_eq, Int.reduceEq, not_false_eq_true, and_self, and_true, true_and, szStr, szInt, Option.getD_some, isNil, loadStr, loadInt, mkInts0, mkInts1, mkStrs0, mkStrs1, rowsS_len, rowsI_len, rowsN_len, evStr, fldOp, ldOp, evCall, List.size_toArray, List.append_nil, List.nil_append, List.map_cons, List.map_nil, argAV, argCell, List.toList_toArray, fieldTy, t1, f1]; first | done | rfl)); exact (fun h => by first | rfl | (simp at h; done) | exact absurd (Bool.and_eq_true_iff.mp h).2 (by decide)))
          | refine ops_no rfl rfl (by simp only [Ev.get, reduceIte, Nat.reduceEqDiff, szStr, szInt, Option.getD_some, isNil, loadStr, loadInt, mkInts0, mkInts1, mkStrs0, mkStrs1, rowsS_len, rowsI_len, rowsN_len, evStr, fldOp, ldOp, t1, f1]; first | done | rfl) (by decide) rfl (by decide) ?_
          | refine ops_off rfl rfl rfl rfl (by decide) ?_
          | (refine ops_nil ?_; intro e2 h2; simp only [restr, kpRefDepth, List.map_cons, List.map_nil, Ev.get, reduceIte, Nat.reduceEqDiff] at h2; subst h2))
        refine runs_loop (fun k e m' => ∃ (i : Nat) (x8 x15 x26 : AV), i ≤ lb.length ∧ m = m' ∧ k = lb.length - i ∧
          e = [(0, AV.lst g 7 (rowsN l)), (1, .v (.int .i64 at_)), (4, .v (.int .i64 0)), (5, .v (.int .i64 (maxL ((lb.take i).map (depthD l)) : Nat))), (6, .lst .no 1 (rowsI lb)), (7, .v (.int .i64 (i : Int))), (8, x8), (15, x15), (26, x26)])
          (k := lb.length) ⟨0, _, _, _, Nat.zero_le _, rfl, rfl, rfl⟩ ?_
        rintro k e m' ⟨i, x8, x15, x26, hi, rfl, rfl, rfl⟩
        repeat (first
          | refine runs_seq ?_ | refine runs_block ?_ | refine next_normal ?_ | refine inside_normal ?_ | refine next_exit ?_ | refine inside_exit ?_ | refine inside_other (by decide) ?_ | refine next_ret ?_ | refine inside_ret ?_
          | refine runs_ops_kept ?_ | refine runs_skip ?_ | refine runs_exit ?_ | refine runs_ret ?_
          | ((first | refine' ops_op rfl rfl (by decide) ?_ ?_ ?_ | refine' ops_yes rfl rfl (by simp only [Ev.get, reduceIte, Nat.reduceEqDiff, szStr, szInt, Option.getD_some, isNil, loadStr, loadInt, mkInts0, mkInts1, mkStrs0, mkStrs1, rowsS_len, rowsI_len, rowsN_len, evStr, fldOp, ldOp]; first | done | rfl) rfl (by decide) ?_ ?_ ?_ | refine' ops_op0 rfl rfl ?_ ?_ ?_); rotate_left 2; (focus (simp only [evOp, opd, constAV, constCell, Ev.get, reduceIte, Nat.reduceEqDiff, reduceCtorEq, evBinN, nilCmp, evBin, evInt, evUn, evConvert, evBuiltin, evLen, evField, evPart, tStr, tInt, tElem, tArr, tBool, tAgg, tField, Try.underlying9, Try.underlying3, Try.underlying4, Try.underlying5, Try.underlying21, Try.underlying121, Try.underlying38, Try.underlying25, Try.underlying135, Try.underlying33, Try.underlying2, Try.underlying147, Try.underlying22, Try.underlying56, Try.underlying54, List.zipWith, Option.map_some, Option.map_none, List.length_cons, List.length_nil, ne_eq, Int.reduceEq, not_false_eq_true, and_self, and_true, true_and, szStr, szInt, Option.getD_some, isNil, loadStr, loadInt, mkInts0, mkInts1, mkStrs0, mkStrs1, rowsS_len, rowsI_len, rowsN_len, evStr, fldOp, ldOp, evCall, List.size_toArray, List.append_nil, List.nil_append, List.map_cons, List.map_nil, argAV, argCell, List.toList_toArray, fieldTy]; first | done | rfl)); exact (fun h => by first | rfl | (simp at h; done) | exact absurd (Bool.and_eq_true_iff.mp h).2 (by decide)))
          | refine ops_no rfl rfl (by simp only [Ev.get, reduceIte, Nat.reduceEqDiff, szStr, szInt, Option.getD_some, isNil, loadStr, loadInt, mkInts0, mkInts1, mkStrs0, mkStrs1, rowsS_len, rowsI_len, rowsN_len, evStr, fldOp, ldOp]; first | done | rfl) (by decide) rfl (by decide) ?_
          | refine ops_off rfl rfl rfl rfl (by decide) ?_
          | (refine ops_nil ?_; intro e2 h2; simp only [restr, kpRefDepth, List.map_cons, List.map_nil, Ev.get, reduceIte, Nat.reduceEqDiff] at h2; subst h2))
        refine runs_cond rfl (fun hc => ?_) (fun hc => ?_)
        · have hi1 : i < lb.length := by have := of_decide_eq_true hc; omega
          have f2 := atInts (g := .no) (kk := .i64) hi1
          have hm : lb.getD i 0 ∈ lb := by simp [List.getD, List.getElem?_eq_getElem hi1]
          have htk : (lb.take (i + 1)).map (depthD l) = (lb.take i).map (depthD l) ++ [depthD l (lb.getD i 0)] := by rw [take_next (d := 0) hi1, List.map_append]; rfl
          obtain ⟨g1, g2, g3⟩ := hmem _ hm
          obtain ⟨n', rfl⟩ : ∃ n', n = n' + 1 := ⟨n - 1, by omega⟩
          have f3 : ∀ mm, prevG refDepthGk (n' + 1) [.lst .no 7 (rowsN l), .v (.int .i64 (lb.getD i 0))] mm = some (.v (.int .i64 (depthD l (lb.getD i 0) : Nat)), mm) := fun mm => refDepthGk_eq (g := .no) hlen' (by omega) g3 (by omega)
          generalize lb.getD i 0 = b at f2 f3 htk
          have hmx : maxL ((lb.take (i + 1)).map (depthD l)) = max (maxL ((lb.take i).map (depthD l))) (depthD l b) := by rw [htk, maxL_app]
          generalize maxL ((lb.take i).map (depthD l)) = M at hmx ⊢
          repeat (first
            | refine runs_seq ?_ | refine runs_block ?_ | refine next_normal ?_ | refine inside_normal ?_ | refine next_exit ?_ | refine inside_exit ?_ | refine inside_other (by decide) ?_ | refine next_ret ?_ | refine inside_ret ?_
            | refine runs_ops_kept ?_ | refine runs_skip ?_ | refine runs_exit ?_ | refine runs_ret ?_
            | ((first | refine' ops_op rfl rfl (by decide) ?_ ?_ ?_ | refine' ops_yes rfl rfl (by simp only [Ev.get, reduceIte, Nat.reduceEqDiff, szStr, szInt, Option.getD_some, isNil, loadStr, loadInt, mkInts0, mkInts1, mkStrs0, mkStrs1, rowsS_len, rowsI_len, rowsN_len, evStr, fldOp, ldOp, f2, t2, f3]; first | done | rfl) rfl (by decide) ?_ ?_ ?_ | refine' ops_op0 rfl rfl ?_ ?_ ?_); rotate_left 2; (focus (simp only [evOp, opd, constAV, constCell, Ev.get, reduceIte, Nat.reduceEqDiff, reduceCtorEq, evBinN, nilCmp, evBin, evInt, evUn, evConvert, evBuiltin, evLen, evField, evPart, tStr, tInt, tElem, tArr, tBool, tAgg, tField, Try.underlying9, Try.underlying3, Try.underlying4, Try.underlying5, Try.underlying21, Try.underlying121, Try.underlying38, Try.underlying25, Try.underlying135, Try.underlying33, Try.underlying2, Try.underlying147, Try.underlying22, Try.underlying56, Try.underlying54, List.zipWith, Option.map_some, Option.map_none, List.length_cons, List.length_nil, ne_eq, Int.reduceEq, not_false_eq_true, and_self, and_true, true_and, szStr, szInt, Option.getD_some, isNil, loadStr, loadInt, mkInts0, mkInts1, mkStrs0, mkStrs1, rowsS_len, rowsI_len, rowsN_len, evStr, fldOp, ldOp, evCall, List.size_toArray, List.append_nil, List.nil_append, List.map_cons, List.map_nil, argAV, argCell, List.toList_toArray, fieldTy, f2, t2, f3]; first | done | rfl)); exact (fun h => by first | rfl | (simp at h; done) | exact absurd (Bool.and_eq_true_iff.mp h).2 (by decide)))
            | refine ops_no rfl rfl (by simp only [Ev.get, reduceIte, Nat.reduceEqDiff, szStr, szInt, Option.getD_some, isNil, loadStr, loadInt, mkInts0, mkInts1, mkStrs0, mkStrs1, rowsS_len, rowsI_len, rowsN_len, evStr, fldOp, ldOp, f2, t2, f3]; first | done | rfl) (by decide) rfl (by decide) ?_
            | refine ops_off rfl rfl rfl rfl (by decide) ?_
            | (refine ops_nil ?_; intro e2 h2; simp only [restr, kpRefDepth, List.map_cons, List.map_nil, Ev.get, reduceIte, Nat.reduceEqDiff] at h2; subst h2))
          have r7 := next_i64 (i := i) (by omega)
          refine runs_cond rfl (fun hc => ?_) (fun hc => ?_)
          · have hgt := of_decide_eq_true hc
            repeat (first
              | refine runs_seq ?_ | refine runs_block ?_ | refine next_normal ?_ | refine inside_normal ?_ | refine next_exit ?_ | refine inside_exit ?_ | refine inside_other (by decide) ?_ | refine next_ret ?_ | refine inside_ret ?_
              | refine runs_ops_kept ?_ | refine runs_skip ?_ | refine runs_exit ?_ | refine runs_ret ?_
              | ((first | refine' ops_op rfl rfl (by decide) ?_ ?_ ?_ | refine' ops_yes rfl rfl (by simp only [Ev.get, reduceIte, Nat.reduceEqDiff, szStr, szInt, Option.getD_some, isNil, loadStr, loadInt, mkInts0, mkInts1, mkStrs0, mkStrs1, rowsS_len, rowsI_len, rowsN_len, evStr, fldOp, ldOp, r7]; first | done | rfl) rfl (by decide) ?_ ?_ ?_ | refine' ops_op0 rfl rfl ?_ ?_ ?_); rotate_left 2; (focus (simp only [evOp, opd, constAV, constCell, Ev.get, reduceIte, Nat.reduceEqDiff, reduceCtorEq, evBinN, nilCmp, evBin, evInt, evUn, evConvert, evBuiltin, evLen, evField, evPart, tStr, tInt, tElem, tArr, tBool, tAgg, tField, Try.underlying9, Try.underlying3, Try.underlying4, Try.underlying5, Try.underlying21, Try.underlying121, Try.underlying38, Try.underlying25, Try.underlying135, Try.underlying33, Try.underlying2, Try.underlying147, Try.underlying22, Try.underlying56, Try.underlying54, List.zipWith, Option.map_some, Option.map_none, List.length_cons, List.length_nil, ne_eq, Int.reduceEq, not_false_eq_true, and_self, and_true, true_and, szStr, szInt, Option.getD_some, isNil, loadStr, loadInt, mkInts0, mkInts1, mkStrs0, mkStrs1, rowsS_len, rowsI_len, rowsN_len, evStr, fldOp, ldOp, evCall, List.size_toArray, List.append_nil, List.nil_append, List.map_cons, List.map_nil, argAV, argCell, List.toList_toArray, fieldTy, r7]; first | done | rfl)); exact (fun h => by first | rfl | (simp at h; done) | exact absurd (Bool.and_eq_true_iff.mp h).2 (by decide)))
              | refine ops_no rfl rfl (by simp only [Ev.get, reduceIte, Nat.reduceEqDiff, szStr, szInt, Option.getD_some, isNil, loadStr, loadInt, mkInts0, mkInts1, mkStrs0, mkStrs1, rowsS_len, rowsI_len, rowsN_len, evStr, fldOp, ldOp, r7]; first | done | rfl) (by decide) rfl (by decide) ?_
              | refine ops_off rfl rfl rfl rfl (by decide) ?_
              | (refine ops_nil ?_; intro e2 h2; simp only [restr, kpRefDepth, List.map_cons, List.map_nil, Ev.get, reduceIte, Nat.reduceEqDiff] at h2; subst h2))
            exact ⟨lb.length - (i + 1), by omega, i + 1, _, _, _, hi1, rfl, rfl, by rw [hmx, show max M (depthD l b) = depthD l b by omega]⟩
          · have hgt := of_decide_eq_false hc
            repeat (first
              | refine runs_seq ?_ | refine runs_block ?_ | refine next_normal ?_ | refine inside_normal ?_ | refine next_exit ?_ | refine inside_exit ?_ | refine inside_other (by decide) ?_ | refine next_ret ?_ | refine inside_ret ?_
              | refine runs_ops_kept ?_ | refine runs_skip ?_ | refine runs_exit ?_ | refine runs_ret ?_
              | ((first | refine' ops_op rfl rfl (by decide) ?_ ?_ ?_ | refine' ops_yes rfl rfl (by simp only [Ev.get, reduceIte, Nat.reduceEqDiff, szStr, szInt, Option.getD_some, isNil, loadStr, loadInt, mkInts0, mkInts1, mkStrs0, mkStrs1, rowsS_len, rowsI_len, rowsN_len, evStr, fldOp, ldOp, r7]; first | done | rfl) rfl (by decide) ?_ ?_ ?_ | refine' ops_op0 rfl rfl ?_ ?_ ?_); rotate_left 2; (focus (simp only [evOp, opd, constAV, constCell, Ev.get, reduceIte, Nat.reduceEqDiff, reduceCtorEq, evBinN, nilCmp, evBin, evInt, evUn, evConvert, evBuiltin, evLen, evField, evPart, tStr, tInt, tElem, tArr, tBool, tAgg, tField, Try.underlying9, Try.underlying3, Try.underlying4, Try.underlying5, Try.underlying21, Try.underlying121, Try.underlying38, Try.underlying25, Try.underlying135, Try.underlying33, Try.underlying2, Try.underlying147, Try.underlying22, Try.underlying56, Try.underlying54, List.zipWith, Option.map_some, Option.map_none, List.length_cons, List.length_nil, ne_eq, Int.reduceEq, not_false_eq_true, and_self, and_true, true_and, szStr, szInt, Option.getD_some, isNil, loadStr, loadInt, mkInts0, mkInts1, mkStrs0, mkStrs1, rowsS_len, rowsI_len, rowsN_len, evStr, fldOp, ldOp, evCall, List.size_toArray, List.append_nil, List.nil_append, List.map_cons, List.map_nil, argAV, argCell, List.toList_toArray, fieldTy, r7]; first | done | rfl)); exact (fun h => by first | rfl | (simp at h; done) | exact absurd (Bool.and_eq_true_iff.mp h).2 (by decide)))
              | refine ops_no rfl rfl (by simp only [Ev.get, reduceIte, Nat.reduceEqDiff, szStr, szInt, Option.getD_some, isNil, loadStr, loadInt, mkInts0, mkInts1, mkStrs0, mkStrs1, rowsS_len, rowsI_len, rowsN_len, evStr, fldOp, ldOp, r7]; first | done | rfl) (by decide) rfl (by decide) ?_
              | refine ops_off rfl rfl rfl rfl (by decide) ?_
              | (refine ops_nil ?_; intro e2 h2; simp only [restr, kpRefDepth, List.map_cons, List.map_nil, Ev.get, reduceIte, Nat.reduceEqDiff] at h2; subst h2))
            exact ⟨lb.length - (i + 1), by omega, i + 1, _, _, _, hi1, rfl, rfl, by rw [hmx, show max M (depthD l b) = M by omega]⟩
        · have hi1 : i = lb.length := by have := of_decide_eq_false hc; omega
          subst hi1
          rw [List.take_length]
          have hdl := depthD_le l at_
          have r7 := next_i64 (i := maxL (lb.map (depthD l))) (by omega)
          rw [hD]
          repeat (first
            | refine runs_seq ?_ | refine runs_block ?_ | refine next_normal ?_ | refine inside_normal ?_ | refine next_exit ?_ | refine inside_exit ?_ | refine inside_other (by decide) ?_ | refine next_ret ?_ | refine inside_ret ?_
            | refine runs_ops_kept ?_ | refine runs_skip ?_ | refine runs_exit ?_ | refine runs_ret ?_
            | ((first | refine' ops_op rfl rfl (by decide) ?_ ?_ ?_ | refine' ops_yes rfl rfl (by simp only [Ev.get, reduceIte, Nat.reduceEqDiff, szStr, szInt, Option.getD_some, isNil, loadStr, loadInt, mkInts0, mkInts1, mkStrs0, mkStrs1, rowsS_len, rowsI_len, rowsN_len, evStr, fldOp, ldOp, r7]; first | done | rfl) rfl (by decide) ?_ ?_ ?_ | refine' ops_op0 rfl rfl ?_ ?_ ?_); rotate_left 2; (focus (simp only [evOp, opd, constAV, constCell, Ev.get, reduceIte, Nat.reduceEqDiff, reduceCtorEq, evBinN, nilCmp, evBin, evInt, evUn, evConvert, evBuiltin, evLen, evField, evPart, tStr, tInt, tElem, tArr, tBool, tAgg, tField, Try.underlying9, Try.underlying3, Try.underlying4, Try.underlying5, Try.underlying21, Try.underlying121, Try.underlying38, Try.underlying25, Try.underlying135, Try.underlying33, Try.underlying2, Try.underlying147, Try.underlying22, Try.underlying56, Try.underlying54, List.zipWith, Option.map_some, Option.map_none, List.length_cons, List.length_nil, ne_eq, Int.reduceEq, not_false_eq_true, and_self, and_true, true_and, szStr, szInt, Option.getD_some, isNil, loadStr, loadInt, mkInts0, mkInts1, mkStrs0, mkStrs1, rowsS_len, rowsI_len, rowsN_len, evStr, fldOp, ldOp, evCall, List.size_toArray, List.append_nil, List.nil_append, List.map_cons, List.map_nil, argAV, argCell, List.toList_toArray, fieldTy, r7]; first | done | rfl)); exact (fun h => by first | rfl | (simp at h; done) | exact absurd (Bool.and_eq_true_iff.mp h).2 (by decide)))
            | refine ops_no rfl rfl (by simp only [Ev.get, reduceIte, Nat.reduceEqDiff, szStr, szInt, Option.getD_some, isNil, loadStr, loadInt, mkInts0, mkInts1, mkStrs0, mkStrs1, rowsS_len, rowsI_len, rowsN_len, evStr, fldOp, ldOp, r7]; first | done | rfl) (by decide) rfl (by decide) ?_
            | refine ops_off rfl rfl rfl rfl (by decide) ?_
            | (refine ops_nil ?_; intro e2 h2; simp only [restr, kpRefDepth, List.map_cons, List.map_nil, Ev.get, reduceIte, Nat.reduceEqDiff] at h2; subst h2))
          exact leaves_v rfl rfl
      · cases h
    · cases h
  · cases h
def refDepthG : List AV → Mem → Option (AV × Mem)
  | [.lst _ 7 rows, .v (.int .i64 at_)], m =>
    match unN rows with
    | some l => if l.length ≤ big40 ∧ 0 ≤ at_ ∧ 0 ≤ endOf l at_ then some (.v (.int .i64 (depthD l at_ : Nat)), m) else none
    | none => none
  | _, _ => none
theorem refDepthG_eq {m : Mem} {g : Grow} {l : List Nd} {at_ : Int} (h : l.length ≤ big40) (h1 : 0 ≤ at_) (h2 : 0 ≤ endOf l at_) : refDepthG [.lst g 7 (rowsN l), .v (.int .i64 at_)] m = some (.v (.int .i64 (depthD l at_ : Nat)), m) := by
  simp only [refDepthG, unN_rowsN]
  rw [if_pos ⟨h, h1, h2⟩]
theorem refDepth_ok : FunOk Try.prog 18 refDepthG := by
  intro args m r m' h
  unfold refDepthG at h
  split at h
  · rename_i g rows at_
    split at h
    · rename_i l hl0
      obtain rfl := unN_some hl0
      split at h
      · rename_i hb
        refine refDepth_k (((l.length : Int) - at_).toNat + 1) _ m r m' ?_
        rw [refDepthGk_eq hb.1 hb.2.1 hb.2.2 (by omega)]
        exact h
      · cases h
    · cases h
  · cases h
end Go.Proofs.Ytojaokhkbmiidaa.Ev
