/- Bytes: which numbers bytes are. -/
import Derived.Test.YtbehhlbcffbkoaaSeP
namespace Go.Proofs.Ytbehhlbcffbkoaa.Ev
open Go Go.Proofs
set_option maxRecDepth 10000
set_option linter.unusedVariables false
set_option linter.unusedSimpArgs false
attribute [local irreducible] Next Inside Runs Ops table
def readL (b : List Nat) : Option (List Int) :=
  if h : b = [] then some []
  else if h2 : (getOf b).2 = 0 then none
  else (readL (b.drop (getOf b).2)).map fun l => (getOf b).1 :: l
termination_by b.length
decreasing_by
  have := List.length_pos_iff.2 h
  simp
  omega
theorem readL_nil : readL [] = some [] := by rw [readL, dif_pos rfl]
theorem readL_bad {b : List Nat} (h : b ≠ []) (h2 : (getOf b).2 = 0) : readL b = none := by rw [readL, dif_neg h, dif_pos h2]
theorem readL_next {b : List Nat} (h : b ≠ []) (h2 : (getOf b).2 ≠ 0) : readL b = (readL (b.drop (getOf b).2)).map fun l => (getOf b).1 :: l := by rw [readL, dif_neg h, dif_neg h2]
theorem readL_all : ∀ {l : List Int}, OkI l → readL (allB l) = some l
  | [], _ => readL_nil
  | n :: l, h => by
    have hn := h n (List.mem_cons_self ..)
    have ih := readL_all (l := l) fun b hb => h b (List.mem_cons_of_mem _ hb)
    have e : allB (n :: l) = codeB (foldOf n) ++ allB l := by simp [allB]
    have hg := getOf_code (allB l) (foldOf_lt hn)
    rw [unfold_fold] at hg
    have hpos := code_pos (foldOf n)
    rw [e, readL_next (fun h => by rw [List.append_eq_nil_iff] at h; rw [h.1] at hpos; exact absurd hpos (by decide)) (by rw [hg]; show (codeB (foldOf n)).length ≠ 0; omega), hg]
    simp [ih]
theorem readL_len : ∀ (k : Nat) {b : List Nat} {l : List Int}, b.length ≤ k → readL b = some l → l.length ≤ b.length
  | k, [], l, _, h => by rw [readL_nil] at h; cases h; simp
  | 0, c :: b, l, hk, _ => by simp at hk
  | k + 1, c :: b, l, hk, h => by
    by_cases h0 : (getOf (c :: b)).2 = 0
    · rw [readL_bad (by simp) h0] at h; cases h
    · rw [readL_next (by simp) h0] at h
      cases hr : readL ((c :: b).drop (getOf (c :: b)).2) with
      | none => rw [hr] at h; cases h
      | some l' =>
        rw [hr] at h
        cases h
        have := readL_len k (by rw [List.length_drop]; simp only [List.length_cons] at hk ⊢; omega) hr
        rw [List.length_drop] at this
        simp only [List.length_cons] at this ⊢
        omega
theorem readL_okI : ∀ (k : Nat) {b : List Nat} {l : List Int}, b.length ≤ k → OkB b → readL b = some l → OkI l
  | k, [], l, _, _, h => by rw [readL_nil] at h; cases h; exact .nil
  | 0, c :: b, l, hk, _, _ => by simp at hk
  | k + 1, c :: b, l, hk, hb, h => by
    by_cases h0 : (getOf (c :: b)).2 = 0
    · rw [readL_bad (by simp) h0] at h; cases h
    · rw [readL_next (by simp) h0] at h
      cases hr : readL ((c :: b).drop (getOf (c :: b)).2) with
      | none => rw [hr] at h; cases h
      | some l' =>
        rw [hr] at h
        cases h
        have := readL_okI k (by rw [List.length_drop]; simp only [List.length_cons] at hk ⊢; omega) (hb.drop _) hr
        intro x hx
        rcases List.mem_cons.1 hx with rfl | hx
        · exact (getOf_in hb).1
        · exact this x hx
def readOf (b : List Nat) (most : Int) : List Int × Int :=
  match readL b with
  | none => ([], 2)
  | some l => if most < (l.length : Int) then ([], 9) else (l, 0)
def refReadOf (b : List Nat) : List Int × Int :=
  match readL b with
  | none => ([], 2)
  | some l => (l, 0)
def readG : List AV → Mem → Option (AV × Mem)
  | [.lst _ 1 rows, .v (.int .i64 most)], m =>
    match unB rows with
    | some l => if l.length ≤ 2147483648 then some (.tup [.lst .no 1 (rowsI (readOf l most).1), .v (.int .i64 (readOf l most).2)], m) else none
    | none => none
  | _, _ => none
theorem readG_eq {m : Mem} {g : Grow} {l : List Nat} {most : Int} (h1 : OkB l) (hl : l.length ≤ 2147483648) : readG [.lst g 1 (rowsB l), .v (.int .i64 most)] m = some (.tup [.lst .no 1 (rowsI (readOf l most).1), .v (.int .i64 (readOf l most).2)], m) := by
  simp only [readG, unB_rowsB h1]
  rw [if_pos hl]
def refReadG : List AV → Mem → Option (AV × Mem)
  | [.lst _ 1 rows], m =>
    match unB rows with
    | some l => if l.length ≤ 2147483648 then some (.tup [.lst .no 1 (rowsI (refReadOf l).1), .v (.int .i64 (refReadOf l).2)], m) else none
    | none => none
  | _, _ => none
theorem refReadG_eq {m : Mem} {g : Grow} {l : List Nat} (h1 : OkB l) (hl : l.length ≤ 2147483648) : refReadG [.lst g 1 (rowsB l)] m = some (.tup [.lst .no 1 (rowsI (refReadOf l).1), .v (.int .i64 (refReadOf l).2)], m) := by
  simp only [refReadG, unB_rowsB h1]
  rw [if_pos hl]
def kp39 : Nat → Option (List Nat) := fun _ => some [0, 1, 4, 5, 6, 7, 8, 11, 18, 29]
theorem read_ok : FunOk Try.prog 39 readG := by
  have hC := table_ok (P := Try.prog) (l := [(30, getG)]) (table_more get_ok table_nil)
  refine fun_ok mixed hC Try.func39 rfl kp39 false rfl fun args m r h => ?_
  unfold readG at h
  split at h
  · rename_i g rows most
    split at h
    · rename_i l hl0
      obtain ⟨rfl, hok⟩ := unB_some hl0
      split at h
      · rename_i hlen
        simp only [Option.some.injEq] at h
        subst h
        refine ⟨Nat.le_of_ble_eq_true rfl, ?_⟩
        simp only [entry, List.length_cons, List.length_nil, List.range, List.range.loop, List.zip_cons_cons, List.zip_nil_right]
        repeat (first
          | refine runs_seq ?_ | refine runs_block ?_ | refine next_normal ?_ | refine inside_normal ?_ | refine next_exit ?_ | refine inside_exit ?_ | refine inside_other (by decide) ?_ | refine next_ret ?_ | refine inside_ret ?_
          | refine runs_ops_kept ?_ | refine runs_skip ?_ | refine runs_exit ?_ | refine runs_ret ?_
          | refine ops_op rfl rfl (by decide) (by simp only [evOp, opd, constAV, constCell, Ev.get, reduceIte, Nat.reduceEqDiff, reduceCtorEq, evBinN, nilCmp, evBin, evInt, evUn, evConvert, evBuiltin, evLen, evField, evPart, tStr, tInt, tElem, tArr, tBool, tAgg, tField, Try.underlying3, Try.underlying4, Try.underlying5, Try.underlying9, Try.underlying26, Try.underlying29, Try.underlying34, Try.underlying40, Try.underlying45, Try.underlying56, Try.underlying134, List.zipWith, Option.map_some, Option.map_none, List.length_cons, List.length_nil, ne_eq, Int.reduceEq, not_false_eq_true, and_self, and_true, true_and, sz5, sz3, Option.getD_some, isNil, load5, load3, mk40_0, mk40_1, mk56_0, mk56_1, mk56_2, rowsB_len, rowsI_len, evCall, List.size_toArray, List.append_nil, List.nil_append, List.map_cons, List.map_nil, argAV, argCell, List.toList_toArray, fieldTy]; rfl) (fun h => by first | rfl | (simp at h; done)) ?_
          | refine ops_yes rfl rfl (by simp only [Ev.get, reduceIte, Nat.reduceEqDiff, sz5, sz3, Option.getD_some, isNil, load5, load3, mk40_0, mk40_1, mk56_0, mk56_1, mk56_2, rowsB_len, rowsI_len]; first | done | rfl) rfl (by decide) (by simp only [evOp, opd, constAV, constCell, Ev.get, reduceIte, Nat.reduceEqDiff, reduceCtorEq, evBinN, nilCmp, evBin, evInt, evUn, evConvert, evBuiltin, evLen, evField, evPart, tStr, tInt, tElem, tArr, tBool, tAgg, tField, Try.underlying3, Try.underlying4, Try.underlying5, Try.underlying9, Try.underlying26, Try.underlying29, Try.underlying34, Try.underlying40, Try.underlying45, Try.underlying56, Try.underlying134, List.zipWith, Option.map_some, Option.map_none, List.length_cons, List.length_nil, ne_eq, Int.reduceEq, not_false_eq_true, and_self, and_true, true_and, sz5, sz3, Option.getD_some, isNil, load5, load3, mk40_0, mk40_1, mk56_0, mk56_1, mk56_2, rowsB_len, rowsI_len, evCall, List.size_toArray, List.append_nil, List.nil_append, List.map_cons, List.map_nil, argAV, argCell, List.toList_toArray, fieldTy]; rfl) (fun h => by first | rfl | (simp at h; done)) ?_
          | refine ops_no rfl rfl (by simp only [Ev.get, reduceIte, Nat.reduceEqDiff, sz5, sz3, Option.getD_some, isNil, load5, load3, mk40_0, mk40_1, mk56_0, mk56_1, mk56_2, rowsB_len, rowsI_len]; first | done | rfl) (by decide) rfl (by decide) ?_
          | refine ops_off rfl rfl rfl rfl (by decide) ?_
          | (refine ops_nil ?_; intro e2 h2; simp only [restr, kp39, List.map_cons, List.map_nil, Ev.get, reduceIte, Nat.reduceEqDiff] at h2; subst h2))
        refine runs_loop (fun k e m' => ∃ (b : List Nat) (pre : List Int) (g0 g6 : Grow) (x7 x8 x11 x18 x29 : AV), OkB b ∧ readL l = (readL b).map (pre ++ ·) ∧ pre.length + b.length ≤ l.length ∧ Grows m g6 m' ∧ k = b.length ∧
          e = [(0, AV.lst g0 1 (rowsB b)), (1, .v (.int .i64 most)), (4, .lst .full 1 []), (5, .v (.int .i64 0)), (6, .lst g6 1 (rowsI pre)), (7, x7), (8, x8), (11, x11), (18, x18), (29, x29)])
          (k := l.length) ⟨l, [], _, _, _, _, _, _, _, hok, by cases readL l <;> rfl, by simp, grows_full, rfl, rfl⟩ ?_
        rintro k e m' ⟨b, pre, g0, g6, x7, x8, x11, x18, x29, hb, hread, hle, hG, rfl, rfl⟩
        repeat (first
          | refine runs_seq ?_ | refine runs_block ?_ | refine next_normal ?_ | refine inside_normal ?_ | refine next_exit ?_ | refine inside_exit ?_ | refine inside_other (by decide) ?_ | refine next_ret ?_ | refine inside_ret ?_
          | refine runs_ops_kept ?_ | refine runs_skip ?_ | refine runs_exit ?_ | refine runs_ret ?_
          | refine ops_op rfl rfl (by decide) (by simp only [evOp, opd, constAV, constCell, Ev.get, reduceIte, Nat.reduceEqDiff, reduceCtorEq, evBinN, nilCmp, evBin, evInt, evUn, evConvert, evBuiltin, evLen, evField, evPart, tStr, tInt, tElem, tArr, tBool, tAgg, tField, Try.underlying3, Try.underlying4, Try.underlying5, Try.underlying9, Try.underlying26, Try.underlying29, Try.underlying34, Try.underlying40, Try.underlying45, Try.underlying56, Try.underlying134, List.zipWith, Option.map_some, Option.map_none, List.length_cons, List.length_nil, ne_eq, Int.reduceEq, not_false_eq_true, and_self, and_true, true_and, sz5, sz3, Option.getD_some, isNil, load5, load3, mk40_0, mk40_1, mk56_0, mk56_1, mk56_2, rowsB_len, rowsI_len, evCall, List.size_toArray, List.append_nil, List.nil_append, List.map_cons, List.map_nil, argAV, argCell, List.toList_toArray, fieldTy]; rfl) (fun h => by first | rfl | (simp at h; done)) ?_
          | refine ops_yes rfl rfl (by simp only [Ev.get, reduceIte, Nat.reduceEqDiff, sz5, sz3, Option.getD_some, isNil, load5, load3, mk40_0, mk40_1, mk56_0, mk56_1, mk56_2, rowsB_len, rowsI_len]; first | done | rfl) rfl (by decide) (by simp only [evOp, opd, constAV, constCell, Ev.get, reduceIte, Nat.reduceEqDiff, reduceCtorEq, evBinN, nilCmp, evBin, evInt, evUn, evConvert, evBuiltin, evLen, evField, evPart, tStr, tInt, tElem, tArr, tBool, tAgg, tField, Try.underlying3, Try.underlying4, Try.underlying5, Try.underlying9, Try.underlying26, Try.underlying29, Try.underlying34, Try.underlying40, Try.underlying45, Try.underlying56, Try.underlying134, List.zipWith, Option.map_some, Option.map_none, List.length_cons, List.length_nil, ne_eq, Int.reduceEq, not_false_eq_true, and_self, and_true, true_and, sz5, sz3, Option.getD_some, isNil, load5, load3, mk40_0, mk40_1, mk56_0, mk56_1, mk56_2, rowsB_len, rowsI_len, evCall, List.size_toArray, List.append_nil, List.nil_append, List.map_cons, List.map_nil, argAV, argCell, List.toList_toArray, fieldTy]; rfl) (fun h => by first | rfl | (simp at h; done)) ?_
          | refine ops_no rfl rfl (by simp only [Ev.get, reduceIte, Nat.reduceEqDiff, sz5, sz3, Option.getD_some, isNil, load5, load3, mk40_0, mk40_1, mk56_0, mk56_1, mk56_2, rowsB_len, rowsI_len]; first | done | rfl) (by decide) rfl (by decide) ?_
          | refine ops_off rfl rfl rfl rfl (by decide) ?_
          | (refine ops_nil ?_; intro e2 h2; simp only [restr, kp39, List.map_cons, List.map_nil, Ev.get, reduceIte, Nat.reduceEqDiff] at h2; subst h2))
        refine runs_cond rfl (fun hc => ?_) (fun hc => ?_)
        · have h0 : b ≠ [] := by
            rintro rfl
            have := of_decide_eq_true hc
            simp at this
          have f30 := fun mm => getG_eq (g := .no) (m := mm) hb (by omega)
          have hbad := readL_bad h0
          have hnext := readL_next h0
          have hgle := getOf_le b
          generalize getOf b = G at f30 hbad hnext hgle
          obtain ⟨v, n⟩ := G
          simp only at f30 hbad hnext hgle
          repeat (first
            | refine runs_seq ?_ | refine runs_block ?_ | refine next_normal ?_ | refine inside_normal ?_ | refine next_exit ?_ | refine inside_exit ?_ | refine inside_other (by decide) ?_ | refine next_ret ?_ | refine inside_ret ?_
            | refine runs_ops_kept ?_ | refine runs_skip ?_ | refine runs_exit ?_ | refine runs_ret ?_
            | refine ops_op rfl rfl (by decide) (by simp only [evOp, opd, constAV, constCell, Ev.get, reduceIte, Nat.reduceEqDiff, reduceCtorEq, evBinN, nilCmp, evBin, evInt, evUn, evConvert, evBuiltin, evLen, evField, evPart, tStr, tInt, tElem, tArr, tBool, tAgg, tField, Try.underlying3, Try.underlying4, Try.underlying5, Try.underlying9, Try.underlying26, Try.underlying29, Try.underlying34, Try.underlying40, Try.underlying45, Try.underlying56, Try.underlying134, List.zipWith, Option.map_some, Option.map_none, List.length_cons, List.length_nil, ne_eq, Int.reduceEq, not_false_eq_true, and_self, and_true, true_and, sz5, sz3, Option.getD_some, isNil, load5, load3, mk40_0, mk40_1, mk56_0, mk56_1, mk56_2, rowsB_len, rowsI_len, evCall, List.size_toArray, List.append_nil, List.nil_append, List.map_cons, List.map_nil, argAV, argCell, List.toList_toArray, fieldTy, table_hit, f30]; rfl) (fun h => by first | rfl | (simp at h; done)) ?_
            | refine ops_yes rfl rfl (by simp only [Ev.get, reduceIte, Nat.reduceEqDiff, sz5, sz3, Option.getD_some, isNil, load5, load3, mk40_0, mk40_1, mk56_0, mk56_1, mk56_2, rowsB_len, rowsI_len, table_hit, f30]; first | done | rfl) rfl (by decide) (by simp only [evOp, opd, constAV, constCell, Ev.get, reduceIte, Nat.reduceEqDiff, reduceCtorEq, evBinN, nilCmp, evBin, evInt, evUn, evConvert, evBuiltin, evLen, evField, evPart, tStr, tInt, tElem, tArr, tBool, tAgg, tField, Try.underlying3, Try.underlying4, Try.underlying5, Try.underlying9, Try.underlying26, Try.underlying29, Try.underlying34, Try.underlying40, Try.underlying45, Try.underlying56, Try.underlying134, List.zipWith, Option.map_some, Option.map_none, List.length_cons, List.length_nil, ne_eq, Int.reduceEq, not_false_eq_true, and_self, and_true, true_and, sz5, sz3, Option.getD_some, isNil, load5, load3, mk40_0, mk40_1, mk56_0, mk56_1, mk56_2, rowsB_len, rowsI_len, evCall, List.size_toArray, List.append_nil, List.nil_append, List.map_cons, List.map_nil, argAV, argCell, List.toList_toArray, fieldTy, table_hit, f30]; rfl) (fun h => by first | rfl | (simp at h; done)) ?_
            | refine ops_no rfl rfl (by simp only [Ev.get, reduceIte, Nat.reduceEqDiff, sz5, sz3, Option.getD_some, isNil, load5, load3, mk40_0, mk40_1, mk56_0, mk56_1, mk56_2, rowsB_len, rowsI_len, table_hit, f30]; first | done | rfl) (by decide) rfl (by decide) ?_
            | refine ops_off rfl rfl rfl rfl (by decide) ?_
            | (refine ops_nil ?_; intro e2 h2; simp only [restr, kp39, List.map_cons, List.map_nil, Ev.get, reduceIte, Nat.reduceEqDiff] at h2; subst h2))
          refine runs_cond rfl (fun hc => ?_) (fun hc => ?_)
          · have hn : n = 0 := by have := eq_of_beq hc; omega
            rw [hbad hn] at hread
            have : readOf l most = ([], 2) := by unfold readOf; rw [hread]; rfl
            rw [this]
            repeat (first
              | refine runs_seq ?_ | refine runs_block ?_ | refine next_normal ?_ | refine inside_normal ?_ | refine next_exit ?_ | refine inside_exit ?_ | refine inside_other (by decide) ?_ | refine next_ret ?_ | refine inside_ret ?_
              | refine runs_ops_kept ?_ | refine runs_skip ?_ | refine runs_exit ?_ | refine runs_ret ?_
              | refine ops_op rfl rfl (by decide) (by simp only [evOp, opd, constAV, constCell, Ev.get, reduceIte, Nat.reduceEqDiff, reduceCtorEq, evBinN, nilCmp, evBin, evInt, evUn, evConvert, evBuiltin, evLen, evField, evPart, tStr, tInt, tElem, tArr, tBool, tAgg, tField, Try.underlying3, Try.underlying4, Try.underlying5, Try.underlying9, Try.underlying26, Try.underlying29, Try.underlying34, Try.underlying40, Try.underlying45, Try.underlying56, Try.underlying134, List.zipWith, Option.map_some, Option.map_none, List.length_cons, List.length_nil, ne_eq, Int.reduceEq, not_false_eq_true, and_self, and_true, true_and, sz5, sz3, Option.getD_some, isNil, load5, load3, mk40_0, mk40_1, mk56_0, mk56_1, mk56_2, rowsB_len, rowsI_len, evCall, List.size_toArray, List.append_nil, List.nil_append, List.map_cons, List.map_nil, argAV, argCell, List.toList_toArray, fieldTy]; rfl) (fun h => by first | rfl | (simp at h; done)) ?_
              | refine ops_yes rfl rfl (by simp only [Ev.get, reduceIte, Nat.reduceEqDiff, sz5, sz3, Option.getD_some, isNil, load5, load3, mk40_0, mk40_1, mk56_0, mk56_1, mk56_2, rowsB_len, rowsI_len]; first | done | rfl) rfl (by decide) (by simp only [evOp, opd, constAV, constCell, Ev.get, reduceIte, Nat.reduceEqDiff, reduceCtorEq, evBinN, nilCmp, evBin, evInt, evUn, evConvert, evBuiltin, evLen, evField, evPart, tStr, tInt, tElem, tArr, tBool, tAgg, tField, Try.underlying3, Try.underlying4, Try.underlying5, Try.underlying9, Try.underlying26, Try.underlying29, Try.underlying34, Try.underlying40, Try.underlying45, Try.underlying56, Try.underlying134, List.zipWith, Option.map_some, Option.map_none, List.length_cons, List.length_nil, ne_eq, Int.reduceEq, not_false_eq_true, and_self, and_true, true_and, sz5, sz3, Option.getD_some, isNil, load5, load3, mk40_0, mk40_1, mk56_0, mk56_1, mk56_2, rowsB_len, rowsI_len, evCall, List.size_toArray, List.append_nil, List.nil_append, List.map_cons, List.map_nil, argAV, argCell, List.toList_toArray, fieldTy]; rfl) (fun h => by first | rfl | (simp at h; done)) ?_
              | refine ops_no rfl rfl (by simp only [Ev.get, reduceIte, Nat.reduceEqDiff, sz5, sz3, Option.getD_some, isNil, load5, load3, mk40_0, mk40_1, mk56_0, mk56_1, mk56_2, rowsB_len, rowsI_len]; first | done | rfl) (by decide) rfl (by decide) ?_
              | refine ops_off rfl rfl rfl rfl (by decide) ?_
              | (refine ops_nil ?_; intro e2 h2; simp only [restr, kp39, List.map_cons, List.map_nil, Ev.get, reduceIte, Nat.reduceEqDiff] at h2; subst h2))
            exact leaves_two rfl rfl rfl (fin_grows hG)
          · have hn : n ≠ 0 := by
              rintro rfl
              cases hc
            have f3' := fun mm => slice_from (P := Try.prog) (m := mm) (g := g0) (kk := .i64) el40 sz5 (show n ≤ (rowsB b).length by rw [rowsB_len]; exact hgle)
            simp only [rowsB_drop] at f3'
            obtain ⟨g', m'', a1, hG'⟩ := app_int app56 hG (g2 := .full) pre v (by unfold lim; omega)
            repeat (first
              | refine runs_seq ?_ | refine runs_block ?_ | refine next_normal ?_ | refine inside_normal ?_ | refine next_exit ?_ | refine inside_exit ?_ | refine inside_other (by decide) ?_ | refine next_ret ?_ | refine inside_ret ?_
              | refine runs_ops_kept ?_ | refine runs_skip ?_ | refine runs_exit ?_ | refine runs_ret ?_
              | refine ops_op rfl rfl (by decide) (by simp only [evOp, opd, constAV, constCell, Ev.get, reduceIte, Nat.reduceEqDiff, reduceCtorEq, evBinN, nilCmp, evBin, evInt, evUn, evConvert, evBuiltin, evLen, evField, evPart, tStr, tInt, tElem, tArr, tBool, tAgg, tField, Try.underlying3, Try.underlying4, Try.underlying5, Try.underlying9, Try.underlying26, Try.underlying29, Try.underlying34, Try.underlying40, Try.underlying45, Try.underlying56, Try.underlying134, List.zipWith, Option.map_some, Option.map_none, List.length_cons, List.length_nil, ne_eq, Int.reduceEq, not_false_eq_true, and_self, and_true, true_and, sz5, sz3, Option.getD_some, isNil, load5, load3, mk40_0, mk40_1, mk56_0, mk56_1, mk56_2, rowsB_len, rowsI_len, evCall, List.size_toArray, List.append_nil, List.nil_append, List.map_cons, List.map_nil, argAV, argCell, List.toList_toArray, fieldTy, a1, f3']; rfl) (fun h => by first | rfl | (simp at h; done)) ?_
              | refine ops_yes rfl rfl (by simp only [Ev.get, reduceIte, Nat.reduceEqDiff, sz5, sz3, Option.getD_some, isNil, load5, load3, mk40_0, mk40_1, mk56_0, mk56_1, mk56_2, rowsB_len, rowsI_len, a1, f3']; first | done | rfl) rfl (by decide) (by simp only [evOp, opd, constAV, constCell, Ev.get, reduceIte, Nat.reduceEqDiff, reduceCtorEq, evBinN, nilCmp, evBin, evInt, evUn, evConvert, evBuiltin, evLen, evField, evPart, tStr, tInt, tElem, tArr, tBool, tAgg, tField, Try.underlying3, Try.underlying4, Try.underlying5, Try.underlying9, Try.underlying26, Try.underlying29, Try.underlying34, Try.underlying40, Try.underlying45, Try.underlying56, Try.underlying134, List.zipWith, Option.map_some, Option.map_none, List.length_cons, List.length_nil, ne_eq, Int.reduceEq, not_false_eq_true, and_self, and_true, true_and, sz5, sz3, Option.getD_some, isNil, load5, load3, mk40_0, mk40_1, mk56_0, mk56_1, mk56_2, rowsB_len, rowsI_len, evCall, List.size_toArray, List.append_nil, List.nil_append, List.map_cons, List.map_nil, argAV, argCell, List.toList_toArray, fieldTy, a1, f3']; rfl) (fun h => by first | rfl | (simp at h; done)) ?_
              | refine ops_no rfl rfl (by simp only [Ev.get, reduceIte, Nat.reduceEqDiff, sz5, sz3, Option.getD_some, isNil, load5, load3, mk40_0, mk40_1, mk56_0, mk56_1, mk56_2, rowsB_len, rowsI_len, a1, f3']; first | done | rfl) (by decide) rfl (by decide) ?_
              | refine ops_off rfl rfl rfl rfl (by decide) ?_
              | (refine ops_nil ?_; intro e2 h2; simp only [restr, kp39, List.map_cons, List.map_nil, Ev.get, reduceIte, Nat.reduceEqDiff] at h2; subst h2))
            refine ⟨(b.drop n).length, by rw [List.length_drop]; omega, b.drop n, pre ++ [v], _, _, _, _, _, _, _, hb.drop n, ?_, by rw [List.length_drop, List.length_append]; simp; omega, hG', rfl, rfl⟩
            rw [hread, hnext hn]
            cases readL (b.drop n) <;> simp
        · have h0 : b = [] := by
            have := of_decide_eq_false hc
            exact List.eq_nil_of_length_eq_zero (by omega)
          subst h0
          rw [readL_nil] at hread
          have hr : readL l = some pre := by rw [hread]; simp
          repeat (first
            | refine runs_seq ?_ | refine runs_block ?_ | refine next_normal ?_ | refine inside_normal ?_ | refine next_exit ?_ | refine inside_exit ?_ | refine inside_other (by decide) ?_ | refine next_ret ?_ | refine inside_ret ?_
            | refine runs_ops_kept ?_ | refine runs_skip ?_ | refine runs_exit ?_ | refine runs_ret ?_
            | refine ops_op rfl rfl (by decide) (by simp only [evOp, opd, constAV, constCell, Ev.get, reduceIte, Nat.reduceEqDiff, reduceCtorEq, evBinN, nilCmp, evBin, evInt, evUn, evConvert, evBuiltin, evLen, evField, evPart, tStr, tInt, tElem, tArr, tBool, tAgg, tField, Try.underlying3, Try.underlying4, Try.underlying5, Try.underlying9, Try.underlying26, Try.underlying29, Try.underlying34, Try.underlying40, Try.underlying45, Try.underlying56, Try.underlying134, List.zipWith, Option.map_some, Option.map_none, List.length_cons, List.length_nil, ne_eq, Int.reduceEq, not_false_eq_true, and_self, and_true, true_and, sz5, sz3, Option.getD_some, isNil, load5, load3, mk40_0, mk40_1, mk56_0, mk56_1, mk56_2, rowsB_len, rowsI_len, evCall, List.size_toArray, List.append_nil, List.nil_append, List.map_cons, List.map_nil, argAV, argCell, List.toList_toArray, fieldTy]; rfl) (fun h => by first | rfl | (simp at h; done)) ?_
            | refine ops_yes rfl rfl (by simp only [Ev.get, reduceIte, Nat.reduceEqDiff, sz5, sz3, Option.getD_some, isNil, load5, load3, mk40_0, mk40_1, mk56_0, mk56_1, mk56_2, rowsB_len, rowsI_len]; first | done | rfl) rfl (by decide) (by simp only [evOp, opd, constAV, constCell, Ev.get, reduceIte, Nat.reduceEqDiff, reduceCtorEq, evBinN, nilCmp, evBin, evInt, evUn, evConvert, evBuiltin, evLen, evField, evPart, tStr, tInt, tElem, tArr, tBool, tAgg, tField, Try.underlying3, Try.underlying4, Try.underlying5, Try.underlying9, Try.underlying26, Try.underlying29, Try.underlying34, Try.underlying40, Try.underlying45, Try.underlying56, Try.underlying134, List.zipWith, Option.map_some, Option.map_none, List.length_cons, List.length_nil, ne_eq, Int.reduceEq, not_false_eq_true, and_self, and_true, true_and, sz5, sz3, Option.getD_some, isNil, load5, load3, mk40_0, mk40_1, mk56_0, mk56_1, mk56_2, rowsB_len, rowsI_len, evCall, List.size_toArray, List.append_nil, List.nil_append, List.map_cons, List.map_nil, argAV, argCell, List.toList_toArray, fieldTy]; rfl) (fun h => by first | rfl | (simp at h; done)) ?_
            | refine ops_no rfl rfl (by simp only [Ev.get, reduceIte, Nat.reduceEqDiff, sz5, sz3, Option.getD_some, isNil, load5, load3, mk40_0, mk40_1, mk56_0, mk56_1, mk56_2, rowsB_len, rowsI_len]; first | done | rfl) (by decide) rfl (by decide) ?_
            | refine ops_off rfl rfl rfl rfl (by decide) ?_
            | (refine ops_nil ?_; intro e2 h2; simp only [restr, kp39, List.map_cons, List.map_nil, Ev.get, reduceIte, Nat.reduceEqDiff] at h2; subst h2))
          refine runs_cond rfl (fun hc => ?_) (fun hc => ?_)
          · have h1 := of_decide_eq_true hc
            have : readOf l most = ([], 9) := by unfold readOf; rw [hr]; exact if_pos h1
            rw [this]
            repeat (first
              | refine runs_seq ?_ | refine runs_block ?_ | refine next_normal ?_ | refine inside_normal ?_ | refine next_exit ?_ | refine inside_exit ?_ | refine inside_other (by decide) ?_ | refine next_ret ?_ | refine inside_ret ?_
              | refine runs_ops_kept ?_ | refine runs_skip ?_ | refine runs_exit ?_ | refine runs_ret ?_
              | refine ops_op rfl rfl (by decide) (by simp only [evOp, opd, constAV, constCell, Ev.get, reduceIte, Nat.reduceEqDiff, reduceCtorEq, evBinN, nilCmp, evBin, evInt, evUn, evConvert, evBuiltin, evLen, evField, evPart, tStr, tInt, tElem, tArr, tBool, tAgg, tField, Try.underlying3, Try.underlying4, Try.underlying5, Try.underlying9, Try.underlying26, Try.underlying29, Try.underlying34, Try.underlying40, Try.underlying45, Try.underlying56, Try.underlying134, List.zipWith, Option.map_some, Option.map_none, List.length_cons, List.length_nil, ne_eq, Int.reduceEq, not_false_eq_true, and_self, and_true, true_and, sz5, sz3, Option.getD_some, isNil, load5, load3, mk40_0, mk40_1, mk56_0, mk56_1, mk56_2, rowsB_len, rowsI_len, evCall, List.size_toArray, List.append_nil, List.nil_append, List.map_cons, List.map_nil, argAV, argCell, List.toList_toArray, fieldTy]; rfl) (fun h => by first | rfl | (simp at h; done)) ?_
              | refine ops_yes rfl rfl (by simp only [Ev.get, reduceIte, Nat.reduceEqDiff, sz5, sz3, Option.getD_some, isNil, load5, load3, mk40_0, mk40_1, mk56_0, mk56_1, mk56_2, rowsB_len, rowsI_len]; first | done | rfl) rfl (by decide) (by simp only [evOp, opd, constAV, constCell, Ev.get, reduceIte, Nat.reduceEqDiff, reduceCtorEq, evBinN, nilCmp, evBin, evInt, evUn, evConvert, evBuiltin, evLen, evField, evPart, tStr, tInt, tElem, tArr, tBool, tAgg, tField, Try.underlying3, Try.underlying4, Try.underlying5, Try.underlying9, Try.underlying26, Try.underlying29, Try.underlying34, Try.underlying40, Try.underlying45, Try.underlying56, Try.underlying134, List.zipWith, Option.map_some, Option.map_none, List.length_cons, List.length_nil, ne_eq, Int.reduceEq, not_false_eq_true, and_self, and_true, true_and, sz5, sz3, Option.getD_some, isNil, load5, load3, mk40_0, mk40_1, mk56_0, mk56_1, mk56_2, rowsB_len, rowsI_len, evCall, List.size_toArray, List.append_nil, List.nil_append, List.map_cons, List.map_nil, argAV, argCell, List.toList_toArray, fieldTy]; rfl) (fun h => by first | rfl | (simp at h; done)) ?_
              | refine ops_no rfl rfl (by simp only [Ev.get, reduceIte, Nat.reduceEqDiff, sz5, sz3, Option.getD_some, isNil, load5, load3, mk40_0, mk40_1, mk56_0, mk56_1, mk56_2, rowsB_len, rowsI_len]; first | done | rfl) (by decide) rfl (by decide) ?_
              | refine ops_off rfl rfl rfl rfl (by decide) ?_
              | (refine ops_nil ?_; intro e2 h2; simp only [restr, kp39, List.map_cons, List.map_nil, Ev.get, reduceIte, Nat.reduceEqDiff] at h2; subst h2))
            exact leaves_two rfl rfl rfl (fin_grows hG)
          · have h1 := of_decide_eq_false hc
            have : readOf l most = (pre, 0) := by unfold readOf; rw [hr]; exact if_neg h1
            rw [this]
            repeat (first
              | refine runs_seq ?_ | refine runs_block ?_ | refine next_normal ?_ | refine inside_normal ?_ | refine next_exit ?_ | refine inside_exit ?_ | refine inside_other (by decide) ?_ | refine next_ret ?_ | refine inside_ret ?_
              | refine runs_ops_kept ?_ | refine runs_skip ?_ | refine runs_exit ?_ | refine runs_ret ?_
              | refine ops_op rfl rfl (by decide) (by simp only [evOp, opd, constAV, constCell, Ev.get, reduceIte, Nat.reduceEqDiff, reduceCtorEq, evBinN, nilCmp, evBin, evInt, evUn, evConvert, evBuiltin, evLen, evField, evPart, tStr, tInt, tElem, tArr, tBool, tAgg, tField, Try.underlying3, Try.underlying4, Try.underlying5, Try.underlying9, Try.underlying26, Try.underlying29, Try.underlying34, Try.underlying40, Try.underlying45, Try.underlying56, Try.underlying134, List.zipWith, Option.map_some, Option.map_none, List.length_cons, List.length_nil, ne_eq, Int.reduceEq, not_false_eq_true, and_self, and_true, true_and, sz5, sz3, Option.getD_some, isNil, load5, load3, mk40_0, mk40_1, mk56_0, mk56_1, mk56_2, rowsB_len, rowsI_len, evCall, List.size_toArray, List.append_nil, List.nil_append, List.map_cons, List.map_nil, argAV, argCell, List.toList_toArray, fieldTy]; rfl) (fun h => by first | rfl | (simp at h; done)) ?_
              | refine ops_yes rfl rfl (by simp only [Ev.get, reduceIte, Nat.reduceEqDiff, sz5, sz3, Option.getD_some, isNil, load5, load3, mk40_0, mk40_1, mk56_0, mk56_1, mk56_2, rowsB_len, rowsI_len]; first | done | rfl) rfl (by decide) (by simp only [evOp, opd, constAV, constCell, Ev.get, reduceIte, Nat.reduceEqDiff, reduceCtorEq, evBinN, nilCmp, evBin, evInt, evUn, evConvert, evBuiltin, evLen, evField, evPart, tStr, tInt, tElem, tArr, tBool, tAgg, tField, Try.underlying3, Try.underlying4, Try.underlying5, Try.underlying9, Try.underlying26, Try.underlying29, Try.underlying34, Try.underlying40, Try.underlying45, Try.underlying56, Try.underlying134, List.zipWith, Option.map_some, Option.map_none, List.length_cons, List.length_nil, ne_eq, Int.reduceEq, not_false_eq_true, and_self, and_true, true_and, sz5, sz3, Option.getD_some, isNil, load5, load3, mk40_0, mk40_1, mk56_0, mk56_1, mk56_2, rowsB_len, rowsI_len, evCall, List.size_toArray, List.append_nil, List.nil_append, List.map_cons, List.map_nil, argAV, argCell, List.toList_toArray, fieldTy]; rfl) (fun h => by first | rfl | (simp at h; done)) ?_
              | refine ops_no rfl rfl (by simp only [Ev.get, reduceIte, Nat.reduceEqDiff, sz5, sz3, Option.getD_some, isNil, load5, load3, mk40_0, mk40_1, mk56_0, mk56_1, mk56_2, rowsB_len, rowsI_len]; first | done | rfl) (by decide) rfl (by decide) ?_
              | refine ops_off rfl rfl rfl rfl (by decide) ?_
              | (refine ops_nil ?_; intro e2 h2; simp only [restr, kp39, List.map_cons, List.map_nil, Ev.get, reduceIte, Nat.reduceEqDiff] at h2; subst h2))
            exact leaves_two rfl rfl rfl (fin_grows hG)
      · cases h
    · cases h
  · cases h
def kp40 : Nat → Option (List Nat) := fun _ => some [0, 2, 3, 4, 5, 6, 7, 12, 21]
theorem refRead_ok : FunOk Try.prog 40 refReadG := by
  have hC := table_ok (P := Try.prog) (l := [(35, getG)]) (table_more refGet_ok table_nil)
  refine fun_ok mixed hC Try.func40 rfl kp40 false rfl fun args m r h => ?_
  unfold refReadG at h
  split at h
  · rename_i g rows
    split at h
    · rename_i l hl0
      obtain ⟨rfl, hok⟩ := unB_some hl0
      split at h
      · rename_i hlen
        simp only [Option.some.injEq] at h
        subst h
        refine ⟨Nat.le_of_ble_eq_true rfl, ?_⟩
        simp only [entry, List.length_cons, List.length_nil, List.range, List.range.loop, List.zip_cons_cons, List.zip_nil_right]
        repeat (first
          | refine runs_seq ?_ | refine runs_block ?_ | refine next_normal ?_ | refine inside_normal ?_ | refine next_exit ?_ | refine inside_exit ?_ | refine inside_other (by decide) ?_ | refine next_ret ?_ | refine inside_ret ?_
          | refine runs_ops_kept ?_ | refine runs_skip ?_ | refine runs_exit ?_ | refine runs_ret ?_
          | refine ops_op rfl rfl (by decide) (by simp only [evOp, opd, constAV, constCell, Ev.get, reduceIte, Nat.reduceEqDiff, reduceCtorEq, evBinN, nilCmp, evBin, evInt, evUn, evConvert, evBuiltin, evLen, evField, evPart, tStr, tInt, tElem, tArr, tBool, tAgg, tField, Try.underlying3, Try.underlying4, Try.underlying5, Try.underlying9, Try.underlying26, Try.underlying29, Try.underlying34, Try.underlying40, Try.underlying45, Try.underlying56, Try.underlying134, List.zipWith, Option.map_some, Option.map_none, List.length_cons, List.length_nil, ne_eq, Int.reduceEq, not_false_eq_true, and_self, and_true, true_and, sz5, sz3, Option.getD_some, isNil, load5, load3, mk40_0, mk40_1, mk56_0, mk56_1, mk56_2, rowsB_len, rowsI_len, evCall, List.size_toArray, List.append_nil, List.nil_append, List.map_cons, List.map_nil, argAV, argCell, List.toList_toArray, fieldTy]; rfl) (fun h => by first | rfl | (simp at h; done)) ?_
          | refine ops_yes rfl rfl (by simp only [Ev.get, reduceIte, Nat.reduceEqDiff, sz5, sz3, Option.getD_some, isNil, load5, load3, mk40_0, mk40_1, mk56_0, mk56_1, mk56_2, rowsB_len, rowsI_len]; first | done | rfl) rfl (by decide) (by simp only [evOp, opd, constAV, constCell, Ev.get, reduceIte, Nat.reduceEqDiff, reduceCtorEq, evBinN, nilCmp, evBin, evInt, evUn, evConvert, evBuiltin, evLen, evField, evPart, tStr, tInt, tElem, tArr, tBool, tAgg, tField, Try.underlying3, Try.underlying4, Try.underlying5, Try.underlying9, Try.underlying26, Try.underlying29, Try.underlying34, Try.underlying40, Try.underlying45, Try.underlying56, Try.underlying134, List.zipWith, Option.map_some, Option.map_none, List.length_cons, List.length_nil, ne_eq, Int.reduceEq, not_false_eq_true, and_self, and_true, true_and, sz5, sz3, Option.getD_some, isNil, load5, load3, mk40_0, mk40_1, mk56_0, mk56_1, mk56_2, rowsB_len, rowsI_len, evCall, List.size_toArray, List.append_nil, List.nil_append, List.map_cons, List.map_nil, argAV, argCell, List.toList_toArray, fieldTy]; rfl) (fun h => by first | rfl | (simp at h; done)) ?_
          | refine ops_no rfl rfl (by simp only [Ev.get, reduceIte, Nat.reduceEqDiff, sz5, sz3, Option.getD_some, isNil, load5, load3, mk40_0, mk40_1, mk56_0, mk56_1, mk56_2, rowsB_len, rowsI_len]; first | done | rfl) (by decide) rfl (by decide) ?_
          | refine ops_off rfl rfl rfl rfl (by decide) ?_
          | (refine ops_nil ?_; intro e2 h2; simp only [restr, kp40, List.map_cons, List.map_nil, Ev.get, reduceIte, Nat.reduceEqDiff] at h2; subst h2))
        refine runs_loop (fun k e m' => ∃ (i : Nat) (pre : List Int) (g4 : Grow) (x6 x7 x12 x21 : AV), i ≤ l.length ∧ readL l = (readL (l.drop i)).map (pre ++ ·) ∧ pre.length ≤ i ∧ Grows m g4 m' ∧ k = l.length - i ∧
          e = [(0, AV.lst g 1 (rowsB l)), (2, .lst .full 1 []), (3, .v (.int .i64 0)), (4, .lst g4 1 (rowsI pre)), (5, .v (.int .i64 (i : Int))), (6, x6), (7, x7), (12, x12), (21, x21)])
          (k := l.length) ⟨0, [], _, _, _, _, _, Nat.zero_le _, by rw [List.drop_zero]; cases readL l <;> rfl, by simp, grows_full, rfl, rfl⟩ ?_
        rintro k e m' ⟨i, pre, g4, x6, x7, x12, x21, hi, hread, hle, hG, rfl, rfl⟩
        repeat (first
          | refine runs_seq ?_ | refine runs_block ?_ | refine next_normal ?_ | refine inside_normal ?_ | refine next_exit ?_ | refine inside_exit ?_ | refine inside_other (by decide) ?_ | refine next_ret ?_ | refine inside_ret ?_
          | refine runs_ops_kept ?_ | refine runs_skip ?_ | refine runs_exit ?_ | refine runs_ret ?_
          | refine ops_op rfl rfl (by decide) (by simp only [evOp, opd, constAV, constCell, Ev.get, reduceIte, Nat.reduceEqDiff, reduceCtorEq, evBinN, nilCmp, evBin, evInt, evUn, evConvert, evBuiltin, evLen, evField, evPart, tStr, tInt, tElem, tArr, tBool, tAgg, tField, Try.underlying3, Try.underlying4, Try.underlying5, Try.underlying9, Try.underlying26, Try.underlying29, Try.underlying34, Try.underlying40, Try.underlying45, Try.underlying56, Try.underlying134, List.zipWith, Option.map_some, Option.map_none, List.length_cons, List.length_nil, ne_eq, Int.reduceEq, not_false_eq_true, and_self, and_true, true_and, sz5, sz3, Option.getD_some, isNil, load5, load3, mk40_0, mk40_1, mk56_0, mk56_1, mk56_2, rowsB_len, rowsI_len, evCall, List.size_toArray, List.append_nil, List.nil_append, List.map_cons, List.map_nil, argAV, argCell, List.toList_toArray, fieldTy]; rfl) (fun h => by first | rfl | (simp at h; done)) ?_
          | refine ops_yes rfl rfl (by simp only [Ev.get, reduceIte, Nat.reduceEqDiff, sz5, sz3, Option.getD_some, isNil, load5, load3, mk40_0, mk40_1, mk56_0, mk56_1, mk56_2, rowsB_len, rowsI_len]; first | done | rfl) rfl (by decide) (by simp only [evOp, opd, constAV, constCell, Ev.get, reduceIte, Nat.reduceEqDiff, reduceCtorEq, evBinN, nilCmp, evBin, evInt, evUn, evConvert, evBuiltin, evLen, evField, evPart, tStr, tInt, tElem, tArr, tBool, tAgg, tField, Try.underlying3, Try.underlying4, Try.underlying5, Try.underlying9, Try.underlying26, Try.underlying29, Try.underlying34, Try.underlying40, Try.underlying45, Try.underlying56, Try.underlying134, List.zipWith, Option.map_some, Option.map_none, List.length_cons, List.length_nil, ne_eq, Int.reduceEq, not_false_eq_true, and_self, and_true, true_and, sz5, sz3, Option.getD_some, isNil, load5, load3, mk40_0, mk40_1, mk56_0, mk56_1, mk56_2, rowsB_len, rowsI_len, evCall, List.size_toArray, List.append_nil, List.nil_append, List.map_cons, List.map_nil, argAV, argCell, List.toList_toArray, fieldTy]; rfl) (fun h => by first | rfl | (simp at h; done)) ?_
          | refine ops_no rfl rfl (by simp only [Ev.get, reduceIte, Nat.reduceEqDiff, sz5, sz3, Option.getD_some, isNil, load5, load3, mk40_0, mk40_1, mk56_0, mk56_1, mk56_2, rowsB_len, rowsI_len]; first | done | rfl) (by decide) rfl (by decide) ?_
          | refine ops_off rfl rfl rfl rfl (by decide) ?_
          | (refine ops_nil ?_; intro e2 h2; simp only [restr, kp40, List.map_cons, List.map_nil, Ev.get, reduceIte, Nat.reduceEqDiff] at h2; subst h2))
        refine runs_cond rfl (fun hc => ?_) (fun hc => ?_)
        · have hi1 : i < l.length := by have := of_decide_eq_true hc; omega
          have h0 : l.drop i ≠ [] := by
            intro h
            have := congrArg List.length h
            rw [List.length_drop] at this
            simp at this
            omega
          have f3' := fun mm => slice_from (P := Try.prog) (m := mm) (g := g) (kk := .i64) el40 sz5 (show i ≤ (rowsB l).length by rw [rowsB_len]; exact hi)
          simp only [rowsB_drop] at f3'
          have f35 := fun mm => getG_eq (g := .no) (m := mm) (hok.drop i) (by rw [List.length_drop]; omega)
          have hbad := readL_bad h0
          have hnext := readL_next h0
          have hgle := getOf_le (l.drop i)
          rw [List.length_drop] at hgle
          generalize getOf (l.drop i) = G at f35 hbad hnext hgle
          obtain ⟨v, n⟩ := G
          simp only at f35 hbad hnext hgle
          repeat (first
            | refine runs_seq ?_ | refine runs_block ?_ | refine next_normal ?_ | refine inside_normal ?_ | refine next_exit ?_ | refine inside_exit ?_ | refine inside_other (by decide) ?_ | refine next_ret ?_ | refine inside_ret ?_
            | refine runs_ops_kept ?_ | refine runs_skip ?_ | refine runs_exit ?_ | refine runs_ret ?_
            | refine ops_op rfl rfl (by decide) (by simp only [evOp, opd, constAV, constCell, Ev.get, reduceIte, Nat.reduceEqDiff, reduceCtorEq, evBinN, nilCmp, evBin, evInt, evUn, evConvert, evBuiltin, evLen, evField, evPart, tStr, tInt, tElem, tArr, tBool, tAgg, tField, Try.underlying3, Try.underlying4, Try.underlying5, Try.underlying9, Try.underlying26, Try.underlying29, Try.underlying34, Try.underlying40, Try.underlying45, Try.underlying56, Try.underlying134, List.zipWith, Option.map_some, Option.map_none, List.length_cons, List.length_nil, ne_eq, Int.reduceEq, not_false_eq_true, and_self, and_true, true_and, sz5, sz3, Option.getD_some, isNil, load5, load3, mk40_0, mk40_1, mk56_0, mk56_1, mk56_2, rowsB_len, rowsI_len, evCall, List.size_toArray, List.append_nil, List.nil_append, List.map_cons, List.map_nil, argAV, argCell, List.toList_toArray, fieldTy, f3', table_hit, f35]; rfl) (fun h => by first | rfl | (simp at h; done)) ?_
            | refine ops_yes rfl rfl (by simp only [Ev.get, reduceIte, Nat.reduceEqDiff, sz5, sz3, Option.getD_some, isNil, load5, load3, mk40_0, mk40_1, mk56_0, mk56_1, mk56_2, rowsB_len, rowsI_len, f3', table_hit, f35]; first | done | rfl) rfl (by decide) (by simp only [evOp, opd, constAV, constCell, Ev.get, reduceIte, Nat.reduceEqDiff, reduceCtorEq, evBinN, nilCmp, evBin, evInt, evUn, evConvert, evBuiltin, evLen, evField, evPart, tStr, tInt, tElem, tArr, tBool, tAgg, tField, Try.underlying3, Try.underlying4, Try.underlying5, Try.underlying9, Try.underlying26, Try.underlying29, Try.underlying34, Try.underlying40, Try.underlying45, Try.underlying56, Try.underlying134, List.zipWith, Option.map_some, Option.map_none, List.length_cons, List.length_nil, ne_eq, Int.reduceEq, not_false_eq_true, and_self, and_true, true_and, sz5, sz3, Option.getD_some, isNil, load5, load3, mk40_0, mk40_1, mk56_0, mk56_1, mk56_2, rowsB_len, rowsI_len, evCall, List.size_toArray, List.append_nil, List.nil_append, List.map_cons, List.map_nil, argAV, argCell, List.toList_toArray, fieldTy, f3', table_hit, f35]; rfl) (fun h => by first | rfl | (simp at h; done)) ?_
            | refine ops_no rfl rfl (by simp only [Ev.get, reduceIte, Nat.reduceEqDiff, sz5, sz3, Option.getD_some, isNil, load5, load3, mk40_0, mk40_1, mk56_0, mk56_1, mk56_2, rowsB_len, rowsI_len, f3', table_hit, f35]; first | done | rfl) (by decide) rfl (by decide) ?_
            | refine ops_off rfl rfl rfl rfl (by decide) ?_
            | (refine ops_nil ?_; intro e2 h2; simp only [restr, kp40, List.map_cons, List.map_nil, Ev.get, reduceIte, Nat.reduceEqDiff] at h2; subst h2))
          refine runs_cond rfl (fun hc => ?_) (fun hc => ?_)
          · have hn : n = 0 := by have := eq_of_beq hc; omega
            rw [hbad hn] at hread
            have : refReadOf l = ([], 2) := by unfold refReadOf; rw [hread]; rfl
            rw [this]
            repeat (first
              | refine runs_seq ?_ | refine runs_block ?_ | refine next_normal ?_ | refine inside_normal ?_ | refine next_exit ?_ | refine inside_exit ?_ | refine inside_other (by decide) ?_ | refine next_ret ?_ | refine inside_ret ?_
              | refine runs_ops_kept ?_ | refine runs_skip ?_ | refine runs_exit ?_ | refine runs_ret ?_
              | refine ops_op rfl rfl (by decide) (by simp only [evOp, opd, constAV, constCell, Ev.get, reduceIte, Nat.reduceEqDiff, reduceCtorEq, evBinN, nilCmp, evBin, evInt, evUn, evConvert, evBuiltin, evLen, evField, evPart, tStr, tInt, tElem, tArr, tBool, tAgg, tField, Try.underlying3, Try.underlying4, Try.underlying5, Try.underlying9, Try.underlying26, Try.underlying29, Try.underlying34, Try.underlying40, Try.underlying45, Try.underlying56, Try.underlying134, List.zipWith, Option.map_some, Option.map_none, List.length_cons, List.length_nil, ne_eq, Int.reduceEq, not_false_eq_true, and_self, and_true, true_and, sz5, sz3, Option.getD_some, isNil, load5, load3, mk40_0, mk40_1, mk56_0, mk56_1, mk56_2, rowsB_len, rowsI_len, evCall, List.size_toArray, List.append_nil, List.nil_append, List.map_cons, List.map_nil, argAV, argCell, List.toList_toArray, fieldTy]; rfl) (fun h => by first | rfl | (simp at h; done)) ?_
              | refine ops_yes rfl rfl (by simp only [Ev.get, reduceIte, Nat.reduceEqDiff, sz5, sz3, Option.getD_some, isNil, load5, load3, mk40_0, mk40_1, mk56_0, mk56_1, mk56_2, rowsB_len, rowsI_len]; first | done | rfl) rfl (by decide) (by simp only [evOp, opd, constAV, constCell, Ev.get, reduceIte, Nat.reduceEqDiff, reduceCtorEq, evBinN, nilCmp, evBin, evInt, evUn, evConvert, evBuiltin, evLen, evField, evPart, tStr, tInt, tElem, tArr, tBool, tAgg, tField, Try.underlying3, Try.underlying4, Try.underlying5, Try.underlying9, Try.underlying26, Try.underlying29, Try.underlying34, Try.underlying40, Try.underlying45, Try.underlying56, Try.underlying134, List.zipWith, Option.map_some, Option.map_none, List.length_cons, List.length_nil, ne_eq, Int.reduceEq, not_false_eq_true, and_self, and_true, true_and, sz5, sz3, Option.getD_some, isNil, load5, load3, mk40_0, mk40_1, mk56_0, mk56_1, mk56_2, rowsB_len, rowsI_len, evCall, List.size_toArray, List.append_nil, List.nil_append, List.map_cons, List.map_nil, argAV, argCell, List.toList_toArray, fieldTy]; rfl) (fun h => by first | rfl | (simp at h; done)) ?_
              | refine ops_no rfl rfl (by simp only [Ev.get, reduceIte, Nat.reduceEqDiff, sz5, sz3, Option.getD_some, isNil, load5, load3, mk40_0, mk40_1, mk56_0, mk56_1, mk56_2, rowsB_len, rowsI_len]; first | done | rfl) (by decide) rfl (by decide) ?_
              | refine ops_off rfl rfl rfl rfl (by decide) ?_
              | (refine ops_nil ?_; intro e2 h2; simp only [restr, kp40, List.map_cons, List.map_nil, Ev.get, reduceIte, Nat.reduceEqDiff] at h2; subst h2))
            exact leaves_two rfl rfl rfl (fin_grows hG)
          · have hn : n ≠ 0 := by
              rintro rfl
              cases hc
            obtain ⟨g', m'', a1, hG'⟩ := app_int app56 hG (g2 := .full) pre v (by unfold lim; omega)
            have r1 : IntKind.i64.wrap ((i : Int) + (n : Int)) = ((i + n : Nat) : Int) := i64_wrap (n := ((i + n : Nat) : Int)) (by omega) (by omega)
            repeat (first
              | refine runs_seq ?_ | refine runs_block ?_ | refine next_normal ?_ | refine inside_normal ?_ | refine next_exit ?_ | refine inside_exit ?_ | refine inside_other (by decide) ?_ | refine next_ret ?_ | refine inside_ret ?_
              | refine runs_ops_kept ?_ | refine runs_skip ?_ | refine runs_exit ?_ | refine runs_ret ?_
              | refine ops_op rfl rfl (by decide) (by simp only [evOp, opd, constAV, constCell, Ev.get, reduceIte, Nat.reduceEqDiff, reduceCtorEq, evBinN, nilCmp, evBin, evInt, evUn, evConvert, evBuiltin, evLen, evField, evPart, tStr, tInt, tElem, tArr, tBool, tAgg, tField, Try.underlying3, Try.underlying4, Try.underlying5, Try.underlying9, Try.underlying26, Try.underlying29, Try.underlying34, Try.underlying40, Try.underlying45, Try.underlying56, Try.underlying134, List.zipWith, Option.map_some, Option.map_none, List.length_cons, List.length_nil, ne_eq, Int.reduceEq, not_false_eq_true, and_self, and_true, true_and, sz5, sz3, Option.getD_some, isNil, load5, load3, mk40_0, mk40_1, mk56_0, mk56_1, mk56_2, rowsB_len, rowsI_len, evCall, List.size_toArray, List.append_nil, List.nil_append, List.map_cons, List.map_nil, argAV, argCell, List.toList_toArray, fieldTy, a1, r1]; rfl) (fun h => by first | rfl | (simp at h; done)) ?_
              | refine ops_yes rfl rfl (by simp only [Ev.get, reduceIte, Nat.reduceEqDiff, sz5, sz3, Option.getD_some, isNil, load5, load3, mk40_0, mk40_1, mk56_0, mk56_1, mk56_2, rowsB_len, rowsI_len, a1, r1]; first | done | rfl) rfl (by decide) (by simp only [evOp, opd, constAV, constCell, Ev.get, reduceIte, Nat.reduceEqDiff, reduceCtorEq, evBinN, nilCmp, evBin, evInt, evUn, evConvert, evBuiltin, evLen, evField, evPart, tStr, tInt, tElem, tArr, tBool, tAgg, tField, Try.underlying3, Try.underlying4, Try.underlying5, Try.underlying9, Try.underlying26, Try.underlying29, Try.underlying34, Try.underlying40, Try.underlying45, Try.underlying56, Try.underlying134, List.zipWith, Option.map_some, Option.map_none, List.length_cons, List.length_nil, ne_eq, Int.reduceEq, not_false_eq_true, and_self, and_true, true_and, sz5, sz3, Option.getD_some, isNil, load5, load3, mk40_0, mk40_1, mk56_0, mk56_1, mk56_2, rowsB_len, rowsI_len, evCall, List.size_toArray, List.append_nil, List.nil_append, List.map_cons, List.map_nil, argAV, argCell, List.toList_toArray, fieldTy, a1, r1]; rfl) (fun h => by first | rfl | (simp at h; done)) ?_
              | refine ops_no rfl rfl (by simp only [Ev.get, reduceIte, Nat.reduceEqDiff, sz5, sz3, Option.getD_some, isNil, load5, load3, mk40_0, mk40_1, mk56_0, mk56_1, mk56_2, rowsB_len, rowsI_len, a1, r1]; first | done | rfl) (by decide) rfl (by decide) ?_
              | refine ops_off rfl rfl rfl rfl (by decide) ?_
              | (refine ops_nil ?_; intro e2 h2; simp only [restr, kp40, List.map_cons, List.map_nil, Ev.get, reduceIte, Nat.reduceEqDiff] at h2; subst h2))
            refine ⟨l.length - (i + n), by omega, i + n, pre ++ [v], _, _, _, _, _, by omega, ?_, by rw [List.length_append]; simp; omega, hG', rfl, rfl⟩
            rw [hread, hnext hn, List.drop_drop]
            cases readL (l.drop (i + n)) <;> simp
        · have hi1 : i = l.length := by have := of_decide_eq_false hc; omega
          subst hi1
          rw [List.drop_length, readL_nil] at hread
          have : refReadOf l = (pre, 0) := by unfold refReadOf; rw [hread]; simp
          rw [this]
          repeat (first
            | refine runs_seq ?_ | refine runs_block ?_ | refine next_normal ?_ | refine inside_normal ?_ | refine next_exit ?_ | refine inside_exit ?_ | refine inside_other (by decide) ?_ | refine next_ret ?_ | refine inside_ret ?_
            | refine runs_ops_kept ?_ | refine runs_skip ?_ | refine runs_exit ?_ | refine runs_ret ?_
            | refine ops_op rfl rfl (by decide) (by simp only [evOp, opd, constAV, constCell, Ev.get, reduceIte, Nat.reduceEqDiff, reduceCtorEq, evBinN, nilCmp, evBin, evInt, evUn, evConvert, evBuiltin, evLen, evField, evPart, tStr, tInt, tElem, tArr, tBool, tAgg, tField, Try.underlying3, Try.underlying4, Try.underlying5, Try.underlying9, Try.underlying26, Try.underlying29, Try.underlying34, Try.underlying40, Try.underlying45, Try.underlying56, Try.underlying134, List.zipWith, Option.map_some, Option.map_none, List.length_cons, List.length_nil, ne_eq, Int.reduceEq, not_false_eq_true, and_self, and_true, true_and, sz5, sz3, Option.getD_some, isNil, load5, load3, mk40_0, mk40_1, mk56_0, mk56_1, mk56_2, rowsB_len, rowsI_len, evCall, List.size_toArray, List.append_nil, List.nil_append, List.map_cons, List.map_nil, argAV, argCell, List.toList_toArray, fieldTy]; rfl) (fun h => by first | rfl | (simp at h; done)) ?_
            | refine ops_yes rfl rfl (by simp only [Ev.get, reduceIte, Nat.reduceEqDiff, sz5, sz3, Option.getD_some, isNil, load5, load3, mk40_0, mk40_1, mk56_0, mk56_1, mk56_2, rowsB_len, rowsI_len]; first | done | rfl) rfl (by decide) (by simp only [evOp, opd, constAV, constCell, Ev.get, reduceIte, Nat.reduceEqDiff, reduceCtorEq, evBinN, nilCmp, evBin, evInt, evUn, evConvert, evBuiltin, evLen, evField, evPart, tStr, tInt, tElem, tArr, tBool, tAgg, tField, Try.underlying3, Try.underlying4, Try.underlying5, Try.underlying9, Try.underlying26, Try.underlying29, Try.underlying34, Try.underlying40, Try.underlying45, Try.underlying56, Try.underlying134, List.zipWith, Option.map_some, Option.map_none, List.length_cons, List.length_nil, ne_eq, Int.reduceEq, not_false_eq_true, and_self, and_true, true_and, sz5, sz3, Option.getD_some, isNil, load5, load3, mk40_0, mk40_1, mk56_0, mk56_1, mk56_2, rowsB_len, rowsI_len, evCall, List.size_toArray, List.append_nil, List.nil_append, List.map_cons, List.map_nil, argAV, argCell, List.toList_toArray, fieldTy]; rfl) (fun h => by first | rfl | (simp at h; done)) ?_
            | refine ops_no rfl rfl (by simp only [Ev.get, reduceIte, Nat.reduceEqDiff, sz5, sz3, Option.getD_some, isNil, load5, load3, mk40_0, mk40_1, mk56_0, mk56_1, mk56_2, rowsB_len, rowsI_len]; first | done | rfl) (by decide) rfl (by decide) ?_
            | refine ops_off rfl rfl rfl rfl (by decide) ?_
            | (refine ops_nil ?_; intro e2 h2; simp only [restr, kp40, List.map_cons, List.map_nil, Ev.get, reduceIte, Nat.reduceEqDiff] at h2; subst h2))
          exact leaves_two rfl rfl rfl (fin_grows hG)
      · cases h
    · cases h
  · cases h
/-! ### the same numbers? -/
def sameIG : List AV → Mem → Option (AV × Mem)
  | [.lst _ 1 r1, .lst _ 1 r2], m =>
    match unI r1, unI r2 with
    | some l1, some l2 => if l1.length ≤ 4294967296 ∧ l2.length ≤ 4294967296 then some (.v (.bool (decide (l1 = l2))), m) else none
    | _, _ => none
  | _, _ => none
theorem sameIG_eq {m : Mem} {g g2 : Grow} {l l2 : List Int} (h1 : OkI l) (h2 : OkI l2) (hl : l.length ≤ 4294967296) (hl2 : l2.length ≤ 4294967296) : sameIG [.lst g 1 (rowsI l), .lst g2 1 (rowsI l2)] m = some (.v (.bool (decide (l = l2))), m) := by
  simp only [sameIG, unI_rowsI h1, unI_rowsI h2]
  rw [if_pos ⟨hl, hl2⟩]
def kp41 : Nat → Option (List Nat) := fun _ => some [0, 1, 4, 5, 10, 14, 25]
theorem sameI_ok : FunOk Try.prog 41 sameIG := by
  have hC := table_ok (P := Try.prog) (l := []) (by simp)
  refine fun_ok mixed hC Try.func41 rfl kp41 false rfl fun args m r h => ?_
  unfold sameIG at h
  split at h
  · rename_i g1 rows1 g2 rows2
    split at h
    · rename_i l1 l2 hl1 hl2
      obtain ⟨rfl, ok1⟩ := unI_some hl1
      obtain ⟨rfl, ok2⟩ := unI_some hl2
      split at h
      · rename_i hb
        simp only [Option.some.injEq] at h
        subst h
        refine ⟨Nat.le_of_ble_eq_true rfl, ?_⟩
        simp only [entry, List.length_cons, List.length_nil, List.range, List.range.loop, List.zip_cons_cons, List.zip_nil_right]
        repeat (first
          | refine runs_seq ?_ | refine runs_block ?_ | refine next_normal ?_ | refine inside_normal ?_ | refine next_exit ?_ | refine inside_exit ?_ | refine inside_other (by decide) ?_ | refine next_ret ?_ | refine inside_ret ?_
          | refine runs_ops_kept ?_ | refine runs_skip ?_ | refine runs_exit ?_ | refine runs_ret ?_
          | refine ops_op rfl rfl (by decide) (by simp only [evOp, opd, constAV, constCell, Ev.get, reduceIte, Nat.reduceEqDiff, reduceCtorEq, evBinN, nilCmp, evBin, evInt, evUn, evConvert, evBuiltin, evLen, evField, evPart, tStr, tInt, tElem, tArr, tBool, tAgg, tField, Try.underlying3, Try.underlying4, Try.underlying5, Try.underlying9, Try.underlying26, Try.underlying29, Try.underlying34, Try.underlying40, Try.underlying45, Try.underlying56, Try.underlying134, List.zipWith, Option.map_some, Option.map_none, List.length_cons, List.length_nil, ne_eq, Int.reduceEq, not_false_eq_true, and_self, and_true, true_and, sz5, sz3, Option.getD_some, isNil, load5, load3, mk40_0, mk40_1, mk56_0, mk56_1, mk56_2, rowsB_len, rowsI_len, evCall, List.size_toArray, List.append_nil, List.nil_append, List.map_cons, List.map_nil, argAV, argCell, List.toList_toArray, fieldTy]; rfl) (fun h => by first | rfl | (simp at h; done)) ?_
          | refine ops_yes rfl rfl (by simp only [Ev.get, reduceIte, Nat.reduceEqDiff, sz5, sz3, Option.getD_some, isNil, load5, load3, mk40_0, mk40_1, mk56_0, mk56_1, mk56_2, rowsB_len, rowsI_len]; first | done | rfl) rfl (by decide) (by simp only [evOp, opd, constAV, constCell, Ev.get, reduceIte, Nat.reduceEqDiff, reduceCtorEq, evBinN, nilCmp, evBin, evInt, evUn, evConvert, evBuiltin, evLen, evField, evPart, tStr, tInt, tElem, tArr, tBool, tAgg, tField, Try.underlying3, Try.underlying4, Try.underlying5, Try.underlying9, Try.underlying26, Try.underlying29, Try.underlying34, Try.underlying40, Try.underlying45, Try.underlying56, Try.underlying134, List.zipWith, Option.map_some, Option.map_none, List.length_cons, List.length_nil, ne_eq, Int.reduceEq, not_false_eq_true, and_self, and_true, true_and, sz5, sz3, Option.getD_some, isNil, load5, load3, mk40_0, mk40_1, mk56_0, mk56_1, mk56_2, rowsB_len, rowsI_len, evCall, List.size_toArray, List.append_nil, List.nil_append, List.map_cons, List.map_nil, argAV, argCell, List.toList_toArray, fieldTy]; rfl) (fun h => by first | rfl | (simp at h; done)) ?_
          | refine ops_no rfl rfl (by simp only [Ev.get, reduceIte, Nat.reduceEqDiff, sz5, sz3, Option.getD_some, isNil, load5, load3, mk40_0, mk40_1, mk56_0, mk56_1, mk56_2, rowsB_len, rowsI_len]; first | done | rfl) (by decide) rfl (by decide) ?_
          | refine ops_off rfl rfl rfl rfl (by decide) ?_
          | (refine ops_nil ?_; intro e2 h2; simp only [restr, kp41, List.map_cons, List.map_nil, Ev.get, reduceIte, Nat.reduceEqDiff] at h2; subst h2))
        refine runs_cond rfl (fun hc => ?_) (fun hc => ?_)
        · have hne : l1 ≠ l2 := by
            rintro rfl
            simp at hc
          repeat (first
            | refine runs_seq ?_ | refine runs_block ?_ | refine next_normal ?_ | refine inside_normal ?_ | refine next_exit ?_ | refine inside_exit ?_ | refine inside_other (by decide) ?_ | refine next_ret ?_ | refine inside_ret ?_
            | refine runs_ops_kept ?_ | refine runs_skip ?_ | refine runs_exit ?_ | refine runs_ret ?_
            | refine ops_op rfl rfl (by decide) (by simp only [evOp, opd, constAV, constCell, Ev.get, reduceIte, Nat.reduceEqDiff, reduceCtorEq, evBinN, nilCmp, evBin, evInt, evUn, evConvert, evBuiltin, evLen, evField, evPart, tStr, tInt, tElem, tArr, tBool, tAgg, tField, Try.underlying3, Try.underlying4, Try.underlying5, Try.underlying9, Try.underlying26, Try.underlying29, Try.underlying34, Try.underlying40, Try.underlying45, Try.underlying56, Try.underlying134, List.zipWith, Option.map_some, Option.map_none, List.length_cons, List.length_nil, ne_eq, Int.reduceEq, not_false_eq_true, and_self, and_true, true_and, sz5, sz3, Option.getD_some, isNil, load5, load3, mk40_0, mk40_1, mk56_0, mk56_1, mk56_2, rowsB_len, rowsI_len, evCall, List.size_toArray, List.append_nil, List.nil_append, List.map_cons, List.map_nil, argAV, argCell, List.toList_toArray, fieldTy]; rfl) (fun h => by first | rfl | (simp at h; done)) ?_
            | refine ops_yes rfl rfl (by simp only [Ev.get, reduceIte, Nat.reduceEqDiff, sz5, sz3, Option.getD_some, isNil, load5, load3, mk40_0, mk40_1, mk56_0, mk56_1, mk56_2, rowsB_len, rowsI_len]; first | done | rfl) rfl (by decide) (by simp only [evOp, opd, constAV, constCell, Ev.get, reduceIte, Nat.reduceEqDiff, reduceCtorEq, evBinN, nilCmp, evBin, evInt, evUn, evConvert, evBuiltin, evLen, evField, evPart, tStr, tInt, tElem, tArr, tBool, tAgg, tField, Try.underlying3, Try.underlying4, Try.underlying5, Try.underlying9, Try.underlying26, Try.underlying29, Try.underlying34, Try.underlying40, Try.underlying45, Try.underlying56, Try.underlying134, List.zipWith, Option.map_some, Option.map_none, List.length_cons, List.length_nil, ne_eq, Int.reduceEq, not_false_eq_true, and_self, and_true, true_and, sz5, sz3, Option.getD_some, isNil, load5, load3, mk40_0, mk40_1, mk56_0, mk56_1, mk56_2, rowsB_len, rowsI_len, evCall, List.size_toArray, List.append_nil, List.nil_append, List.map_cons, List.map_nil, argAV, argCell, List.toList_toArray, fieldTy]; rfl) (fun h => by first | rfl | (simp at h; done)) ?_
            | refine ops_no rfl rfl (by simp only [Ev.get, reduceIte, Nat.reduceEqDiff, sz5, sz3, Option.getD_some, isNil, load5, load3, mk40_0, mk40_1, mk56_0, mk56_1, mk56_2, rowsB_len, rowsI_len]; first | done | rfl) (by decide) rfl (by decide) ?_
            | refine ops_off rfl rfl rfl rfl (by decide) ?_
            | (refine ops_nil ?_; intro e2 h2; simp only [restr, kp41, List.map_cons, List.map_nil, Ev.get, reduceIte, Nat.reduceEqDiff] at h2; subst h2))
          exact leaves_v rfl (by rw [decide_eq_false hne]; rfl)
        · have hlen : l1.length = l2.length := by
            have : ((l1.length : Int) != (l2.length : Int)) = false := hc
            simp at this
            omega
          repeat (first
            | refine runs_seq ?_ | refine runs_block ?_ | refine next_normal ?_ | refine inside_normal ?_ | refine next_exit ?_ | refine inside_exit ?_ | refine inside_other (by decide) ?_ | refine next_ret ?_ | refine inside_ret ?_
            | refine runs_ops_kept ?_ | refine runs_skip ?_ | refine runs_exit ?_ | refine runs_ret ?_
            | refine ops_op rfl rfl (by decide) (by simp only [evOp, opd, constAV, constCell, Ev.get, reduceIte, Nat.reduceEqDiff, reduceCtorEq, evBinN, nilCmp, evBin, evInt, evUn, evConvert, evBuiltin, evLen, evField, evPart, tStr, tInt, tElem, tArr, tBool, tAgg, tField, Try.underlying3, Try.underlying4, Try.underlying5, Try.underlying9, Try.underlying26, Try.underlying29, Try.underlying34, Try.underlying40, Try.underlying45, Try.underlying56, Try.underlying134, List.zipWith, Option.map_some, Option.map_none, List.length_cons, List.length_nil, ne_eq, Int.reduceEq, not_false_eq_true, and_self, and_true, true_and, sz5, sz3, Option.getD_some, isNil, load5, load3, mk40_0, mk40_1, mk56_0, mk56_1, mk56_2, rowsB_len, rowsI_len, evCall, List.size_toArray, List.append_nil, List.nil_append, List.map_cons, List.map_nil, argAV, argCell, List.toList_toArray, fieldTy]; rfl) (fun h => by first | rfl | (simp at h; done)) ?_
            | refine ops_yes rfl rfl (by simp only [Ev.get, reduceIte, Nat.reduceEqDiff, sz5, sz3, Option.getD_some, isNil, load5, load3, mk40_0, mk40_1, mk56_0, mk56_1, mk56_2, rowsB_len, rowsI_len]; first | done | rfl) rfl (by decide) (by simp only [evOp, opd, constAV, constCell, Ev.get, reduceIte, Nat.reduceEqDiff, reduceCtorEq, evBinN, nilCmp, evBin, evInt, evUn, evConvert, evBuiltin, evLen, evField, evPart, tStr, tInt, tElem, tArr, tBool, tAgg, tField, Try.underlying3, Try.underlying4, Try.underlying5, Try.underlying9, Try.underlying26, Try.underlying29, Try.underlying34, Try.underlying40, Try.underlying45, Try.underlying56, Try.underlying134, List.zipWith, Option.map_some, Option.map_none, List.length_cons, List.length_nil, ne_eq, Int.reduceEq, not_false_eq_true, and_self, and_true, true_and, sz5, sz3, Option.getD_some, isNil, load5, load3, mk40_0, mk40_1, mk56_0, mk56_1, mk56_2, rowsB_len, rowsI_len, evCall, List.size_toArray, List.append_nil, List.nil_append, List.map_cons, List.map_nil, argAV, argCell, List.toList_toArray, fieldTy]; rfl) (fun h => by first | rfl | (simp at h; done)) ?_
            | refine ops_no rfl rfl (by simp only [Ev.get, reduceIte, Nat.reduceEqDiff, sz5, sz3, Option.getD_some, isNil, load5, load3, mk40_0, mk40_1, mk56_0, mk56_1, mk56_2, rowsB_len, rowsI_len]; first | done | rfl) (by decide) rfl (by decide) ?_
            | refine ops_off rfl rfl rfl rfl (by decide) ?_
            | (refine ops_nil ?_; intro e2 h2; simp only [restr, kp41, List.map_cons, List.map_nil, Ev.get, reduceIte, Nat.reduceEqDiff] at h2; subst h2))
          refine runs_loop (fun k e m' => ∃ (i : Nat) (x10 x14 x25 : AV), i ≤ l1.length ∧ (∀ j, j < i → l1.getD j 0 = l2.getD j 0) ∧ m = m' ∧ k = l1.length - i ∧
            e = [(0, AV.lst g1 1 (rowsI l1)), (1, .lst g2 1 (rowsI l2)), (4, .v (.bool false)), (5, .v (.int .i64 (i : Int))), (10, x10), (14, x14), (25, x25)]) (k := l1.length) ⟨0, _, _, _, Nat.zero_le _, fun j hj => absurd hj (Nat.not_lt_zero _), rfl, rfl, rfl⟩ ?_
          rintro k e m' ⟨i, x10, x14, x25, hi, heq, rfl, rfl, rfl⟩
          repeat (first
            | refine runs_seq ?_ | refine runs_block ?_ | refine next_normal ?_ | refine inside_normal ?_ | refine next_exit ?_ | refine inside_exit ?_ | refine inside_other (by decide) ?_ | refine next_ret ?_ | refine inside_ret ?_
            | refine runs_ops_kept ?_ | refine runs_skip ?_ | refine runs_exit ?_ | refine runs_ret ?_
            | refine ops_op rfl rfl (by decide) (by simp only [evOp, opd, constAV, constCell, Ev.get, reduceIte, Nat.reduceEqDiff, reduceCtorEq, evBinN, nilCmp, evBin, evInt, evUn, evConvert, evBuiltin, evLen, evField, evPart, tStr, tInt, tElem, tArr, tBool, tAgg, tField, Try.underlying3, Try.underlying4, Try.underlying5, Try.underlying9, Try.underlying26, Try.underlying29, Try.underlying34, Try.underlying40, Try.underlying45, Try.underlying56, Try.underlying134, List.zipWith, Option.map_some, Option.map_none, List.length_cons, List.length_nil, ne_eq, Int.reduceEq, not_false_eq_true, and_self, and_true, true_and, sz5, sz3, Option.getD_some, isNil, load5, load3, mk40_0, mk40_1, mk56_0, mk56_1, mk56_2, rowsB_len, rowsI_len, evCall, List.size_toArray, List.append_nil, List.nil_append, List.map_cons, List.map_nil, argAV, argCell, List.toList_toArray, fieldTy]; rfl) (fun h => by first | rfl | (simp at h; done)) ?_
            | refine ops_yes rfl rfl (by simp only [Ev.get, reduceIte, Nat.reduceEqDiff, sz5, sz3, Option.getD_some, isNil, load5, load3, mk40_0, mk40_1, mk56_0, mk56_1, mk56_2, rowsB_len, rowsI_len]; first | done | rfl) rfl (by decide) (by simp only [evOp, opd, constAV, constCell, Ev.get, reduceIte, Nat.reduceEqDiff, reduceCtorEq, evBinN, nilCmp, evBin, evInt, evUn, evConvert, evBuiltin, evLen, evField, evPart, tStr, tInt, tElem, tArr, tBool, tAgg, tField, Try.underlying3, Try.underlying4, Try.underlying5, Try.underlying9, Try.underlying26, Try.underlying29, Try.underlying34, Try.underlying40, Try.underlying45, Try.underlying56, Try.underlying134, List.zipWith, Option.map_some, Option.map_none, List.length_cons, List.length_nil, ne_eq, Int.reduceEq, not_false_eq_true, and_self, and_true, true_and, sz5, sz3, Option.getD_some, isNil, load5, load3, mk40_0, mk40_1, mk56_0, mk56_1, mk56_2, rowsB_len, rowsI_len, evCall, List.size_toArray, List.append_nil, List.nil_append, List.map_cons, List.map_nil, argAV, argCell, List.toList_toArray, fieldTy]; rfl) (fun h => by first | rfl | (simp at h; done)) ?_
            | refine ops_no rfl rfl (by simp only [Ev.get, reduceIte, Nat.reduceEqDiff, sz5, sz3, Option.getD_some, isNil, load5, load3, mk40_0, mk40_1, mk56_0, mk56_1, mk56_2, rowsB_len, rowsI_len]; first | done | rfl) (by decide) rfl (by decide) ?_
            | refine ops_off rfl rfl rfl rfl (by decide) ?_
            | (refine ops_nil ?_; intro e2 h2; simp only [restr, kp41, List.map_cons, List.map_nil, Ev.get, reduceIte, Nat.reduceEqDiff] at h2; subst h2))
          refine runs_cond rfl (fun hc => ?_) (fun hc => ?_)
          · have hi1 : i < l1.length := by have := of_decide_eq_true hc; omega
            repeat (first
              | refine runs_seq ?_ | refine runs_block ?_ | refine next_normal ?_ | refine inside_normal ?_ | refine next_exit ?_ | refine inside_exit ?_ | refine inside_other (by decide) ?_ | refine next_ret ?_ | refine inside_ret ?_
              | refine runs_ops_kept ?_ | refine runs_skip ?_ | refine runs_exit ?_ | refine runs_ret ?_
              | refine ops_op rfl rfl (by decide) (by simp only [evOp, opd, constAV, constCell, Ev.get, reduceIte, Nat.reduceEqDiff, reduceCtorEq, evBinN, nilCmp, evBin, evInt, evUn, evConvert, evBuiltin, evLen, evField, evPart, tStr, tInt, tElem, tArr, tBool, tAgg, tField, Try.underlying3, Try.underlying4, Try.underlying5, Try.underlying9, Try.underlying26, Try.underlying29, Try.underlying34, Try.underlying40, Try.underlying45, Try.underlying56, Try.underlying134, List.zipWith, Option.map_some, Option.map_none, List.length_cons, List.length_nil, ne_eq, Int.reduceEq, not_false_eq_true, and_self, and_true, true_and, sz5, sz3, Option.getD_some, isNil, load5, load3, mk40_0, mk40_1, mk56_0, mk56_1, mk56_2, rowsB_len, rowsI_len, evCall, List.size_toArray, List.append_nil, List.nil_append, List.map_cons, List.map_nil, argAV, argCell, List.toList_toArray, fieldTy]; rfl) (fun h => by first | rfl | (simp at h; done)) ?_
              | refine ops_yes rfl rfl (by simp only [Ev.get, reduceIte, Nat.reduceEqDiff, sz5, sz3, Option.getD_some, isNil, load5, load3, mk40_0, mk40_1, mk56_0, mk56_1, mk56_2, rowsB_len, rowsI_len]; first | done | rfl) rfl (by decide) (by simp only [evOp, opd, constAV, constCell, Ev.get, reduceIte, Nat.reduceEqDiff, reduceCtorEq, evBinN, nilCmp, evBin, evInt, evUn, evConvert, evBuiltin, evLen, evField, evPart, tStr, tInt, tElem, tArr, tBool, tAgg, tField, Try.underlying3, Try.underlying4, Try.underlying5, Try.underlying9, Try.underlying26, Try.underlying29, Try.underlying34, Try.underlying40, Try.underlying45, Try.underlying56, Try.underlying134, List.zipWith, Option.map_some, Option.map_none, List.length_cons, List.length_nil, ne_eq, Int.reduceEq, not_false_eq_true, and_self, and_true, true_and, sz5, sz3, Option.getD_some, isNil, load5, load3, mk40_0, mk40_1, mk56_0, mk56_1, mk56_2, rowsB_len, rowsI_len, evCall, List.size_toArray, List.append_nil, List.nil_append, List.map_cons, List.map_nil, argAV, argCell, List.toList_toArray, fieldTy]; rfl) (fun h => by first | rfl | (simp at h; done)) ?_
              | refine ops_no rfl rfl (by simp only [Ev.get, reduceIte, Nat.reduceEqDiff, sz5, sz3, Option.getD_some, isNil, load5, load3, mk40_0, mk40_1, mk56_0, mk56_1, mk56_2, rowsB_len, rowsI_len]; first | done | rfl) (by decide) rfl (by decide) ?_
              | refine ops_off rfl rfl rfl rfl (by decide) ?_
              | (refine ops_nil ?_; intro e2 h2; simp only [restr, kp41, List.map_cons, List.map_nil, Ev.get, reduceIte, Nat.reduceEqDiff] at h2; subst h2))
            have f1 := at56 (g := g1) (kk := .i64) hi1
            have f2 := at56 (g := g2) (kk := .i64) (hlen ▸ hi1 : i < l2.length)
            refine runs_ops_drawn_kept (by kernel_rfl) ?_
            repeat (first
              | refine runs_seq ?_ | refine runs_block ?_ | refine next_normal ?_ | refine inside_normal ?_ | refine next_exit ?_ | refine inside_exit ?_ | refine inside_other (by decide) ?_ | refine next_ret ?_ | refine inside_ret ?_
              | refine runs_ops_kept ?_ | refine runs_skip ?_ | refine runs_exit ?_ | refine runs_ret ?_
              | refine ops_op rfl rfl (by decide) (by simp only [evOp, opd, constAV, constCell, Ev.get, reduceIte, Nat.reduceEqDiff, reduceCtorEq, evBinN, nilCmp, evBin, evInt, evUn, evConvert, evBuiltin, evLen, evField, evPart, tStr, tInt, tElem, tArr, tBool, tAgg, tField, Try.underlying3, Try.underlying4, Try.underlying5, Try.underlying9, Try.underlying26, Try.underlying29, Try.underlying34, Try.underlying40, Try.underlying45, Try.underlying56, Try.underlying134, List.zipWith, Option.map_some, Option.map_none, List.length_cons, List.length_nil, ne_eq, Int.reduceEq, not_false_eq_true, and_self, and_true, true_and, sz5, sz3, Option.getD_some, isNil, load5, load3, mk40_0, mk40_1, mk56_0, mk56_1, mk56_2, rowsB_len, rowsI_len, evCall, List.size_toArray, List.append_nil, List.nil_append, List.map_cons, List.map_nil, argAV, argCell, List.toList_toArray, fieldTy, f1, f2]; rfl) (fun h => by first | rfl | (simp at h; done)) ?_
              | refine ops_yes rfl rfl (by simp only [Ev.get, reduceIte, Nat.reduceEqDiff, sz5, sz3, Option.getD_some, isNil, load5, load3, mk40_0, mk40_1, mk56_0, mk56_1, mk56_2, rowsB_len, rowsI_len, f1, f2]; first | done | rfl) rfl (by decide) (by simp only [evOp, opd, constAV, constCell, Ev.get, reduceIte, Nat.reduceEqDiff, reduceCtorEq, evBinN, nilCmp, evBin, evInt, evUn, evConvert, evBuiltin, evLen, evField, evPart, tStr, tInt, tElem, tArr, tBool, tAgg, tField, Try.underlying3, Try.underlying4, Try.underlying5, Try.underlying9, Try.underlying26, Try.underlying29, Try.underlying34, Try.underlying40, Try.underlying45, Try.underlying56, Try.underlying134, List.zipWith, Option.map_some, Option.map_none, List.length_cons, List.length_nil, ne_eq, Int.reduceEq, not_false_eq_true, and_self, and_true, true_and, sz5, sz3, Option.getD_some, isNil, load5, load3, mk40_0, mk40_1, mk56_0, mk56_1, mk56_2, rowsB_len, rowsI_len, evCall, List.size_toArray, List.append_nil, List.nil_append, List.map_cons, List.map_nil, argAV, argCell, List.toList_toArray, fieldTy, f1, f2]; rfl) (fun h => by first | rfl | (simp at h; done)) ?_
              | refine ops_no rfl rfl (by simp only [Ev.get, reduceIte, Nat.reduceEqDiff, sz5, sz3, Option.getD_some, isNil, load5, load3, mk40_0, mk40_1, mk56_0, mk56_1, mk56_2, rowsB_len, rowsI_len, f1, f2]; first | done | rfl) (by decide) rfl (by decide) ?_
              | refine ops_off rfl rfl rfl rfl (by decide) ?_
              | (refine ops_nil ?_; intro e2 h2; simp only [restr, kp41, List.map_cons, List.map_nil, Ev.get, reduceIte, Nat.reduceEqDiff] at h2; subst h2))
            refine runs_cond rfl (fun hc => ?_) (fun hc => ?_)
            · have hne : l1 ≠ l2 := by
                rintro rfl
                simp at hc
              repeat (first
                | refine runs_seq ?_ | refine runs_block ?_ | refine next_normal ?_ | refine inside_normal ?_ | refine next_exit ?_ | refine inside_exit ?_ | refine inside_other (by decide) ?_ | refine next_ret ?_ | refine inside_ret ?_
                | refine runs_ops_kept ?_ | refine runs_skip ?_ | refine runs_exit ?_ | refine runs_ret ?_
                | refine ops_op rfl rfl (by decide) (by simp only [evOp, opd, constAV, constCell, Ev.get, reduceIte, Nat.reduceEqDiff, reduceCtorEq, evBinN, nilCmp, evBin, evInt, evUn, evConvert, evBuiltin, evLen, evField, evPart, tStr, tInt, tElem, tArr, tBool, tAgg, tField, Try.underlying3, Try.underlying4, Try.underlying5, Try.underlying9, Try.underlying26, Try.underlying29, Try.underlying34, Try.underlying40, Try.underlying45, Try.underlying56, Try.underlying134, List.zipWith, Option.map_some, Option.map_none, List.length_cons, List.length_nil, ne_eq, Int.reduceEq, not_false_eq_true, and_self, and_true, true_and, sz5, sz3, Option.getD_some, isNil, load5, load3, mk40_0, mk40_1, mk56_0, mk56_1, mk56_2, rowsB_len, rowsI_len, evCall, List.size_toArray, List.append_nil, List.nil_append, List.map_cons, List.map_nil, argAV, argCell, List.toList_toArray, fieldTy]; rfl) (fun h => by first | rfl | (simp at h; done)) ?_
                | refine ops_yes rfl rfl (by simp only [Ev.get, reduceIte, Nat.reduceEqDiff, sz5, sz3, Option.getD_some, isNil, load5, load3, mk40_0, mk40_1, mk56_0, mk56_1, mk56_2, rowsB_len, rowsI_len]; first | done | rfl) rfl (by decide) (by simp only [evOp, opd, constAV, constCell, Ev.get, reduceIte, Nat.reduceEqDiff, reduceCtorEq, evBinN, nilCmp, evBin, evInt, evUn, evConvert, evBuiltin, evLen, evField, evPart, tStr, tInt, tElem, tArr, tBool, tAgg, tField, Try.underlying3, Try.underlying4, Try.underlying5, Try.underlying9, Try.underlying26, Try.underlying29, Try.underlying34, Try.underlying40, Try.underlying45, Try.underlying56, Try.underlying134, List.zipWith, Option.map_some, Option.map_none, List.length_cons, List.length_nil, ne_eq, Int.reduceEq, not_false_eq_true, and_self, and_true, true_and, sz5, sz3, Option.getD_some, isNil, load5, load3, mk40_0, mk40_1, mk56_0, mk56_1, mk56_2, rowsB_len, rowsI_len, evCall, List.size_toArray, List.append_nil, List.nil_append, List.map_cons, List.map_nil, argAV, argCell, List.toList_toArray, fieldTy]; rfl) (fun h => by first | rfl | (simp at h; done)) ?_
                | refine ops_no rfl rfl (by simp only [Ev.get, reduceIte, Nat.reduceEqDiff, sz5, sz3, Option.getD_some, isNil, load5, load3, mk40_0, mk40_1, mk56_0, mk56_1, mk56_2, rowsB_len, rowsI_len]; first | done | rfl) (by decide) rfl (by decide) ?_
                | refine ops_off rfl rfl rfl rfl (by decide) ?_
                | (refine ops_nil ?_; intro e2 h2; simp only [restr, kp41, List.map_cons, List.map_nil, Ev.get, reduceIte, Nat.reduceEqDiff] at h2; subst h2))
              exact leaves_v rfl (by rw [decide_eq_false hne]; rfl)
            · have he : l1.getD i 0 = l2.getD i 0 := by
                have : ((l1.getD i 0) != (l2.getD i 0)) = false := hc
                simpa only [bne_eq_false_iff_eq] using this
              have r1 : IntKind.i64.wrap ((i : Int) + 1) = ((i + 1 : Nat) : Int) := i64_wrap (n := ((i + 1 : Nat) : Int)) (by omega) (by omega)
              repeat (first
                | refine runs_seq ?_ | refine runs_block ?_ | refine next_normal ?_ | refine inside_normal ?_ | refine next_exit ?_ | refine inside_exit ?_ | refine inside_other (by decide) ?_ | refine next_ret ?_ | refine inside_ret ?_
                | refine runs_ops_kept ?_ | refine runs_skip ?_ | refine runs_exit ?_ | refine runs_ret ?_
                | refine ops_op rfl rfl (by decide) (by simp only [evOp, opd, constAV, constCell, Ev.get, reduceIte, Nat.reduceEqDiff, reduceCtorEq, evBinN, nilCmp, evBin, evInt, evUn, evConvert, evBuiltin, evLen, evField, evPart, tStr, tInt, tElem, tArr, tBool, tAgg, tField, Try.underlying3, Try.underlying4, Try.underlying5, Try.underlying9, Try.underlying26, Try.underlying29, Try.underlying34, Try.underlying40, Try.underlying45, Try.underlying56, Try.underlying134, List.zipWith, Option.map_some, Option.map_none, List.length_cons, List.length_nil, ne_eq, Int.reduceEq, not_false_eq_true, and_self, and_true, true_and, sz5, sz3, Option.getD_some, isNil, load5, load3, mk40_0, mk40_1, mk56_0, mk56_1, mk56_2, rowsB_len, rowsI_len, evCall, List.size_toArray, List.append_nil, List.nil_append, List.map_cons, List.map_nil, argAV, argCell, List.toList_toArray, fieldTy, r1]; rfl) (fun h => by first | rfl | (simp at h; done)) ?_
                | refine ops_yes rfl rfl (by simp only [Ev.get, reduceIte, Nat.reduceEqDiff, sz5, sz3, Option.getD_some, isNil, load5, load3, mk40_0, mk40_1, mk56_0, mk56_1, mk56_2, rowsB_len, rowsI_len, r1]; first | done | rfl) rfl (by decide) (by simp only [evOp, opd, constAV, constCell, Ev.get, reduceIte, Nat.reduceEqDiff, reduceCtorEq, evBinN, nilCmp, evBin, evInt, evUn, evConvert, evBuiltin, evLen, evField, evPart, tStr, tInt, tElem, tArr, tBool, tAgg, tField, Try.underlying3, Try.underlying4, Try.underlying5, Try.underlying9, Try.underlying26, Try.underlying29, Try.underlying34, Try.underlying40, Try.underlying45, Try.underlying56, Try.underlying134, List.zipWith, Option.map_some, Option.map_none, List.length_cons, List.length_nil, ne_eq, Int.reduceEq, not_false_eq_true, and_self, and_true, true_and, sz5, sz3, Option.getD_some, isNil, load5, load3, mk40_0, mk40_1, mk56_0, mk56_1, mk56_2, rowsB_len, rowsI_len, evCall, List.size_toArray, List.append_nil, List.nil_append, List.map_cons, List.map_nil, argAV, argCell, List.toList_toArray, fieldTy, r1]; rfl) (fun h => by first | rfl | (simp at h; done)) ?_
                | refine ops_no rfl rfl (by simp only [Ev.get, reduceIte, Nat.reduceEqDiff, sz5, sz3, Option.getD_some, isNil, load5, load3, mk40_0, mk40_1, mk56_0, mk56_1, mk56_2, rowsB_len, rowsI_len, r1]; first | done | rfl) (by decide) rfl (by decide) ?_
                | refine ops_off rfl rfl rfl rfl (by decide) ?_
                | (refine ops_nil ?_; intro e2 h2; simp only [restr, kp41, List.map_cons, List.map_nil, Ev.get, reduceIte, Nat.reduceEqDiff] at h2; subst h2))
              exact ⟨l1.length - (i + 1), by omega, i + 1, _, _, _, hi1, fun j hj => by
                rcases Nat.lt_succ_iff_lt_or_eq.1 hj with hj | rfl
                · exact heq j hj
                · exact he, rfl, rfl, rfl⟩
          · have hi1 : i = l1.length := by have := of_decide_eq_false hc; omega
            have he : l1 = l2 := getD_ext hlen (by rw [← hi1]; exact heq)
            repeat (first
              | refine runs_seq ?_ | refine runs_block ?_ | refine next_normal ?_ | refine inside_normal ?_ | refine next_exit ?_ | refine inside_exit ?_ | refine inside_other (by decide) ?_ | refine next_ret ?_ | refine inside_ret ?_
              | refine runs_ops_kept ?_ | refine runs_skip ?_ | refine runs_exit ?_ | refine runs_ret ?_
              | refine ops_op rfl rfl (by decide) (by simp only [evOp, opd, constAV, constCell, Ev.get, reduceIte, Nat.reduceEqDiff, reduceCtorEq, evBinN, nilCmp, evBin, evInt, evUn, evConvert, evBuiltin, evLen, evField, evPart, tStr, tInt, tElem, tArr, tBool, tAgg, tField, Try.underlying3, Try.underlying4, Try.underlying5, Try.underlying9, Try.underlying26, Try.underlying29, Try.underlying34, Try.underlying40, Try.underlying45, Try.underlying56, Try.underlying134, List.zipWith, Option.map_some, Option.map_none, List.length_cons, List.length_nil, ne_eq, Int.reduceEq, not_false_eq_true, and_self, and_true, true_and, sz5, sz3, Option.getD_some, isNil, load5, load3, mk40_0, mk40_1, mk56_0, mk56_1, mk56_2, rowsB_len, rowsI_len, evCall, List.size_toArray, List.append_nil, List.nil_append, List.map_cons, List.map_nil, argAV, argCell, List.toList_toArray, fieldTy]; rfl) (fun h => by first | rfl | (simp at h; done)) ?_
              | refine ops_yes rfl rfl (by simp only [Ev.get, reduceIte, Nat.reduceEqDiff, sz5, sz3, Option.getD_some, isNil, load5, load3, mk40_0, mk40_1, mk56_0, mk56_1, mk56_2, rowsB_len, rowsI_len]; first | done | rfl) rfl (by decide) (by simp only [evOp, opd, constAV, constCell, Ev.get, reduceIte, Nat.reduceEqDiff, reduceCtorEq, evBinN, nilCmp, evBin, evInt, evUn, evConvert, evBuiltin, evLen, evField, evPart, tStr, tInt, tElem, tArr, tBool, tAgg, tField, Try.underlying3, Try.underlying4, Try.underlying5, Try.underlying9, Try.underlying26, Try.underlying29, Try.underlying34, Try.underlying40, Try.underlying45, Try.underlying56, Try.underlying134, List.zipWith, Option.map_some, Option.map_none, List.length_cons, List.length_nil, ne_eq, Int.reduceEq, not_false_eq_true, and_self, and_true, true_and, sz5, sz3, Option.getD_some, isNil, load5, load3, mk40_0, mk40_1, mk56_0, mk56_1, mk56_2, rowsB_len, rowsI_len, evCall, List.size_toArray, List.append_nil, List.nil_append, List.map_cons, List.map_nil, argAV, argCell, List.toList_toArray, fieldTy]; rfl) (fun h => by first | rfl | (simp at h; done)) ?_
              | refine ops_no rfl rfl (by simp only [Ev.get, reduceIte, Nat.reduceEqDiff, sz5, sz3, Option.getD_some, isNil, load5, load3, mk40_0, mk40_1, mk56_0, mk56_1, mk56_2, rowsB_len, rowsI_len]; first | done | rfl) (by decide) rfl (by decide) ?_
              | refine ops_off rfl rfl rfl rfl (by decide) ?_
              | (refine ops_nil ?_; intro e2 h2; simp only [restr, kp41, List.map_cons, List.map_nil, Ev.get, reduceIte, Nat.reduceEqDiff] at h2; subst h2))
            exact leaves_v rfl (by rw [decide_eq_true he]; rfl)
      · cases h
    · cases h
  · cases h
end Go.Proofs.Ytbehhlbcffbkoaa.Ev
