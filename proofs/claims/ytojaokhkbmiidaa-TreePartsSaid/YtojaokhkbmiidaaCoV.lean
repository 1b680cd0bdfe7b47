/- Trees: where those below a node begin; lists of numbers held against each other. -/
import Derived.Test.YtojaokhkbmiidaaCoU
namespace Go.Proofs.Ytojaokhkbmiidaa.Ev
open Go Go.Proofs
set_option maxRecDepth 10000
set_option maxHeartbeats 4000000
set_option linter.unusedVariables false
set_option linter.unusedSimpArgs false
attribute [local irreducible] Next Inside Runs Ops table
def belowW (l : List Nd) : Nat → Int → List Int
  | 0, _ => []
  | k + 1, next => next :: belowW l k (endOf l next)
theorem belowW_len (l : List Nd) : ∀ (k : Nat) (n : Int), (belowW l k n).length = k
  | 0, _ => rfl
  | k + 1, n => by simp [belowW, belowW_len l k]
theorem belowW_okI {l : List Nd} (hl : l.length ≤ big40) : ∀ (k : Nat) (n : Int), inI n → OkI (belowW l k n)
  | 0, _, _ => .nil
  | k + 1, n, h => by
    intro b hb
    rcases List.mem_cons.1 hb with rfl | hb
    · exact h
    · refine belowW_okI hl k _ ?_ b hb
      unfold big40 at hl
      unfold inI
      rcases endOf_in l n with h | h <;> omega
def arAt (l : List Nd) (at_ : Int) : Nat := (arityOf (l.getD at_.toNat nd0).op).toNat
def belowOf (l : List Nd) (at_ : Int) : List Int := if endOf l at_ < 0 then [] else belowW l (arAt l at_) (at_ + 1)
def belowG : List AV → Mem → Option (AV × Mem)
  | [.lst _ 7 rows, .v (.int .i64 at_)], m =>
    match unN rows with
    | some l => if l.length ≤ big40 ∧ inI at_ then some (.lst .no 1 (rowsI (belowOf l at_)), m) else none
    | none => none
  | _, _ => none
theorem belowG_eq {m : Mem} {g : Grow} {l : List Nd} {at_ : Int} (h : l.length ≤ big40) (h2 : inI at_) : belowG [.lst g 7 (rowsN l), .v (.int .i64 at_)] m = some (.lst .no 1 (rowsI (belowOf l at_)), m) := by
  simp only [belowG, unN_rowsN]
  rw [if_pos ⟨h, h2⟩]
theorem belowOf_okI {l : List Nd} (hl : l.length ≤ big40) {at_ : Int} (h : inI at_) : OkI (belowOf l at_) ∧ (belowOf l at_).length ≤ 2 := by
  unfold belowOf
  split
  · exact ⟨.nil, by decide⟩
  · rename_i hn
    rcases endOf_in l at_ with h1 | h1
    · omega
    · refine ⟨belowW_okI hl _ _ ?_, ?_⟩
      · unfold big40 at hl
        unfold inI at h ⊢
        omega
      · rw [belowW_len]
        unfold arAt
        have := arity_in (l.getD at_.toNat nd0).op
        omega
def kpBelow : Nat → Option (List Nat) := fun _ => some [0, 1, 4, 5, 6, 10, 18, 19, 20]
def tabBelow : List (FuncId × (List AV → Mem → Option (AV × Mem))) := [(10, endG), (13, arityG)]
theorem below_ok : FunOk Try.prog 11 belowG := by
  have hC := table_ok (P := Try.prog) (l := tabBelow) (table_more end_ok (table_more arity_ok table_nil))
  have t1 := fun args mm => table_at (l := tabBelow) (f := 10) (args := args) (m := mm) rfl
  have t2 := fun args mm => table_at (l := tabBelow) (f := 13) (args := args) (m := mm) rfl
  refine fun_ok mixed hC Try.func11 rfl kpBelow false rfl fun args m r h => ?_
  unfold belowG at h
  split at h
  · rename_i g rows at_
    split at h
    · rename_i l hl0
      obtain rfl := unN_some hl0
      split at h
      · rename_i hb
        obtain ⟨hlen, hat⟩ := hb
        have hlen' := hlen
        simp only [Option.some.injEq] at h
        subst h
        unfold big40 at hlen
        refine ⟨Nat.le_of_ble_eq_true rfl, ?_⟩
        simp only [entry, List.length_cons, List.length_nil, List.range, List.range.loop, List.zip_cons_cons, List.zip_nil_right]
        have f1 := fun mm => endG_eq (m := mm) (g := .no) hlen' hat
        repeat (first
          | refine runs_seq ?_ | refine runs_block ?_ | refine next_normal ?_ | refine inside_normal ?_ | refine next_exit ?_ | refine inside_exit ?_ | refine inside_other (by decide) ?_ | refine next_ret ?_ | refine inside_ret ?_
          | refine runs_ops_kept ?_ | refine runs_skip ?_ | refine runs_exit ?_ | refine runs_ret ?_
          | ((first | refine' ops_op rfl rfl (by decide) ?_ ?_ ?_ | refine' ops_yes rfl rfl (by simp only [Ev.get, reduceIte, Nat.reduceEqDiff, szStr, szInt, Option.getD_some, isNil, loadStr, loadInt, mkInts0, mkInts1, mkStrs0, mkStrs1, rowsS_len, rowsI_len, rowsN_len, evStr, fldOp, ldOp, t1, f1]; first | done | rfl) rfl (by decide) ?_ ?_ ?_ | refine' ops_op0 rfl rfl ?_ ?_ ?_); rotate_left 2; (focus (simp only [evOp, opd, constAV, constCell, Ev.get, reduceIte, Nat.reduceEqDiff, reduceCtorEq, evBinN, nilCmp, evBin, evInt, evUn, evConvert, evBuiltin, evLen, evField, evPart, tStr, tInt, tElem, tArr, tBool, tAgg, tField, Try.underlying9, Try.underlying3, Try.underlying4, Try.underlying5, Try.underlying21, Try.underlying121, Try.underlying38, Try.underlying25, Try.underlying135, Try.underlying33, Try.underlying2, Try.underlying147, Try.underlying22, Try.underlying56, Try.underlying54, List.zipWith, Option.map_some, Option.map_none, List.length_cons, List.length_nil, ne_eq, Int.reduceEq, not_false_eq_true, and_self, and_true, true_and, szStr, szInt, Option.getD_some, isNil, loadStr, loadInt, mkInts0, mkInts1, mkStrs0, mkStrs1, rowsS_len, rowsI_len, rowsN_len, evStr, fldOp, ldOp, evCall, List.size_toArray, List.append_nil, List.nil_append, List.map_cons, List.map_nil, argAV, argCell, List.toList_toArray, fieldTy, t1, f1]; first | done | rfl)); exact (fun h => by first | rfl | (simp at h; done) | exact absurd (Bool.and_eq_true_iff.mp h).2 (by decide)))
          | refine ops_no rfl rfl (by simp only [Ev.get, reduceIte, Nat.reduceEqDiff, szStr, szInt, Option.getD_some, isNil, loadStr, loadInt, mkInts0, mkInts1, mkStrs0, mkStrs1, rowsS_len, rowsI_len, rowsN_len, evStr, fldOp, ldOp, t1, f1]; first | done | rfl) (by decide) rfl (by decide) ?_
          | refine ops_off rfl rfl rfl rfl (by decide) ?_
          | (refine ops_nil ?_; intro e2 h2; simp only [restr, kpBelow, List.map_cons, List.map_nil, Ev.get, reduceIte, Nat.reduceEqDiff] at h2; subst h2))
        refine runs_cond rfl (fun hc => ?_) (fun hc => ?_)
        · rw [show belowOf l at_ = [] from if_pos (of_decide_eq_true hc)]
          repeat (first
            | refine runs_seq ?_ | refine runs_block ?_ | refine next_normal ?_ | refine inside_normal ?_ | refine next_exit ?_ | refine inside_exit ?_ | refine inside_other (by decide) ?_ | refine next_ret ?_ | refine inside_ret ?_
            | refine runs_ops_kept ?_ | refine runs_skip ?_ | refine runs_exit ?_ | refine runs_ret ?_
            | ((first | refine' ops_op rfl rfl (by decide) ?_ ?_ ?_ | refine' ops_yes rfl rfl (by simp only [Ev.get, reduceIte, Nat.reduceEqDiff, szStr, szInt, Option.getD_some, isNil, loadStr, loadInt, mkInts0, mkInts1, mkStrs0, mkStrs1, rowsS_len, rowsI_len, rowsN_len, evStr, fldOp, ldOp]; first | done | rfl) rfl (by decide) ?_ ?_ ?_ | refine' ops_op0 rfl rfl ?_ ?_ ?_); rotate_left 2; (focus (simp only [evOp, opd, constAV, constCell, Ev.get, reduceIte, Nat.reduceEqDiff, reduceCtorEq, evBinN, nilCmp, evBin, evInt, evUn, evConvert, evBuiltin, evLen, evField, evPart, tStr, tInt, tElem, tArr, tBool, tAgg, tField, Try.underlying9, Try.underlying3, Try.underlying4, Try.underlying5, Try.underlying21, Try.underlying121, Try.underlying38, Try.underlying25, Try.underlying135, Try.underlying33, Try.underlying2, Try.underlying147, Try.underlying22, Try.underlying56, Try.underlying54, List.zipWith, Option.map_some, Option.map_none, List.length_cons, List.length_nil, ne_eq, Int.reduceEq, not_false_eq_true, and_self, and_true, true_and, szStr, szInt, Option.getD_some, isNil, loadStr, loadInt, mkInts0, mkInts1, mkStrs0, mkStrs1, rowsS_len, rowsI_len, rowsN_len, evStr, fldOp, ldOp, evCall, List.size_toArray, List.append_nil, List.nil_append, List.map_cons, List.map_nil, argAV, argCell, List.toList_toArray, fieldTy]; first | done | rfl)); exact (fun h => by first | rfl | (simp at h; done) | exact absurd (Bool.and_eq_true_iff.mp h).2 (by decide)))
            | refine ops_no rfl rfl (by simp only [Ev.get, reduceIte, Nat.reduceEqDiff, szStr, szInt, Option.getD_some, isNil, loadStr, loadInt, mkInts0, mkInts1, mkStrs0, mkStrs1, rowsS_len, rowsI_len, rowsN_len, evStr, fldOp, ldOp]; first | done | rfl) (by decide) rfl (by decide) ?_
            | refine ops_off rfl rfl rfl rfl (by decide) ?_
            | (refine ops_nil ?_; intro e2 h2; simp only [restr, kpBelow, List.map_cons, List.map_nil, Ev.get, reduceIte, Nat.reduceEqDiff] at h2; subst h2))
          exact leaves_lst rfl rfl (finMem_self _)
        · have hn := of_decide_eq_false hc
          rw [show belowOf l at_ = belowW l (arAt l at_) (at_ + 1) from if_neg hn]
          unfold inI at hat
          have hin := endOf_in l at_
          obtain ⟨p, rfl⟩ := Int.eq_ofNat_of_zero_le (by omega : 0 ≤ at_)
          have hp1 : p < l.length := by omega
          have f2 := atNodes (g := g) (kk := .i64) hp1
          have e1 : arAt l (p : Int) = (arityOf (l.getD p nd0).op).toNat := by unfold arAt; rw [Int.toNat_natCast]
          rw [e1]
          generalize l.getD p nd0 = x at f2
          have fa : ∀ mm, arityG [.v (.int .i64 x.op)] mm = some (.v (.int .i64 (arityOf x.op)), mm) := fun _ => rfl
          have ha := arity_in x.op
          have r6 := next_i64 (i := p) (by omega)
          repeat (first
            | refine runs_seq ?_ | refine runs_block ?_ | refine next_normal ?_ | refine inside_normal ?_ | refine next_exit ?_ | refine inside_exit ?_ | refine inside_other (by decide) ?_ | refine next_ret ?_ | refine inside_ret ?_
            | refine runs_ops_kept ?_ | refine runs_skip ?_ | refine runs_exit ?_ | refine runs_ret ?_
            | ((first | refine' ops_op rfl rfl (by decide) ?_ ?_ ?_ | refine' ops_yes rfl rfl (by simp only [Ev.get, reduceIte, Nat.reduceEqDiff, szStr, szInt, Option.getD_some, isNil, loadStr, loadInt, mkInts0, mkInts1, mkStrs0, mkStrs1, rowsS_len, rowsI_len, rowsN_len, evStr, fldOp, ldOp, r6, f2, t2, fa]; first | done | rfl) rfl (by decide) ?_ ?_ ?_ | refine' ops_op0 rfl rfl ?_ ?_ ?_); rotate_left 2; (focus (simp only [evOp, opd, constAV, constCell, Ev.get, reduceIte, Nat.reduceEqDiff, reduceCtorEq, evBinN, nilCmp, evBin, evInt, evUn, evConvert, evBuiltin, evLen, evField, evPart, tStr, tInt, tElem, tArr, tBool, tAgg, tField, Try.underlying9, Try.underlying3, Try.underlying4, Try.underlying5, Try.underlying21, Try.underlying121, Try.underlying38, Try.underlying25, Try.underlying135, Try.underlying33, Try.underlying2, Try.underlying147, Try.underlying22, Try.underlying56, Try.underlying54, List.zipWith, Option.map_some, Option.map_none, List.length_cons, List.length_nil, ne_eq, Int.reduceEq, not_false_eq_true, and_self, and_true, true_and, szStr, szInt, Option.getD_some, isNil, loadStr, loadInt, mkInts0, mkInts1, mkStrs0, mkStrs1, rowsS_len, rowsI_len, rowsN_len, evStr, fldOp, ldOp, evCall, List.size_toArray, List.append_nil, List.nil_append, List.map_cons, List.map_nil, argAV, argCell, List.toList_toArray, fieldTy, r6, f2, t2, fa]; first | done | rfl)); exact (fun h => by first | rfl | (simp at h; done) | exact absurd (Bool.and_eq_true_iff.mp h).2 (by decide)))
            | refine ops_no rfl rfl (by simp only [Ev.get, reduceIte, Nat.reduceEqDiff, szStr, szInt, Option.getD_some, isNil, loadStr, loadInt, mkInts0, mkInts1, mkStrs0, mkStrs1, rowsS_len, rowsI_len, rowsN_len, evStr, fldOp, ldOp, r6, f2, t2, fa]; first | done | rfl) (by decide) rfl (by decide) ?_
            | refine ops_off rfl rfl rfl rfl (by decide) ?_
            | (refine ops_nil ?_; intro e2 h2; simp only [restr, kpBelow, List.map_cons, List.map_nil, Ev.get, reduceIte, Nat.reduceEqDiff] at h2; subst h2))
          refine runs_loop (fun k e m' => ∃ (j : Nat) (next : Int) (pre : List Int) (g5 : Grow) (x20 : AV), pre ++ belowW l ((arityOf x.op).toNat - j) next = belowW l (arityOf x.op).toNat ((p : Int) + 1) ∧ pre.length = j ∧ inI next ∧ j ≤ (arityOf x.op).toNat ∧ Grows m g5 m' ∧ k = (arityOf x.op).toNat - j ∧
            e = [(0, AV.lst g 7 (rowsN l)), (1, .v (.int .i64 (p : Int))), (4, .lst .full 1 []), (5, .lst g5 1 (rowsI pre)), (6, .v (.int .i64 next)), (10, .v (.bool (decide (endOf l (p : Int) < 0)))), (18, .v (.int .i64 (arityOf x.op))), (19, .v (.int .i64 (j : Int))), (20, x20)])
            (k := (arityOf x.op).toNat) ⟨0, (p : Int) + 1, [], .full, _, rfl, rfl, ⟨by omega, by omega⟩, by omega, grows_full, rfl, rfl⟩ ?_
          rintro k e m' ⟨j, next, pre, g5, x20, hpre, hpl, hnx, hj, hG, rfl, rfl⟩
          repeat (first
            | refine runs_seq ?_ | refine runs_block ?_ | refine next_normal ?_ | refine inside_normal ?_ | refine next_exit ?_ | refine inside_exit ?_ | refine inside_other (by decide) ?_ | refine next_ret ?_ | refine inside_ret ?_
            | refine runs_ops_kept ?_ | refine runs_skip ?_ | refine runs_exit ?_ | refine runs_ret ?_
            | ((first | refine' ops_op rfl rfl (by decide) ?_ ?_ ?_ | refine' ops_yes rfl rfl (by simp only [Ev.get, reduceIte, Nat.reduceEqDiff, szStr, szInt, Option.getD_some, isNil, loadStr, loadInt, mkInts0, mkInts1, mkStrs0, mkStrs1, rowsS_len, rowsI_len, rowsN_len, evStr, fldOp, ldOp]; first | done | rfl) rfl (by decide) ?_ ?_ ?_ | refine' ops_op0 rfl rfl ?_ ?_ ?_); rotate_left 2; (focus (simp only [evOp, opd, constAV, constCell, Ev.get, reduceIte, Nat.reduceEqDiff, reduceCtorEq, evBinN, nilCmp, evBin, evInt, evUn, evConvert, evBuiltin, evLen, evField, evPart, tStr, tInt, tElem, tArr, tBool, tAgg, tField, Try.underlying9, Try.underlying3, Try.underlying4, Try.underlying5, Try.underlying21, Try.underlying121, Try.underlying38, Try.underlying25, Try.underlying135, Try.underlying33, Try.underlying2, Try.underlying147, Try.underlying22, Try.underlying56, Try.underlying54, List.zipWith, Option.map_some, Option.map_none, List.length_cons, List.length_nil, ne_eq, Int.reduceEq, not_false_eq_true, and_self, and_true, true_and, szStr, szInt, Option.getD_some, isNil, loadStr, loadInt, mkInts0, mkInts1, mkStrs0, mkStrs1, rowsS_len, rowsI_len, rowsN_len, evStr, fldOp, ldOp, evCall, List.size_toArray, List.append_nil, List.nil_append, List.map_cons, List.map_nil, argAV, argCell, List.toList_toArray, fieldTy]; first | done | rfl)); exact (fun h => by first | rfl | (simp at h; done) | exact absurd (Bool.and_eq_true_iff.mp h).2 (by decide)))
            | refine ops_no rfl rfl (by simp only [Ev.get, reduceIte, Nat.reduceEqDiff, szStr, szInt, Option.getD_some, isNil, loadStr, loadInt, mkInts0, mkInts1, mkStrs0, mkStrs1, rowsS_len, rowsI_len, rowsN_len, evStr, fldOp, ldOp]; first | done | rfl) (by decide) rfl (by decide) ?_
            | refine ops_off rfl rfl rfl rfl (by decide) ?_
            | (refine ops_nil ?_; intro e2 h2; simp only [restr, kpBelow, List.map_cons, List.map_nil, Ev.get, reduceIte, Nat.reduceEqDiff] at h2; subst h2))
          refine runs_cond rfl (fun hc => ?_) (fun hc => ?_)
          · have hj1 : j < (arityOf x.op).toNat := by have := of_decide_eq_true hc; omega
            obtain ⟨g', m'', a1, hG'⟩ := app_int appInts hG (g2 := .full) pre next (by unfold lim; omega)
            have f3 := fun mm => endG_eq (m := mm) (g := .no) hlen' hnx
            have r7 := next_i64 (i := j) (by omega)
            rw [show (arityOf x.op).toNat - j = (arityOf x.op).toNat - (j + 1) + 1 by omega, belowW] at hpre
            have hin2 := endOf_in l next
            repeat (first
              | refine runs_seq ?_ | refine runs_block ?_ | refine next_normal ?_ | refine inside_normal ?_ | refine next_exit ?_ | refine inside_exit ?_ | refine inside_other (by decide) ?_ | refine next_ret ?_ | refine inside_ret ?_
              | refine runs_ops_kept ?_ | refine runs_skip ?_ | refine runs_exit ?_ | refine runs_ret ?_
              | ((first | refine' ops_op rfl rfl (by decide) ?_ ?_ ?_ | refine' ops_yes rfl rfl (by simp only [Ev.get, reduceIte, Nat.reduceEqDiff, szStr, szInt, Option.getD_some, isNil, loadStr, loadInt, mkInts0, mkInts1, mkStrs0, mkStrs1, rowsS_len, rowsI_len, rowsN_len, evStr, fldOp, ldOp, a1, t1, f3, r7]; first | done | rfl) rfl (by decide) ?_ ?_ ?_ | refine' ops_op0 rfl rfl ?_ ?_ ?_); rotate_left 2; (focus (simp only [evOp, opd, constAV, constCell, Ev.get, reduceIte, Nat.reduceEqDiff, reduceCtorEq, evBinN, nilCmp, evBin, evInt, evUn, evConvert, evBuiltin, evLen, evField, evPart, tStr, tInt, tElem, tArr, tBool, tAgg, tField, Try.underlying9, Try.underlying3, Try.underlying4, Try.underlying5, Try.underlying21, Try.underlying121, Try.underlying38, Try.underlying25, Try.underlying135, Try.underlying33, Try.underlying2, Try.underlying147, Try.underlying22, Try.underlying56, Try.underlying54, List.zipWith, Option.map_some, Option.map_none, List.length_cons, List.length_nil, ne_eq, Int.reduceEq, not_false_eq_true, and_self, and_true, true_and, szStr, szInt, Option.getD_some, isNil, loadStr, loadInt, mkInts0, mkInts1, mkStrs0, mkStrs1, rowsS_len, rowsI_len, rowsN_len, evStr, fldOp, ldOp, evCall, List.size_toArray, List.append_nil, List.nil_append, List.map_cons, List.map_nil, argAV, argCell, List.toList_toArray, fieldTy, a1, t1, f3, r7]; first | done | rfl)); exact (fun h => by first | rfl | (simp at h; done) | exact absurd (Bool.and_eq_true_iff.mp h).2 (by decide)))
              | refine ops_no rfl rfl (by simp only [Ev.get, reduceIte, Nat.reduceEqDiff, szStr, szInt, Option.getD_some, isNil, loadStr, loadInt, mkInts0, mkInts1, mkStrs0, mkStrs1, rowsS_len, rowsI_len, rowsN_len, evStr, fldOp, ldOp, a1, t1, f3, r7]; first | done | rfl) (by decide) rfl (by decide) ?_
              | refine ops_off rfl rfl rfl rfl (by decide) ?_
              | (refine ops_nil ?_; intro e2 h2; simp only [restr, kpBelow, List.map_cons, List.map_nil, Ev.get, reduceIte, Nat.reduceEqDiff] at h2; subst h2))
            refine ⟨(arityOf x.op).toNat - (j + 1), by omega, j + 1, endOf l next, pre ++ [next], _, _, by rw [List.append_assoc]; exact hpre, by simp [hpl], ?_, hj1, hG', rfl, rfl⟩
            unfold inI
            omega
          · have hj1 : j = (arityOf x.op).toNat := by have := of_decide_eq_false hc; omega
            rw [hj1, Nat.sub_self, belowW, List.append_nil] at hpre
            rw [← hpre]
            repeat (first
              | refine runs_seq ?_ | refine runs_block ?_ | refine next_normal ?_ | refine inside_normal ?_ | refine next_exit ?_ | refine inside_exit ?_ | refine inside_other (by decide) ?_ | refine next_ret ?_ | refine inside_ret ?_
              | refine runs_ops_kept ?_ | refine runs_skip ?_ | refine runs_exit ?_ | refine runs_ret ?_
              | ((first | refine' ops_op rfl rfl (by decide) ?_ ?_ ?_ | refine' ops_yes rfl rfl (by simp only [Ev.get, reduceIte, Nat.reduceEqDiff, szStr, szInt, Option.getD_some, isNil, loadStr, loadInt, mkInts0, mkInts1, mkStrs0, mkStrs1, rowsS_len, rowsI_len, rowsN_len, evStr, fldOp, ldOp]; first | done | rfl) rfl (by decide) ?_ ?_ ?_ | refine' ops_op0 rfl rfl ?_ ?_ ?_); rotate_left 2; (focus (simp only [evOp, opd, constAV, constCell, Ev.get, reduceIte, Nat.reduceEqDiff, reduceCtorEq, evBinN, nilCmp, evBin, evInt, evUn, evConvert, evBuiltin, evLen, evField, evPart, tStr, tInt, tElem, tArr, tBool, tAgg, tField, Try.underlying9, Try.underlying3, Try.underlying4, Try.underlying5, Try.underlying21, Try.underlying121, Try.underlying38, Try.underlying25, Try.underlying135, Try.underlying33, Try.underlying2, Try.underlying147, Try.underlying22, Try.underlying56, Try.underlying54, List.zipWith, Option.map_some, Option.map_none, List.length_cons, List.length_nil, ne_eq, Int.reduceEq, not_false_eq_true, and_self, and_true, true_and, szStr, szInt, Option.getD_some, isNil, loadStr, loadInt, mkInts0, mkInts1, mkStrs0, mkStrs1, rowsS_len, rowsI_len, rowsN_len, evStr, fldOp, ldOp, evCall, List.size_toArray, List.append_nil, List.nil_append, List.map_cons, List.map_nil, argAV, argCell, List.toList_toArray, fieldTy]; first | done | rfl)); exact (fun h => by first | rfl | (simp at h; done) | exact absurd (Bool.and_eq_true_iff.mp h).2 (by decide)))
              | refine ops_no rfl rfl (by simp only [Ev.get, reduceIte, Nat.reduceEqDiff, szStr, szInt, Option.getD_some, isNil, loadStr, loadInt, mkInts0, mkInts1, mkStrs0, mkStrs1, rowsS_len, rowsI_len, rowsN_len, evStr, fldOp, ldOp]; first | done | rfl) (by decide) rfl (by decide) ?_
              | refine ops_off rfl rfl rfl rfl (by decide) ?_
              | (refine ops_nil ?_; intro e2 h2; simp only [restr, kpBelow, List.map_cons, List.map_nil, Ev.get, reduceIte, Nat.reduceEqDiff] at h2; subst h2))
            exact leaves_lst rfl rfl (fin_grows hG)
      · cases h
    · cases h
  · cases h
def refBelowG : List AV → Mem → Option (AV × Mem)
  | [.lst _ 7 rows, .v (.int .i64 at_)], m =>
    match unN rows with
    | some l => if l.length ≤ big40 ∧ 0 ≤ at_ ∧ at_ < (l.length : Int) then some (.lst .no 1 (rowsI (belowW l (arAt l at_) (at_ + 1))), m) else none
    | none => none
  | _, _ => none
theorem refBelowG_eq {m : Mem} {g : Grow} {l : List Nd} {at_ : Int} (h : l.length ≤ big40) (h2 : 0 ≤ at_) (h3 : at_ < (l.length : Int)) : refBelowG [.lst g 7 (rowsN l), .v (.int .i64 at_)] m = some (.lst .no 1 (rowsI (belowW l (arAt l at_) (at_ + 1))), m) := by
  simp only [refBelowG, unN_rowsN]
  rw [if_pos ⟨h, h2, h3⟩]
def kpRefBelow : Nat → Option (List Nat) := fun _ => some [0, 1, 4, 5, 6, 7, 18]
def tabRefBelow : List (FuncId × (List AV → Mem → Option (AV × Mem))) := [(12, endG), (14, arityG)]
theorem refBelow_ok : FunOk Try.prog 16 refBelowG := by
  have hC := table_ok (P := Try.prog) (l := tabRefBelow) (table_more refEnd_ok (table_more refArity_ok table_nil))
  have t1 := fun args mm => table_at (l := tabRefBelow) (f := 12) (args := args) (m := mm) rfl
  have t2 := fun args mm => table_at (l := tabRefBelow) (f := 14) (args := args) (m := mm) rfl
  refine fun_ok mixed hC Try.func16 rfl kpRefBelow false rfl fun args m r h => ?_
  unfold refBelowG at h
  split at h
  · rename_i g rows at_
    split at h
    · rename_i l hl0
      obtain rfl := unN_some hl0
      split at h
      · rename_i hb
        obtain ⟨hlen, h0, h1⟩ := hb
        have hlen' := hlen
        simp only [Option.some.injEq] at h
        subst h
        unfold big40 at hlen
        refine ⟨Nat.le_of_ble_eq_true rfl, ?_⟩
        simp only [entry, List.length_cons, List.length_nil, List.range, List.range.loop, List.zip_cons_cons, List.zip_nil_right]
        obtain ⟨p, rfl⟩ := Int.eq_ofNat_of_zero_le h0
        have hp1 : p < l.length := by omega
        have f2 := atNodes (g := g) (kk := .i64) hp1
        have e1 : arAt l (p : Int) = (arityOf (l.getD p nd0).op).toNat := by unfold arAt; rw [Int.toNat_natCast]
        rw [e1]
        generalize l.getD p nd0 = x at f2
        have fa : ∀ mm, arityG [.v (.int .i64 x.op)] mm = some (.v (.int .i64 (arityOf x.op)), mm) := fun _ => rfl
        have ha := arity_in x.op
        have r6 := next_i64 (i := p) (by omega)
        repeat (first
          | refine runs_seq ?_ | refine runs_block ?_ | refine next_normal ?_ | refine inside_normal ?_ | refine next_exit ?_ | refine inside_exit ?_ | refine inside_other (by decide) ?_ | refine next_ret ?_ | refine inside_ret ?_
          | refine runs_ops_kept ?_ | refine runs_skip ?_ | refine runs_exit ?_ | refine runs_ret ?_
          | ((first | refine' ops_op rfl rfl (by decide) ?_ ?_ ?_ | refine' ops_yes rfl rfl (by simp only [Ev.get, reduceIte, Nat.reduceEqDiff, szStr, szInt, Option.getD_some, isNil, loadStr, loadInt, mkInts0, mkInts1, mkStrs0, mkStrs1, rowsS_len, rowsI_len, rowsN_len, evStr, fldOp, ldOp, r6]; first | done | rfl) rfl (by decide) ?_ ?_ ?_ | refine' ops_op0 rfl rfl ?_ ?_ ?_); rotate_left 2; (focus (simp only [evOp, opd, constAV, constCell, Ev.get, reduceIte, Nat.reduceEqDiff, reduceCtorEq, evBinN, nilCmp, evBin, evInt, evUn, evConvert, evBuiltin, evLen, evField, evPart, tStr, tInt, tElem, tArr, tBool, tAgg, tField, Try.underlying9, Try.underlying3, Try.underlying4, Try.underlying5, Try.underlying21, Try.underlying121, Try.underlying38, Try.underlying25, Try.underlying135, Try.underlying33, Try.underlying2, Try.underlying147, Try.underlying22, Try.underlying56, Try.underlying54, List.zipWith, Option.map_some, Option.map_none, List.length_cons, List.length_nil, ne_eq, Int.reduceEq, not_false_eq_true, and_self, and_true, true_and, szStr, szInt, Option.getD_some, isNil, loadStr, loadInt, mkInts0, mkInts1, mkStrs0, mkStrs1, rowsS_len, rowsI_len, rowsN_len, evStr, fldOp, ldOp, evCall, List.size_toArray, List.append_nil, List.nil_append, List.map_cons, List.map_nil, argAV, argCell, List.toList_toArray, fieldTy, r6]; first | done | rfl)); exact (fun h => by first | rfl | (simp at h; done) | exact absurd (Bool.and_eq_true_iff.mp h).2 (by decide)))
          | refine ops_no rfl rfl (by simp only [Ev.get, reduceIte, Nat.reduceEqDiff, szStr, szInt, Option.getD_some, isNil, loadStr, loadInt, mkInts0, mkInts1, mkStrs0, mkStrs1, rowsS_len, rowsI_len, rowsN_len, evStr, fldOp, ldOp, r6]; first | done | rfl) (by decide) rfl (by decide) ?_
          | refine ops_off rfl rfl rfl rfl (by decide) ?_
          | (refine ops_nil ?_; intro e2 h2; simp only [restr, kpRefBelow, List.map_cons, List.map_nil, Ev.get, reduceIte, Nat.reduceEqDiff] at h2; subst h2))
        refine runs_loop (fun k e m' => ∃ (j : Nat) (next : Int) (pre : List Int) (g5 : Grow) (x18 : AV), pre ++ belowW l ((arityOf x.op).toNat - j) next = belowW l (arityOf x.op).toNat ((p : Int) + 1) ∧ pre.length = j ∧ inI next ∧ j ≤ (arityOf x.op).toNat ∧ Grows m g5 m' ∧ k = (arityOf x.op).toNat - j ∧
          e = [(0, AV.lst g 7 (rowsN l)), (1, .v (.int .i64 (p : Int))), (4, .lst .full 1 []), (5, .lst g5 1 (rowsI pre)), (6, .v (.int .i64 next)), (7, .v (.int .i64 (j : Int))), (18, x18)])
          (k := (arityOf x.op).toNat) ⟨0, (p : Int) + 1, [], .full, _, rfl, rfl, ⟨by omega, by omega⟩, by omega, grows_full, rfl, rfl⟩ ?_
        rintro k e m' ⟨j, next, pre, g5, x18, hpre, hpl, hnx, hj, hG, rfl, rfl⟩
        repeat (first
          | refine runs_seq ?_ | refine runs_block ?_ | refine next_normal ?_ | refine inside_normal ?_ | refine next_exit ?_ | refine inside_exit ?_ | refine inside_other (by decide) ?_ | refine next_ret ?_ | refine inside_ret ?_
          | refine runs_ops_kept ?_ | refine runs_skip ?_ | refine runs_exit ?_ | refine runs_ret ?_
          | ((first | refine' ops_op rfl rfl (by decide) ?_ ?_ ?_ | refine' ops_yes rfl rfl (by simp only [Ev.get, reduceIte, Nat.reduceEqDiff, szStr, szInt, Option.getD_some, isNil, loadStr, loadInt, mkInts0, mkInts1, mkStrs0, mkStrs1, rowsS_len, rowsI_len, rowsN_len, evStr, fldOp, ldOp, f2, t2, fa]; first | done | rfl) rfl (by decide) ?_ ?_ ?_ | refine' ops_op0 rfl rfl ?_ ?_ ?_); rotate_left 2; (focus (simp only [evOp, opd, constAV, constCell, Ev.get, reduceIte, Nat.reduceEqDiff, reduceCtorEq, evBinN, nilCmp, evBin, evInt, evUn, evConvert, evBuiltin, evLen, evField, evPart, tStr, tInt, tElem, tArr, tBool, tAgg, tField, Try.underlying9, Try.underlying3, Try.underlying4, Try.underlying5, Try.underlying21, Try.underlying121, Try.underlying38, Try.underlying25, Try.underlying135, Try.underlying33, Try.underlying2, Try.underlying147, Try.underlying22, Try.underlying56, Try.underlying54, List.zipWith, Option.map_some, Option.map_none, List.length_cons, List.length_nil, ne_eq, Int.reduceEq, not_false_eq_true, and_self, and_true, true_and, szStr, szInt, Option.getD_some, isNil, loadStr, loadInt, mkInts0, mkInts1, mkStrs0, mkStrs1, rowsS_len, rowsI_len, rowsN_len, evStr, fldOp, ldOp, evCall, List.size_toArray, List.append_nil, List.nil_append, List.map_cons, List.map_nil, argAV, argCell, List.toList_toArray, fieldTy, f2, t2, fa]; first | done | rfl)); exact (fun h => by first | rfl | (simp at h; done) | exact absurd (Bool.and_eq_true_iff.mp h).2 (by decide)))
          | refine ops_no rfl rfl (by simp only [Ev.get, reduceIte, Nat.reduceEqDiff, szStr, szInt, Option.getD_some, isNil, loadStr, loadInt, mkInts0, mkInts1, mkStrs0, mkStrs1, rowsS_len, rowsI_len, rowsN_len, evStr, fldOp, ldOp, f2, t2, fa]; first | done | rfl) (by decide) rfl (by decide) ?_
          | refine ops_off rfl rfl rfl rfl (by decide) ?_
          | (refine ops_nil ?_; intro e2 h2; simp only [restr, kpRefBelow, List.map_cons, List.map_nil, Ev.get, reduceIte, Nat.reduceEqDiff] at h2; subst h2))
        refine runs_cond rfl (fun hc => ?_) (fun hc => ?_)
        · have hj1 : j < (arityOf x.op).toNat := by have := of_decide_eq_true hc; omega
          obtain ⟨g', m'', a1, hG'⟩ := app_int appInts hG (g2 := .full) pre next (by unfold lim; omega)
          have f3 := fun mm => endG_eq (m := mm) (g := .no) hlen' hnx
          have r7 := next_i64 (i := j) (by omega)
          rw [show (arityOf x.op).toNat - j = (arityOf x.op).toNat - (j + 1) + 1 by omega, belowW] at hpre
          have hin2 := endOf_in l next
          repeat (first
            | refine runs_seq ?_ | refine runs_block ?_ | refine next_normal ?_ | refine inside_normal ?_ | refine next_exit ?_ | refine inside_exit ?_ | refine inside_other (by decide) ?_ | refine next_ret ?_ | refine inside_ret ?_
            | refine runs_ops_kept ?_ | refine runs_skip ?_ | refine runs_exit ?_ | refine runs_ret ?_
            | ((first | refine' ops_op rfl rfl (by decide) ?_ ?_ ?_ | refine' ops_yes rfl rfl (by simp only [Ev.get, reduceIte, Nat.reduceEqDiff, szStr, szInt, Option.getD_some, isNil, loadStr, loadInt, mkInts0, mkInts1, mkStrs0, mkStrs1, rowsS_len, rowsI_len, rowsN_len, evStr, fldOp, ldOp, a1, t1, f3, r7]; first | done | rfl) rfl (by decide) ?_ ?_ ?_ | refine' ops_op0 rfl rfl ?_ ?_ ?_); rotate_left 2; (focus (simp only [evOp, opd, constAV, constCell, Ev.get, reduceIte, Nat.reduceEqDiff, reduceCtorEq, evBinN, nilCmp, evBin, evInt, evUn, evConvert, evBuiltin, evLen, evField, evPart, tStr, tInt, tElem, tArr, tBool, tAgg, tField, Try.underlying9, Try.underlying3, Try.underlying4, Try.underlying5, Try.underlying21, Try.underlying121, Try.underlying38, Try.underlying25, Try.underlying135, Try.underlying33, Try.underlying2, Try.underlying147, Try.underlying22, Try.underlying56, Try.underlying54, List.zipWith, Option.map_some, Option.map_none, List.length_cons, List.length_nil, ne_eq, Int.reduceEq, not_false_eq_true, and_self, and_true, true_and, szStr, szInt, Option.getD_some, isNil, loadStr, loadInt, mkInts0, mkInts1, mkStrs0, mkStrs1, rowsS_len, rowsI_len, rowsN_len, evStr, fldOp, ldOp, evCall, List.size_toArray, List.append_nil, List.nil_append, List.map_cons, List.map_nil, argAV, argCell, List.toList_toArray, fieldTy, a1, t1, f3, r7]; first | done | rfl)); exact (fun h => by first | rfl | (simp at h; done) | exact absurd (Bool.and_eq_true_iff.mp h).2 (by decide)))
            | refine ops_no rfl rfl (by simp only [Ev.get, reduceIte, Nat.reduceEqDiff, szStr, szInt, Option.getD_some, isNil, loadStr, loadInt, mkInts0, mkInts1, mkStrs0, mkStrs1, rowsS_len, rowsI_len, rowsN_len, evStr, fldOp, ldOp, a1, t1, f3, r7]; first | done | rfl) (by decide) rfl (by decide) ?_
            | refine ops_off rfl rfl rfl rfl (by decide) ?_
            | (refine ops_nil ?_; intro e2 h2; simp only [restr, kpRefBelow, List.map_cons, List.map_nil, Ev.get, reduceIte, Nat.reduceEqDiff] at h2; subst h2))
          refine ⟨(arityOf x.op).toNat - (j + 1), by omega, j + 1, endOf l next, pre ++ [next], _, _, by rw [List.append_assoc]; exact hpre, by simp [hpl], ?_, hj1, hG', rfl, rfl⟩
          unfold inI
          omega
        · have hj1 : j = (arityOf x.op).toNat := by have := of_decide_eq_false hc; omega
          rw [hj1, Nat.sub_self, belowW, List.append_nil] at hpre
          rw [← hpre]
          repeat (first
            | refine runs_seq ?_ | refine runs_block ?_ | refine next_normal ?_ | refine inside_normal ?_ | refine next_exit ?_ | refine inside_exit ?_ | refine inside_other (by decide) ?_ | refine next_ret ?_ | refine inside_ret ?_
            | refine runs_ops_kept ?_ | refine runs_skip ?_ | refine runs_exit ?_ | refine runs_ret ?_
            | ((first | refine' ops_op rfl rfl (by decide) ?_ ?_ ?_ | refine' ops_yes rfl rfl (by simp only [Ev.get, reduceIte, Nat.reduceEqDiff, szStr, szInt, Option.getD_some, isNil, loadStr, loadInt, mkInts0, mkInts1, mkStrs0, mkStrs1, rowsS_len, rowsI_len, rowsN_len, evStr, fldOp, ldOp]; first | done | rfl) rfl (by decide) ?_ ?_ ?_ | refine' ops_op0 rfl rfl ?_ ?_ ?_); rotate_left 2; (focus (simp only [evOp, opd, constAV, constCell, Ev.get, reduceIte, Nat.reduceEqDiff, reduceCtorEq, evBinN, nilCmp, evBin, evInt, evUn, evConvert, evBuiltin, evLen, evField, evPart, tStr, tInt, tElem, tArr, tBool, tAgg, tField, Try.underlying9, Try.underlying3, Try.underlying4, Try.underlying5, Try.underlying21, Try.underlying121, Try.underlying38, Try.underlying25, Try.underlying135, Try.underlying33, Try.underlying2, Try.underlying147, Try.underlying22, Try.underlying56, Try.underlying54, List.zipWith, Option.map_some, Option.map_none, List.length_cons, List.length_nil, ne_eq, Int.reduceEq, not_false_eq_true, and_self, and_true, true_and, szStr, szInt, Option.getD_some, isNil, loadStr, loadInt, mkInts0, mkInts1, mkStrs0, mkStrs1, rowsS_len, rowsI_len, rowsN_len, evStr, fldOp, ldOp, evCall, List.size_toArray, List.append_nil, List.nil_append, List.map_cons, List.map_nil, argAV, argCell, List.toList_toArray, fieldTy]; first | done | rfl)); exact (fun h => by first | rfl | (simp at h; done) | exact absurd (Bool.and_eq_true_iff.mp h).2 (by decide)))
            | refine ops_no rfl rfl (by simp only [Ev.get, reduceIte, Nat.reduceEqDiff, szStr, szInt, Option.getD_some, isNil, loadStr, loadInt, mkInts0, mkInts1, mkStrs0, mkStrs1, rowsS_len, rowsI_len, rowsN_len, evStr, fldOp, ldOp]; first | done | rfl) (by decide) rfl (by decide) ?_
            | refine ops_off rfl rfl rfl rfl (by decide) ?_
            | (refine ops_nil ?_; intro e2 h2; simp only [restr, kpRefBelow, List.map_cons, List.map_nil, Ev.get, reduceIte, Nat.reduceEqDiff] at h2; subst h2))
          exact leaves_lst rfl rfl (fin_grows hG)
      · cases h
    · cases h
  · cases h
/-! ### the same numbers? -/
def sameIG : List AV → Mem → Option (AV × Mem)
  | [.lst _ 1 r1, .lst _ 1 r2], m =>
    match unI r1, unI r2 with
    | some l1, some l2 => if l1.length ≤ 4294967296 ∧ l2.length ≤ 4294967296 then some (.v (.bool (decide (l1 = l2))), m) else none
    | _, _ => none
  | _, _ => none
theorem sameIG_eq {m : Mem} {g g2 : Grow} {l l2 : List Int} (h1 : OkI l) (h2 : OkI l2) (hl : l.length ≤ 4294967296) (hl2 : l2.length ≤ 4294967296) : sameIG [.lst g 1 (rowsI l), .lst g2 1 (rowsI l2)] m = some (.v (.bool (decide (l = l2))), m) := by
  simp only [sameIG, unI_rowsI h1, unI_rowsI h2]
  rw [if_pos ⟨hl, hl2⟩]
def kpSame : Nat → Option (List Nat) := fun _ => some [0, 1, 4, 5, 10, 14, 25]
theorem sameI_ok : FunOk Try.prog 15 sameIG := by
  have hC := table_ok (P := Try.prog) (l := []) table_nil
  refine fun_ok mixed hC Try.func15 rfl kpSame false rfl fun args m r h => ?_
  unfold sameIG at h
  split at h
  · rename_i g1 rows1 g2 rows2
    split at h
    · rename_i l1 l2 hl1 hl2
      obtain ⟨rfl, ok1⟩ := unI_some hl1
      obtain ⟨rfl, ok2⟩ := unI_some hl2
      split at h
      · rename_i hb
        simp only [Option.some.injEq] at h
        subst h
        refine ⟨Nat.le_of_ble_eq_true rfl, ?_⟩
        simp only [entry, List.length_cons, List.length_nil, List.range, List.range.loop, List.zip_cons_cons, List.zip_nil_right]
        repeat (first
          | refine runs_seq ?_ | refine runs_block ?_ | refine next_normal ?_ | refine inside_normal ?_ | refine next_exit ?_ | refine inside_exit ?_ | refine inside_other (by decide) ?_ | refine next_ret ?_ | refine inside_ret ?_
          | refine runs_ops_kept ?_ | refine runs_skip ?_ | refine runs_exit ?_ | refine runs_ret ?_
          | ((first | refine' ops_op rfl rfl (by decide) ?_ ?_ ?_ | refine' ops_yes rfl rfl (by simp only [Ev.get, reduceIte, Nat.reduceEqDiff, szStr, szInt, Option.getD_some, isNil, loadStr, loadInt, mkInts0, mkInts1, mkStrs0, mkStrs1, rowsS_len, rowsI_len, rowsN_len, evStr, fldOp, ldOp]; first | done | rfl) rfl (by decide) ?_ ?_ ?_ | refine' ops_op0 rfl rfl ?_ ?_ ?_); rotate_left 2; (focus (simp only [evOp, opd, constAV, constCell, Ev.get, reduceIte, Nat.reduceEqDiff, reduceCtorEq, evBinN, nilCmp, evBin, evInt, evUn, evConvert, evBuiltin, evLen, evField, evPart, tStr, tInt, tElem, tArr, tBool, tAgg, tField, Try.underlying9, Try.underlying3, Try.underlying4, Try.underlying5, Try.underlying21, Try.underlying121, Try.underlying38, Try.underlying25, Try.underlying135, Try.underlying33, Try.underlying2, Try.underlying147, Try.underlying22, Try.underlying56, Try.underlying54, List.zipWith, Option.map_some, Option.map_none, List.length_cons, List.length_nil, ne_eq, Int.reduceEq, not_false_eq_true, and_self, and_true, true_and, szStr, szInt, Option.getD_some, isNil, loadStr, loadInt, mkInts0, mkInts1, mkStrs0, mkStrs1, rowsS_len, rowsI_len, rowsN_len, evStr, fldOp, ldOp, evCall, List.size_toArray, List.append_nil, List.nil_append, List.map_cons, List.map_nil, argAV, argCell, List.toList_toArray, fieldTy]; first | done | rfl)); exact (fun h => by first | rfl | (simp at h; done) | exact absurd (Bool.and_eq_true_iff.mp h).2 (by decide)))
          | refine ops_no rfl rfl (by simp only [Ev.get, reduceIte, Nat.reduceEqDiff, szStr, szInt, Option.getD_some, isNil, loadStr, loadInt, mkInts0, mkInts1, mkStrs0, mkStrs1, rowsS_len, rowsI_len, rowsN_len, evStr, fldOp, ldOp]; first | done | rfl) (by decide) rfl (by decide) ?_
          | refine ops_off rfl rfl rfl rfl (by decide) ?_
          | (refine ops_nil ?_; intro e2 h2; simp only [restr, kpSame, List.map_cons, List.map_nil, Ev.get, reduceIte, Nat.reduceEqDiff] at h2; subst h2))
        refine runs_cond rfl (fun hc => ?_) (fun hc => ?_)
        · have hne : l1 ≠ l2 := by
            rintro rfl
            simp at hc
          repeat (first
            | refine runs_seq ?_ | refine runs_block ?_ | refine next_normal ?_ | refine inside_normal ?_ | refine next_exit ?_ | refine inside_exit ?_ | refine inside_other (by decide) ?_ | refine next_ret ?_ | refine inside_ret ?_
            | refine runs_ops_kept ?_ | refine runs_skip ?_ | refine runs_exit ?_ | refine runs_ret ?_
            | ((first | refine' ops_op rfl rfl (by decide) ?_ ?_ ?_ | refine' ops_yes rfl rfl (by simp only [Ev.get, reduceIte, Nat.reduceEqDiff, szStr, szInt, Option.getD_some, isNil, loadStr, loadInt, mkInts0, mkInts1, mkStrs0, mkStrs1, rowsS_len, rowsI_len, rowsN_len, evStr, fldOp, ldOp]; first | done | rfl) rfl (by decide) ?_ ?_ ?_ | refine' ops_op0 rfl rfl ?_ ?_ ?_); rotate_left 2; (focus (simp only [evOp, opd, constAV, constCell, Ev.get, reduceIte, Nat.reduceEqDiff, reduceCtorEq, evBinN, nilCmp, evBin, evInt, evUn, evConvert, evBuiltin, evLen, evField, evPart, tStr, tInt, tElem, tArr, tBool, tAgg, tField, Try.underlying9, Try.underlying3, Try.underlying4, Try.underlying5, Try.underlying21, Try.underlying121, Try.underlying38, Try.underlying25, Try.underlying135, Try.underlying33, Try.underlying2, Try.underlying147, Try.underlying22, Try.underlying56, Try.underlying54, List.zipWith, Option.map_some, Option.map_none, List.length_cons, List.length_nil, ne_eq, Int.reduceEq, not_false_eq_true, and_self, and_true, true_and, szStr, szInt, Option.getD_some, isNil, loadStr, loadInt, mkInts0, mkInts1, mkStrs0, mkStrs1, rowsS_len, rowsI_len, rowsN_len, evStr, fldOp, ldOp, evCall, List.size_toArray, List.append_nil, List.nil_append, List.map_cons, List.map_nil, argAV, argCell, List.toList_toArray, fieldTy]; first | done | rfl)); exact (fun h => by first | rfl | (simp at h; done) | exact absurd (Bool.and_eq_true_iff.mp h).2 (by decide)))
            | refine ops_no rfl rfl (by simp only [Ev.get, reduceIte, Nat.reduceEqDiff, szStr, szInt, Option.getD_some, isNil, loadStr, loadInt, mkInts0, mkInts1, mkStrs0, mkStrs1, rowsS_len, rowsI_len, rowsN_len, evStr, fldOp, ldOp]; first | done | rfl) (by decide) rfl (by decide) ?_
            | refine ops_off rfl rfl rfl rfl (by decide) ?_
            | (refine ops_nil ?_; intro e2 h2; simp only [restr, kpSame, List.map_cons, List.map_nil, Ev.get, reduceIte, Nat.reduceEqDiff] at h2; subst h2))
          exact leaves_v rfl (by rw [decide_eq_false hne]; rfl)
        · have hlen : l1.length = l2.length := by
            have : ((l1.length : Int) != (l2.length : Int)) = false := hc
            simp at this
            omega
          repeat (first
            | refine runs_seq ?_ | refine runs_block ?_ | refine next_normal ?_ | refine inside_normal ?_ | refine next_exit ?_ | refine inside_exit ?_ | refine inside_other (by decide) ?_ | refine next_ret ?_ | refine inside_ret ?_
            | refine runs_ops_kept ?_ | refine runs_skip ?_ | refine runs_exit ?_ | refine runs_ret ?_
            | ((first | refine' ops_op rfl rfl (by decide) ?_ ?_ ?_ | refine' ops_yes rfl rfl (by simp only [Ev.get, reduceIte, Nat.reduceEqDiff, szStr, szInt, Option.getD_some, isNil, loadStr, loadInt, mkInts0, mkInts1, mkStrs0, mkStrs1, rowsS_len, rowsI_len, rowsN_len, evStr, fldOp, ldOp]; first | done | rfl) rfl (by decide) ?_ ?_ ?_ | refine' ops_op0 rfl rfl ?_ ?_ ?_); rotate_left 2; (focus (simp only [evOp, opd, constAV, constCell, Ev.get, reduceIte, Nat.reduceEqDiff, reduceCtorEq, evBinN, nilCmp, evBin, evInt, evUn, evConvert, evBuiltin, evLen, evField, evPart, tStr, tInt, tElem, tArr, tBool, tAgg, tField, Try.underlying9, Try.underlying3, Try.underlying4, Try.underlying5, Try.underlying21, Try.underlying121, Try.underlying38, Try.underlying25, Try.underlying135, Try.underlying33, Try.underlying2, Try.underlying147, Try.underlying22, Try.underlying56, Try.underlying54, List.zipWith, Option.map_some, Option.map_none, List.length_cons, List.length_nil, ne_eq, Int.reduceEq, not_false_eq_true, and_self, and_true, true_and, szStr, szInt, Option.getD_some, isNil, loadStr, loadInt, mkInts0, mkInts1, mkStrs0, mkStrs1, rowsS_len, rowsI_len, rowsN_len, evStr, fldOp, ldOp, evCall, List.size_toArray, List.append_nil, List.nil_append, List.map_cons, List.map_nil, argAV, argCell, List.toList_toArray, fieldTy]; first | done | rfl)); exact (fun h => by first | rfl | (simp at h; done) | exact absurd (Bool.and_eq_true_iff.mp h).2 (by decide)))
            | refine ops_no rfl rfl (by simp only [Ev.get, reduceIte, Nat.reduceEqDiff, szStr, szInt, Option.getD_some, isNil, loadStr, loadInt, mkInts0, mkInts1, mkStrs0, mkStrs1, rowsS_len, rowsI_len, rowsN_len, evStr, fldOp, ldOp]; first | done | rfl) (by decide) rfl (by decide) ?_
            | refine ops_off rfl rfl rfl rfl (by decide) ?_
            | (refine ops_nil ?_; intro e2 h2; simp only [restr, kpSame, List.map_cons, List.map_nil, Ev.get, reduceIte, Nat.reduceEqDiff] at h2; subst h2))
          refine runs_loop (fun k e m' => ∃ (i : Nat) (x10 x14 x25 : AV), i ≤ l1.length ∧ (∀ j, j < i → l1.getD j 0 = l2.getD j 0) ∧ m = m' ∧ k = l1.length - i ∧
            e = [(0, AV.lst g1 1 (rowsI l1)), (1, .lst g2 1 (rowsI l2)), (4, .v (.bool false)), (5, .v (.int .i64 (i : Int))), (10, x10), (14, x14), (25, x25)]) (k := l1.length) ⟨0, _, _, _, Nat.zero_le _, fun j hj => absurd hj (Nat.not_lt_zero _), rfl, rfl, rfl⟩ ?_
          rintro k e m' ⟨i, x10, x14, x25, hi, heq, rfl, rfl, rfl⟩
          repeat (first
            | refine runs_seq ?_ | refine runs_block ?_ | refine next_normal ?_ | refine inside_normal ?_ | refine next_exit ?_ | refine inside_exit ?_ | refine inside_other (by decide) ?_ | refine next_ret ?_ | refine inside_ret ?_
            | refine runs_ops_kept ?_ | refine runs_skip ?_ | refine runs_exit ?_ | refine runs_ret ?_
            | ((first | refine' ops_op rfl rfl (by decide) ?_ ?_ ?_ | refine' ops_yes rfl rfl (by simp only [Ev.get, reduceIte, Nat.reduceEqDiff, szStr, szInt, Option.getD_some, isNil, loadStr, loadInt, mkInts0, mkInts1, mkStrs0, mkStrs1, rowsS_len, rowsI_len, rowsN_len, evStr, fldOp, ldOp]; first | done | rfl) rfl (by decide) ?_ ?_ ?_ | refine' ops_op0 rfl rfl ?_ ?_ ?_); rotate_left 2; (focus (simp only [evOp, opd, constAV, constCell, Ev.get, reduceIte, Nat.reduceEqDiff, reduceCtorEq, evBinN, nilCmp, evBin, evInt, evUn, evConvert, evBuiltin, evLen, evField, evPart, tStr, tInt, tElem, tArr, tBool, tAgg, tField, Try.underlying9, Try.underlying3, Try.underlying4, Try.underlying5, Try.underlying21, Try.underlying121, Try.underlying38, Try.underlying25, Try.underlying135, Try.underlying33, Try.underlying2, Try.underlying147, Try.underlying22, Try.underlying56, Try.underlying54, List.zipWith, Option.map_some, Option.map_none, List.length_cons, List.length_nil, ne_eq, Int.reduceEq, not_false_eq_true, and_self, and_true, true_and, szStr, szInt, Option.getD_some, isNil, loadStr, loadInt, mkInts0, mkInts1, mkStrs0, mkStrs1, rowsS_len, rowsI_len, rowsN_len, evStr, fldOp, ldOp, evCall, List.size_toArray, List.append_nil, List.nil_append, List.map_cons, List.map_nil, argAV, argCell, List.toList_toArray, fieldTy]; first | done | rfl)); exact (fun h => by first | rfl | (simp at h; done) | exact absurd (Bool.and_eq_true_iff.mp h).2 (by decide)))
            | refine ops_no rfl rfl (by simp only [Ev.get, reduceIte, Nat.reduceEqDiff, szStr, szInt, Option.getD_some, isNil, loadStr, loadInt, mkInts0, mkInts1, mkStrs0, mkStrs1, rowsS_len, rowsI_len, rowsN_len, evStr, fldOp, ldOp]; first | done | rfl) (by decide) rfl (by decide) ?_
            | refine ops_off rfl rfl rfl rfl (by decide) ?_
            | (refine ops_nil ?_; intro e2 h2; simp only [restr, kpSame, List.map_cons, List.map_nil, Ev.get, reduceIte, Nat.reduceEqDiff] at h2; subst h2))
          refine runs_cond rfl (fun hc => ?_) (fun hc => ?_)
          · have hi1 : i < l1.length := by have := of_decide_eq_true hc; omega
            repeat (first
              | refine runs_seq ?_ | refine runs_block ?_ | refine next_normal ?_ | refine inside_normal ?_ | refine next_exit ?_ | refine inside_exit ?_ | refine inside_other (by decide) ?_ | refine next_ret ?_ | refine inside_ret ?_
              | refine runs_ops_kept ?_ | refine runs_skip ?_ | refine runs_exit ?_ | refine runs_ret ?_
              | ((first | refine' ops_op rfl rfl (by decide) ?_ ?_ ?_ | refine' ops_yes rfl rfl (by simp only [Ev.get, reduceIte, Nat.reduceEqDiff, szStr, szInt, Option.getD_some, isNil, loadStr, loadInt, mkInts0, mkInts1, mkStrs0, mkStrs1, rowsS_len, rowsI_len, rowsN_len, evStr, fldOp, ldOp]; first | done | rfl) rfl (by decide) ?_ ?_ ?_ | refine' ops_op0 rfl rfl ?_ ?_ ?_); rotate_left 2; (focus (simp only [evOp, opd, constAV, constCell, Ev.get, reduceIte, Nat.reduceEqDiff, reduceCtorEq, evBinN, nilCmp, evBin, evInt, evUn, evConvert, evBuiltin, evLen, evField, evPart, tStr, tInt, tElem, tArr, tBool, tAgg, tField, Try.underlying9, Try.underlying3, Try.underlying4, Try.underlying5, Try.underlying21, Try.underlying121, Try.underlying38, Try.underlying25, Try.underlying135, Try.underlying33, Try.underlying2, Try.underlying147, Try.underlying22, Try.underlying56, Try.underlying54, List.zipWith, Option.map_some, Option.map_none, List.length_cons, List.length_nil, ne_eq, Int.reduceEq, not_false_eq_true, and_self, and_true, true_and, szStr, szInt, Option.getD_some, isNil, loadStr, loadInt, mkInts0, mkInts1, mkStrs0, mkStrs1, rowsS_len, rowsI_len, rowsN_len, evStr, fldOp, ldOp, evCall, List.size_toArray, List.append_nil, List.nil_append, List.map_cons, List.map_nil, argAV, argCell, List.toList_toArray, fieldTy]; first | done | rfl)); exact (fun h => by first | rfl | (simp at h; done) | exact absurd (Bool.and_eq_true_iff.mp h).2 (by decide)))
              | refine ops_no rfl rfl (by simp only [Ev.get, reduceIte, Nat.reduceEqDiff, szStr, szInt, Option.getD_some, isNil, loadStr, loadInt, mkInts0, mkInts1, mkStrs0, mkStrs1, rowsS_len, rowsI_len, rowsN_len, evStr, fldOp, ldOp]; first | done | rfl) (by decide) rfl (by decide) ?_
              | refine ops_off rfl rfl rfl rfl (by decide) ?_
              | (refine ops_nil ?_; intro e2 h2; simp only [restr, kpSame, List.map_cons, List.map_nil, Ev.get, reduceIte, Nat.reduceEqDiff] at h2; subst h2))
            have f1 := atInts (g := g1) (kk := .i64) hi1
            have f2 := atInts (g := g2) (kk := .i64) (hlen ▸ hi1 : i < l2.length)
            refine runs_ops_drawn_kept (by kernel_rfl) ?_
            repeat (first
              | refine runs_seq ?_ | refine runs_block ?_ | refine next_normal ?_ | refine inside_normal ?_ | refine next_exit ?_ | refine inside_exit ?_ | refine inside_other (by decide) ?_ | refine next_ret ?_ | refine inside_ret ?_
              | refine runs_ops_kept ?_ | refine runs_skip ?_ | refine runs_exit ?_ | refine runs_ret ?_
              | ((first | refine' ops_op rfl rfl (by decide) ?_ ?_ ?_ | refine' ops_yes rfl rfl (by simp only [Ev.get, reduceIte, Nat.reduceEqDiff, szStr, szInt, Option.getD_some, isNil, loadStr, loadInt, mkInts0, mkInts1, mkStrs0, mkStrs1, rowsS_len, rowsI_len, rowsN_len, evStr, fldOp, ldOp, f1, f2]; first | done | rfl) rfl (by decide) ?_ ?_ ?_ | refine' ops_op0 rfl rfl ?_ ?_ ?_); rotate_left 2; (focus (simp only [evOp, opd, constAV, constCell, Ev.get, reduceIte, Nat.reduceEqDiff, reduceCtorEq, evBinN, nilCmp, evBin, evInt, evUn, evConvert, evBuiltin, evLen, evField, evPart, tStr, tInt, tElem, tArr, tBool, tAgg, tField, Try.underlying9, Try.underlying3, Try.underlying4, Try.underlying5, Try.underlying21, Try.underlying121, Try.underlying38, Try.underlying25, Try.underlying135, Try.underlying33, Try.underlying2, Try.underlying147, Try.underlying22, Try.underlying56, Try.underlying54, List.zipWith, Option.map_some, Option.map_none, List.length_cons, List.length_nil, ne_eq, Int.reduceEq, not_false_eq_true, and_self, and_true, true_and, szStr, szInt, Option.getD_some, isNil, loadStr, loadInt, mkInts0, mkInts1, mkStrs0, mkStrs1, rowsS_len, rowsI_len, rowsN_len, evStr, fldOp, ldOp, evCall, List.size_toArray, List.append_nil, List.nil_append, List.map_cons, List.map_nil, argAV, argCell, List.toList_toArray, fieldTy, f1, f2]; first | done | rfl)); exact (fun h => by first | rfl | (simp at h; done) | exact absurd (Bool.and_eq_true_iff.mp h).2 (by decide)))
              | refine ops_no rfl rfl (by simp only [Ev.get, reduceIte, Nat.reduceEqDiff, szStr, szInt, Option.getD_some, isNil, loadStr, loadInt, mkInts0, mkInts1, mkStrs0, mkStrs1, rowsS_len, rowsI_len, rowsN_len, evStr, fldOp, ldOp, f1, f2]; first | done | rfl) (by decide) rfl (by decide) ?_
              | refine ops_off rfl rfl rfl rfl (by decide) ?_
              | (refine ops_nil ?_; intro e2 h2; simp only [restr, kpSame, List.map_cons, List.map_nil, Ev.get, reduceIte, Nat.reduceEqDiff] at h2; subst h2))
            refine runs_cond rfl (fun hc => ?_) (fun hc => ?_)
            · have hne : l1 ≠ l2 := by
                rintro rfl
                simp at hc
              repeat (first
                | refine runs_seq ?_ | refine runs_block ?_ | refine next_normal ?_ | refine inside_normal ?_ | refine next_exit ?_ | refine inside_exit ?_ | refine inside_other (by decide) ?_ | refine next_ret ?_ | refine inside_ret ?_
                | refine runs_ops_kept ?_ | refine runs_skip ?_ | refine runs_exit ?_ | refine runs_ret ?_
                | ((first | refine' ops_op rfl rfl (by decide) ?_ ?_ ?_ | refine' ops_yes rfl rfl (by simp only [Ev.get, reduceIte, Nat.reduceEqDiff, szStr, szInt, Option.getD_some, isNil, loadStr, loadInt, mkInts0, mkInts1, mkStrs0, mkStrs1, rowsS_len, rowsI_len, rowsN_len, evStr, fldOp, ldOp]; first | done | rfl) rfl (by decide) ?_ ?_ ?_ | refine' ops_op0 rfl rfl ?_ ?_ ?_); rotate_left 2; (focus (simp only [evOp, opd, constAV, constCell, Ev.get, reduceIte, Nat.reduceEqDiff, reduceCtorEq, evBinN, nilCmp, evBin, evInt, evUn, evConvert, evBuiltin, evLen, evField, evPart, tStr, tInt, tElem, tArr, tBool, tAgg, tField, Try.underlying9, Try.underlying3, Try.underlying4, Try.underlying5, Try.underlying21, Try.underlying121, Try.underlying38, Try.underlying25, Try.underlying135, Try.underlying33, Try.underlying2, Try.underlying147, Try.underlying22, Try.underlying56, Try.underlying54, List.zipWith, Option.map_some, Option.map_none, List.length_cons, List.length_nil, ne_eq, Int.reduceEq, not_false_eq_true, and_self, and_true, true_and, szStr, szInt, Option.getD_some, isNil, loadStr, loadInt, mkInts0, mkInts1, mkStrs0, mkStrs1, rowsS_len, rowsI_len, rowsN_len, evStr, fldOp, ldOp, evCall, List.size_toArray, List.append_nil, List.nil_append, List.map_cons, List.map_nil, argAV, argCell, List.toList_toArray, fieldTy]; first | done | rfl)); exact (fun h => by first | rfl | (simp at h; done) | exact absurd (Bool.and_eq_true_iff.mp h).2 (by decide)))
                | refine ops_no rfl rfl (by simp only [Ev.get, reduceIte, Nat.reduceEqDiff, szStr, szInt, Option.getD_some, isNil, loadStr, loadInt, mkInts0, mkInts1, mkStrs0, mkStrs1, rowsS_len, rowsI_len, rowsN_len, evStr, fldOp, ldOp]; first | done | rfl) (by decide) rfl (by decide) ?_
                | refine ops_off rfl rfl rfl rfl (by decide) ?_
                | (refine ops_nil ?_; intro e2 h2; simp only [restr, kpSame, List.map_cons, List.map_nil, Ev.get, reduceIte, Nat.reduceEqDiff] at h2; subst h2))
              exact leaves_v rfl (by rw [decide_eq_false hne]; rfl)
            · have he : l1.getD i 0 = l2.getD i 0 := by
                have : ((l1.getD i 0) != (l2.getD i 0)) = false := hc
                simpa only [bne_eq_false_iff_eq] using this
              have r1 := next_i64 (i := i) (by omega)
              repeat (first
                | refine runs_seq ?_ | refine runs_block ?_ | refine next_normal ?_ | refine inside_normal ?_ | refine next_exit ?_ | refine inside_exit ?_ | refine inside_other (by decide) ?_ | refine next_ret ?_ | refine inside_ret ?_
                | refine runs_ops_kept ?_ | refine runs_skip ?_ | refine runs_exit ?_ | refine runs_ret ?_
                | ((first | refine' ops_op rfl rfl (by decide) ?_ ?_ ?_ | refine' ops_yes rfl rfl (by simp only [Ev.get, reduceIte, Nat.reduceEqDiff, szStr, szInt, Option.getD_some, isNil, loadStr, loadInt, mkInts0, mkInts1, mkStrs0, mkStrs1, rowsS_len, rowsI_len, rowsN_len, evStr, fldOp, ldOp, r1]; first | done | rfl) rfl (by decide) ?_ ?_ ?_ | refine' ops_op0 rfl rfl ?_ ?_ ?_); rotate_left 2; (focus (simp only [evOp, opd, constAV, constCell, Ev.get, reduceIte, Nat.reduceEqDiff, reduceCtorEq, evBinN, nilCmp, evBin, evInt, evUn, evConvert, evBuiltin, evLen, evField, evPart, tStr, tInt, tElem, tArr, tBool, tAgg, tField, Try.underlying9, Try.underlying3, Try.underlying4, Try.underlying5, Try.underlying21, Try.underlying121, Try.underlying38, Try.underlying25, Try.underlying135, Try.underlying33, Try.underlying2, Try.underlying147, Try.underlying22, Try.underlying56, Try.underlying54, List.zipWith, Option.map_some, Option.map_none, List.length_cons, List.length_nil, ne_eq, Int.reduceEq, not_false_eq_true, and_self, and_true, true_and, szStr, szInt, Option.getD_some, isNil, loadStr, loadInt, mkInts0, mkInts1, mkStrs0, mkStrs1, rowsS_len, rowsI_len, rowsN_len, evStr, fldOp, ldOp, evCall, List.size_toArray, List.append_nil, List.nil_append, List.map_cons, List.map_nil, argAV, argCell, List.toList_toArray, fieldTy, r1]; first | done | rfl)); exact (fun h => by first | rfl | (simp at h; done) | exact absurd (Bool.and_eq_true_iff.mp h).2 (by decide)))
                | refine ops_no rfl rfl (by simp only [Ev.get, reduceIte, Nat.reduceEqDiff, szStr, szInt, Option.getD_some, isNil, loadStr, loadInt, mkInts0, mkInts1, mkStrs0, mkStrs1, rowsS_len, rowsI_len, rowsN_len, evStr, fldOp, ldOp, r1]; first | done | rfl) (by decide) rfl (by decide) ?_
                | refine ops_off rfl rfl rfl rfl (by decide) ?_
                | (refine ops_nil ?_; intro e2 h2; simp only [restr, kpSame, List.map_cons, List.map_nil, Ev.get, reduceIte, Nat.reduceEqDiff] at h2; subst h2))
              exact ⟨l1.length - (i + 1), by omega, i + 1, _, _, _, hi1, fun j hj => by
                rcases Nat.lt_succ_iff_lt_or_eq.1 hj with hj | rfl
                · exact heq j hj
                · exact he, rfl, rfl, rfl⟩
          · have hi1 : i = l1.length := by have := of_decide_eq_false hc; omega
            have he : l1 = l2 := getD_ext hlen (by rw [← hi1]; exact heq)
            repeat (first
              | refine runs_seq ?_ | refine runs_block ?_ | refine next_normal ?_ | refine inside_normal ?_ | refine next_exit ?_ | refine inside_exit ?_ | refine inside_other (by decide) ?_ | refine next_ret ?_ | refine inside_ret ?_
              | refine runs_ops_kept ?_ | refine runs_skip ?_ | refine runs_exit ?_ | refine runs_ret ?_
              | ((first | refine' ops_op rfl rfl (by decide) ?_ ?_ ?_ | refine' ops_yes rfl rfl (by simp only [Ev.get, reduceIte, Nat.reduceEqDiff, szStr, szInt, Option.getD_some, isNil, loadStr, loadInt, mkInts0, mkInts1, mkStrs0, mkStrs1, rowsS_len, rowsI_len, rowsN_len, evStr, fldOp, ldOp]; first | done | rfl) rfl (by decide) ?_ ?_ ?_ | refine' ops_op0 rfl rfl ?_ ?_ ?_); rotate_left 2; (focus (simp only [evOp, opd, constAV, constCell, Ev.get, reduceIte, Nat.reduceEqDiff, reduceCtorEq, evBinN, nilCmp, evBin, evInt, evUn, evConvert, evBuiltin, evLen, evField, evPart, tStr, tInt, tElem, tArr, tBool, tAgg, tField, Try.underlying9, Try.underlying3, Try.underlying4, Try.underlying5, Try.underlying21, Try.underlying121, Try.underlying38, Try.underlying25, Try.underlying135, Try.underlying33, Try.underlying2, Try.underlying147, Try.underlying22, Try.underlying56, Try.underlying54, List.zipWith, Option.map_some, Option.map_none, List.length_cons, List.length_nil, ne_eq, Int.reduceEq, not_false_eq_true, and_self, and_true, true_and, szStr, szInt, Option.getD_some, isNil, loadStr, loadInt, mkInts0, mkInts1, mkStrs0, mkStrs1, rowsS_len, rowsI_len, rowsN_len, evStr, fldOp, ldOp, evCall, List.size_toArray, List.append_nil, List.nil_append, List.map_cons, List.map_nil, argAV, argCell, List.toList_toArray, fieldTy]; first | done | rfl)); exact (fun h => by first | rfl | (simp at h; done) | exact absurd (Bool.and_eq_true_iff.mp h).2 (by decide)))
              | refine ops_no rfl rfl (by simp only [Ev.get, reduceIte, Nat.reduceEqDiff, szStr, szInt, Option.getD_some, isNil, loadStr, loadInt, mkInts0, mkInts1, mkStrs0, mkStrs1, rowsS_len, rowsI_len, rowsN_len, evStr, fldOp, ldOp]; first | done | rfl) (by decide) rfl (by decide) ?_
              | refine ops_off rfl rfl rfl rfl (by decide) ?_
              | (refine ops_nil ?_; intro e2 h2; simp only [restr, kpSame, List.map_cons, List.map_nil, Ev.get, reduceIte, Nat.reduceEqDiff] at h2; subst h2))
            exact leaves_v rfl (by rw [decide_eq_true he]; rfl)
      · cases h
    · cases h
  · cases h
end Go.Proofs.Ytojaokhkbmiidaa.Ev
