/- Nodes: the program's test of one node, kind by kind. -/
import Derived.Test.YtojaokhkbmiidaaCoZ
namespace Go.Proofs.Ytojaokhkbmiidaa.Ev
open Go Go.Proofs
set_option maxRecDepth 10000
set_option maxHeartbeats 16000000
set_option linter.unusedVariables false
set_option linter.unusedSimpArgs false
attribute [local irreducible] Next Inside Runs Ops table
def lastsG : List AV → Mem → Option (AV × Mem)
  | [.agg [.v (.int .i64 u), .v (.int .i64 n)]], m => some (.v (.bool (decide (u ≠ 3 ∧ lenMay u n))), m)
  | _, _ => none
def kpLasts : Nat → Option (List Nat) := fun _ => some [0, 1, 2]
theorem lasts_ok : FunOk Try.prog 58 lastsG := by
  have hC := table_ok (P := Try.prog) (l := [(76, lenCheckG)]) (table_more lenCheck_ok table_nil)
  have t1 := fun args mm => table_at (l := [(76, lenCheckG)]) (f := 76) (args := args) (m := mm) rfl
  refine fun_ok mixed hC Try.func58 rfl kpLasts false rfl fun args m r h => ?_
  unfold lastsG at h
  split at h
  · rename_i u n
    simp only [Option.some.injEq] at h
    subst h
    refine ⟨Nat.le_of_ble_eq_true rfl, ?_⟩
    simp only [entry, List.length_cons, List.length_nil, List.range, List.range.loop, List.zip_cons_cons, List.zip_nil_right]
    have fl : ∀ mm, lenCheckG [.agg [.v (.int .i64 u), .v (.int .i64 n)]] mm = some (.v (.int .i64 (if lenMay u n then 0 else 1)), mm) := fun _ => rfl
    have fe : ((if lenMay u n then (0 : Int) else 1) == 0) = decide (lenMay u n) := by
      by_cases h : lenMay u n
      · rw [if_pos h, decide_eq_true h]; rfl
      · rw [if_neg h, decide_eq_false h]; rfl
    by_cases h3 : u = 3
    · have b3 : (u != 3) = false := by rw [h3]; rfl
      rw [decide_eq_false (fun h => h.1 h3)]
      repeat (first
        | refine runs_seq ?_ | refine runs_block ?_ | refine next_normal ?_ | refine inside_normal ?_ | refine next_exit ?_ | refine inside_exit ?_ | refine inside_other (by decide) ?_ | refine next_ret ?_ | refine inside_ret ?_
        | refine runs_ops_kept ?_ | refine runs_skip ?_ | refine runs_exit ?_ | refine runs_ret ?_
        | ((first | refine' ops_op rfl rfl (by decide) ?_ ?_ ?_ | refine' ops_yes rfl rfl (by simp only [Ev.get, reduceIte, Nat.reduceEqDiff, szStr, szInt, Option.getD_some, isNil, loadStr, loadInt, evStr, len0, len1, loadOne, loadLen, cellsLen, newLen, Nat.zero_add, List.drop_zero, List.drop_succ_cons, List.head?_cons, b3, t1, fl, fe]; first | done | rfl) rfl (by decide) ?_ ?_ ?_ | refine' ops_op0 rfl rfl ?_ ?_ ?_); rotate_left 2; (focus (simp only [evOp, opd, constAV, constCell, Ev.get, reduceIte, Nat.reduceEqDiff, reduceCtorEq, evBinN, nilCmp, evBin, evInt, evUn, evConvert, evBuiltin, evLen, evField, evPart, tStr, tInt, tElem, tArr, tBool, tAgg, tField, Try.underlying9, Try.underlying3, Try.underlying4, Try.underlying5, Try.underlying21, Try.underlying121, Try.underlying38, Try.underlying25, Try.underlying135, Try.underlying33, Try.underlying2, Try.underlying147, Try.underlying22, Try.underlying56, Try.underlying54, List.zipWith, Option.map_some, Option.map_none, List.length_cons, List.length_nil, ne_eq, Int.reduceEq, not_false_eq_true, and_self, and_true, true_and, szStr, szInt, Option.getD_some, isNil, loadStr, loadInt, evStr, len0, len1, loadOne, loadLen, cellsLen, newLen, Nat.zero_add, List.drop_zero, List.drop_succ_cons, List.head?_cons, evCall, List.size_toArray, List.append_nil, List.nil_append, List.map_cons, List.map_nil, argAV, argCell, List.toList_toArray, fieldTy, b3, t1, fl, fe]; first | done | rfl)); exact (fun h => by first | rfl | (simp at h; done) | exact absurd (Bool.and_eq_true_iff.mp h).2 (by decide)))
        | refine ops_no rfl rfl (by simp only [Ev.get, reduceIte, Nat.reduceEqDiff, szStr, szInt, Option.getD_some, isNil, loadStr, loadInt, evStr, len0, len1, loadOne, loadLen, cellsLen, newLen, Nat.zero_add, List.drop_zero, List.drop_succ_cons, List.head?_cons, b3, t1, fl, fe]; first | done | rfl) (by decide) rfl (by decide) ?_
        | refine ops_off rfl rfl rfl rfl (by decide) ?_
        | (refine ops_nil ?_; intro e2 h2; simp only [restr, kpLasts, List.map_cons, List.map_nil, Ev.get, reduceIte, Nat.reduceEqDiff] at h2; subst h2))
      exact leaves_fin rfl rfl fin_push
    · have b3 : (u != 3) = true := bne_iff_ne.2 h3
      have e1 : decide (u ≠ 3 ∧ lenMay u n) = decide (lenMay u n) := by
        by_cases h : lenMay u n
        · rw [decide_eq_true h, decide_eq_true ⟨h3, h⟩]
        · rw [decide_eq_false h, decide_eq_false fun hh => h hh.2]
      rw [e1]
      repeat (first
        | refine runs_seq ?_ | refine runs_block ?_ | refine next_normal ?_ | refine inside_normal ?_ | refine next_exit ?_ | refine inside_exit ?_ | refine inside_other (by decide) ?_ | refine next_ret ?_ | refine inside_ret ?_
        | refine runs_ops_kept ?_ | refine runs_skip ?_ | refine runs_exit ?_ | refine runs_ret ?_
        | ((first | refine' ops_op rfl rfl (by decide) ?_ ?_ ?_ | refine' ops_yes rfl rfl (by simp only [Ev.get, reduceIte, Nat.reduceEqDiff, szStr, szInt, Option.getD_some, isNil, loadStr, loadInt, evStr, len0, len1, loadOne, loadLen, cellsLen, newLen, Nat.zero_add, List.drop_zero, List.drop_succ_cons, List.head?_cons, b3, t1, fl, fe]; first | done | rfl) rfl (by decide) ?_ ?_ ?_ | refine' ops_op0 rfl rfl ?_ ?_ ?_); rotate_left 2; (focus (simp only [evOp, opd, constAV, constCell, Ev.get, reduceIte, Nat.reduceEqDiff, reduceCtorEq, evBinN, nilCmp, evBin, evInt, evUn, evConvert, evBuiltin, evLen, evField, evPart, tStr, tInt, tElem, tArr, tBool, tAgg, tField, Try.underlying9, Try.underlying3, Try.underlying4, Try.underlying5, Try.underlying21, Try.underlying121, Try.underlying38, Try.underlying25, Try.underlying135, Try.underlying33, Try.underlying2, Try.underlying147, Try.underlying22, Try.underlying56, Try.underlying54, List.zipWith, Option.map_some, Option.map_none, List.length_cons, List.length_nil, ne_eq, Int.reduceEq, not_false_eq_true, and_self, and_true, true_and, szStr, szInt, Option.getD_some, isNil, loadStr, loadInt, evStr, len0, len1, loadOne, loadLen, cellsLen, newLen, Nat.zero_add, List.drop_zero, List.drop_succ_cons, List.head?_cons, evCall, List.size_toArray, List.append_nil, List.nil_append, List.map_cons, List.map_nil, argAV, argCell, List.toList_toArray, fieldTy, b3, t1, fl, fe]; first | done | rfl)); exact (fun h => by first | rfl | (simp at h; done) | exact absurd (Bool.and_eq_true_iff.mp h).2 (by decide)))
        | refine ops_no rfl rfl (by simp only [Ev.get, reduceIte, Nat.reduceEqDiff, szStr, szInt, Option.getD_some, isNil, loadStr, loadInt, evStr, len0, len1, loadOne, loadLen, cellsLen, newLen, Nat.zero_add, List.drop_zero, List.drop_succ_cons, List.head?_cons, b3, t1, fl, fe]; first | done | rfl) (by decide) rfl (by decide) ?_
        | refine ops_off rfl rfl rfl rfl (by decide) ?_
        | (refine ops_nil ?_; intro e2 h2; simp only [restr, kpLasts, List.map_cons, List.map_nil, Ev.get, reduceIte, Nat.reduceEqDiff] at h2; subst h2))
      exact leaves_fin rfl rfl fin_push
  · cases h
/-! ### two nodes in memory -/
theorem varUnder {m : Mem} {a b : List AV} : ((m.push a).push b).var m.vars.length = some a := by
  unfold Mem.var Mem.push
  simp [List.getElem?_append]
theorem agNode : tAgg Try.prog 56 = some true := by kernel_rfl
theorem agLen : tAgg Try.prog 54 = some true := by kernel_rfl
theorem szLen : tSize Try.prog 54 = some 2 := by kernel_rfl
theorem underInt {m : Mem} {op a b c k u n : Int} {K : List AV} {off : Nat} : evLoad Try.prog ((m.push (nrow op a b c k u n)).push K) 3 (.ptr m.vars.length off) = ((nrow op a b c k u n).drop off).head? := by
  unfold evLoad
  simp only [ptrCells, varUnder, Option.map_some, szInt, agInt]
theorem underLen {m : Mem} {op a b c k u n : Int} {K : List AV} : evLoad Try.prog ((m.push (nrow op a b c k u n)).push K) 54 (.ptr m.vars.length 5) = some (.agg [.v (.int .i64 u), .v (.int .i64 n)]) := by
  unfold evLoad
  simp only [ptrCells, varUnder, Option.map_some, szLen, agLen]
  rfl
theorem underNode {m : Mem} {op a b c k u n : Int} {K : List AV} : evLoad Try.prog ((m.push (nrow op a b c k u n)).push K) 56 (.ptr m.vars.length 0) = some (.agg (nrow op a b c k u n)) := by
  unfold evLoad
  simp only [ptrCells, varUnder, Option.map_some, szNode, agNode]
  rfl
theorem topNode {m : Mem} {op a b c k u n : Int} : evLoad Try.prog (m.push (nrow op a b c k u n)) 56 (.ptr m.vars.length 0) = some (.agg (nrow op a b c k u n)) := by
  unfold evLoad
  simp only [ptrCells, push_var, Option.map_some, szNode, agNode]
  rfl
theorem zeroNode : zeroCells Try.prog 56 = some (nrow 0 0 0 0 0 0 0) := by kernel_rfl
theorem okNode {op a b c k u n : Int} : (nrow op a b c k u n).all okCell = true := rfl
theorem putNode {m : Mem} {op a b c k u n op2 a2 b2 c2 k2 u2 n2 : Int} : evStore Try.prog (m.push (nrow op a b c k u n)) 56 (.ptr m.vars.length 0) (.agg (nrow op2 a2 b2 c2 k2 u2 n2)) = some (m.push (nrow op2 a2 b2 c2 k2 u2 n2)) := by
  rw [store_push (cs := nrow op2 a2 b2 c2 k2 u2 n2) rfl szNode (Nat.le_refl _) rfl]
  rfl
theorem putC {m : Mem} {op a b c k u n c2 : Int} : evStore Try.prog (m.push (nrow op a b c k u n)) 3 (.ptr m.vars.length 3) (.v (.int .i64 c2)) = some (m.push (nrow op a b c2 k u n)) := by
  rw [store_push (cs := [.v (.int .i64 c2)]) rfl szInt (Nat.le_of_ble_eq_true rfl) rfl]
  rfl
theorem putLen {m : Mem} {op a b c k u n u2 n2 : Int} : evStore Try.prog (m.push (nrow op a b c k u n)) 54 (.ptr m.vars.length 5) (.agg [.v (.int .i64 u2), .v (.int .i64 n2)]) = some (m.push (nrow op a b c k u2 n2)) := by
  rw [store_push (cs := [.v (.int .i64 u2), .v (.int .i64 n2)]) rfl szLen (Nat.le_of_ble_eq_true rfl) rfl]
  rfl
theorem mkKept {op a b k : Int} : evBuild Try.prog 56 [(0, .v (.int .i64 op)), (1, .v (.int .i64 a)), (2, .v (.int .i64 b)), (4, .v (.int .i64 k))] = some (.agg (nrow op a b 0 k 0 0)) := by kernel_rfl
theorem mkA {op a : Int} : evBuild Try.prog 56 [(0, .v (.int .i64 op)), (1, .v (.int .i64 a))] = some (.agg (nrow op a 0 0 0 0 0)) := by kernel_rfl
theorem mkAB {op a b : Int} : evBuild Try.prog 56 [(0, .v (.int .i64 op)), (1, .v (.int .i64 a)), (2, .v (.int .i64 b))] = some (.agg (nrow op a b 0 0 0 0)) := by kernel_rfl
theorem mkAL {op a u n : Int} : evBuild Try.prog 56 [(0, .v (.int .i64 op)), (1, .v (.int .i64 a)), (5, .agg [.v (.int .i64 u), .v (.int .i64 n)])] = some (.agg (nrow op a 0 0 0 u n)) := by kernel_rfl
theorem mkL {op u n : Int} : evBuild Try.prog 56 [(0, .v (.int .i64 op)), (5, .agg [.v (.int .i64 u), .v (.int .i64 n)])] = some (.agg (nrow op 0 0 0 0 u n)) := by kernel_rfl
theorem niNode : noIface Try.prog 8 56 = true := by kernel_rfl
theorem eqNode {op a b c k u n op2 a2 b2 c2 k2 u2 n2 : Int} : eqTy Try.prog 8 56 (.agg (nrow op a b c k u n)) (.agg (nrow op2 a2 b2 c2 k2 u2 n2)) =
    some ((op == op2) && ((a == a2) && ((b == b2) && ((c == c2) && ((k == k2) && (((u == u2) && ((n == n2) && true)) && true)))))) := by kernel_rfl
attribute [local irreducible] nrow
def kpMay : Nat → Option (List Nat) := fun _ => some [0, 1, 2, 3, 25, 36, 37, 46, 58, 68, 78, 96, 109]
def tabMay : List (FuncId × (List AV → Mem → Option (AV × Mem))) := [(57, upTo 4503599627370496), (58, lastsG), (59, upTo 1099511627776)]
theorem ll_eq (u n : Int) (mm : Mem) : lastsG [.agg [.v (.int .i64 u), .v (.int .i64 n)]] mm = some (.v (.bool (decide (u ≠ 3 ∧ lenMay u n))), mm) := rfl
theorem fin_two {m : Mem} {a b : List AV} : finMem m ((m.push a).push b) = m := by
  unfold finMem
  have h : ((m.push a).push b).vars.take m.vars.length = m.vars := by simp [Mem.push]
  rw [if_pos h]
  show (⟨m.vars, m.toks.take m.toks.length⟩ : Mem) = m
  rw [List.take_length]
end Go.Proofs.Ytojaokhkbmiidaa.Ev
