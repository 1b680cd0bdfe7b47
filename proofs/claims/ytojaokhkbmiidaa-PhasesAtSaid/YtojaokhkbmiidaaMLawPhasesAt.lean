/- What the laws of layers 21, 22 and 55 ask besides: their examples. -/
import Derived.Test.YtojaokhkbmiidaaMbjai2
import Derived.Test.YtojaokhkbmiidaaMa2
import Derived.Test.YtojaokhkbmiidaaMbjai3
import Derived.Test.YtojaokhkbmiidaaRows
import Derived.KernelRfl
namespace Go.Proofs.Ytojaokhkbmiidaa.Ev
open Go Go.Proofs
set_option maxRecDepth 10000
set_option maxHeartbeats 8000000
set_option linter.unusedVariables false
set_option linter.unusedSimpArgs false
attribute [local irreducible] Next Inside Runs Ops table
def extC : Ctx := ⟨fun _ _ => none, fun _ => false, fun f => if f = 106 then some isNameG else if f = 91 then some setsG else if f = 82 then some endsRG else none⟩
theorem extC_ok : ∀ f g, extC.ext f = some g → FunOk Try.prog f g := by
  intro f g h
  unfold extC at h
  simp only at h
  split at h
  · rename_i e
    cases h
    subst e
    exact is_ok
  · split at h
    · rename_i e
      cases h
      subst e
      exact sets_ok
    · split at h
      · rename_i e
        cases h
        subst e
        exact endsR_ok
      · cases h
theorem awake_of {f : FuncId} (hrun : runC Try.prog extC 60 f [] ⟨[], []⟩ = some (.v (.bool true), ⟨[], []⟩)) : FunOk Try.prog f yesG := by
  have h := wide_ok (P := Try.prog) (f := f) (x := .bool true) fun args m r m' hg => by
    dsimp only at hg
    split at hg
    · rename_i hc
      obtain ⟨rfl, h1, h2⟩ := hc
      obtain ⟨v, t⟩ := m
      simp only at h1 h2
      subst h1
      subst h2
      cases hg
      exact runC_ok mixed extC_ok 60 _ _ _ _ _ hrun
    · cases hg
  intro args m r m' hg
  refine h args m r m' ?_
  cases args with
  | nil => exact hg
  | cons a rest => cases hg
theorem awake22_ok : FunOk Try.prog 29 yesG := awake_of (by kernel_rfl)
end Go.Proofs.Ytojaokhkbmiidaa.Ev

namespace Go.Proofs.Ytojaokhkbmiidaa.Ev
open Go Go.Proofs
set_option maxRecDepth 10000
set_option maxHeartbeats 8000000
set_option linter.unusedVariables false
set_option linter.unusedSimpArgs false
attribute [local irreducible] Next Inside Runs Ops table
theorem typed_int {d : Nat} {p : List AV} (h : Typed Try.prog (d + 1) 3 p) : ∃ n, inI n ∧ p = [iv n] := by
  unfold Typed at h
  rw [Try.underlying3] at h
  obtain ⟨n, rfl, n0, n1⟩ := h
  simp [IntKind.min, IntKind.max, IntKind.signed, IntKind.bits] at n0 n1
  exact ⟨n, ⟨n0, n1⟩, rfl⟩
theorem typed_flaw {d : Nat} {row : List AV} (h : Typed Try.prog (d + 2) 43 row) : ∃ x : Fl, x.ok ∧ row = x.row := by
  unfold Typed at h
  rw [Try.underlying43] at h
  obtain ⟨parts, rfl, hl, h⟩ := h
  match parts, hl with
  | [p0, p1, p2], _ =>
    obtain ⟨a, a0, rfl⟩ := typed_int (h 0 _ p0 rfl rfl)
    obtain ⟨b, b0, rfl⟩ := typed_int (h 1 _ p1 rfl rfl)
    obtain ⟨c, c0, rfl⟩ := typed_int (h 2 _ p2 rfl rfl)
    exact ⟨⟨a, b, c⟩, ⟨a0, b0, c0⟩, rfl⟩
theorem typed_span {d : Nat} {row : List AV} (h : Typed Try.prog (d + 2) 47 row) : ∃ x : Sp, row = x.row := by
  unfold Typed at h
  rw [Try.underlying47] at h
  obtain ⟨parts, rfl, hl, h⟩ := h
  match parts, hl with
  | [p0, p1], _ =>
    obtain ⟨a, a0, rfl⟩ := typed_int (h 0 _ p0 rfl rfl)
    obtain ⟨b, b0, rfl⟩ := typed_int (h 1 _ p1 rfl rfl)
    exact ⟨⟨a, b⟩, rfl⟩
theorem rows_flaws {d : Nat} : ∀ {rows : List (List AV)}, (∀ row ∈ rows, Typed Try.prog (d + 2) 43 row) → ∃ l : List Fl, (∀ x ∈ l, x.ok) ∧ rows = rowsFl l
  | [], _ => ⟨[], (fun x h => by simp at h), rfl⟩
  | row :: rows, h => by
    obtain ⟨l, h1, rfl⟩ := rows_flaws fun r hr => h r (List.mem_cons_of_mem _ hr)
    obtain ⟨x, h2, rfl⟩ := typed_flaw (h row (List.mem_cons_self ..))
    refine ⟨x :: l, fun y hy => ?_, rfl⟩
    rcases List.mem_cons.1 hy with rfl | hy
    · exact h2
    · exact h1 y hy
theorem rows_spans {d : Nat} : ∀ {rows : List (List AV)}, (∀ row ∈ rows, Typed Try.prog (d + 2) 47 row) → ∃ l : List Sp, rows = rowsSp l
  | [], _ => ⟨[], rfl⟩
  | row :: rows, h => by
    obtain ⟨l, rfl⟩ := rows_spans fun r hr => h r (List.mem_cons_of_mem _ hr)
    obtain ⟨x, rfl⟩ := typed_span (h row (List.mem_cons_self ..))
    exact ⟨x :: l, rfl⟩
theorem arg_flaws {d : Nat} {a : AV} (h : TypedArg Try.prog (d + 3) 37 a) : ∃ l : List Fl, (∀ x ∈ l, x.ok) ∧ l.length ≤ 9223372036854775807 ∧ a = .lst .no 3 (rowsFl l) := by
  obtain ⟨rows, rfl, h1, h2⟩ := arg_slice Try.underlying37 h
  obtain ⟨l, h3, rfl⟩ := rows_flaws h2
  exact ⟨l, h3, by rw [rowsFl_len] at h1; exact h1, by rw [size_cells szFl]⟩
theorem arg_spans {d : Nat} {a : AV} (h : TypedArg Try.prog (d + 3) 45 a) : ∃ l : List Sp, l.length ≤ 9223372036854775807 ∧ a = .lst .no 2 (rowsSp l) := by
  obtain ⟨rows, rfl, h1, h2⟩ := arg_slice Try.underlying45 h
  obtain ⟨l, rfl⟩ := rows_spans h2
  exact ⟨l, by rw [rowsSp_len] at h1; exact h1, by rw [size_cells szSp]⟩
end Go.Proofs.Ytojaokhkbmiidaa.Ev

namespace Go.Proofs.Ytojaokhkbmiidaa.Ev
open Go Go.Proofs
set_option maxRecDepth 10000
set_option maxHeartbeats 8000000
set_option linter.unusedVariables false
set_option linter.unusedSimpArgs false
attribute [local irreducible] Next Inside Runs Ops table
def spanHas (step : Int) (s : Sp) : Bool := decide (s.from_ ≤ step) && decide (step < s.to_)
def spanHasG : List AV → Mem → Option (AV × Mem)
  | [.agg cs, .ptr r 0], m =>
    match unSp cs, m.var r with
    | some s, some [.v (.int .i64 step)] => some (.v (.bool (spanHas step s)), m)
    | _, _ => none
  | _, _ => none
theorem lpInt1 {m : Mem} {r : Nat} {n : Int} (hv : m.var r = some [.v (.int .i64 n)]) : evLoad Try.prog m 3 (.ptr r 0) = some (.v (.int .i64 n)) := by
  unfold evLoad
  simp only [ptrCells, hv, Option.map_some, szInt, agInt]
  rfl
def kpSpanHas : Nat → Option (List Nat) := fun
  | 0 => some [1, 2]
  | 1 => some [3]
  | _ => none
theorem spanHas_ok : FunOk Try.prog 48 spanHasG := by
  have hC := table_ok (P := Try.prog) (l := []) table_nil
  refine fun_ok mixed hC Try.func48 rfl kpSpanHas false rfl fun args m r h => ?_
  unfold spanHasG at h
  split at h
  · rename_i cs r0
    split at h
    · rename_i s step hs hv
      obtain rfl := unSp_some hs
      simp only [Option.some.injEq] at h
      subst h
      refine ⟨Nat.le_of_ble_eq_true rfl, ?_⟩
      simp only [entry, List.length_cons, List.length_nil, List.range, List.range.loop, List.zip_cons_cons, List.zip_nil_right]
      have hp : (m.push s.row).var m.vars.length = some s.row := push_var
      have f1 := lpSpFrom_ hp
      have f2 := lpSpTo_ hp
      have f3 := lpInt1 (push_old (cs' := s.row) hv)
      have fin : ∀ (e : Env) (b : Bool), Ev.get e 3 = .v (.bool b) → b = spanHas step s → Leaves Try.prog false Try.f48 m (.v (.bool (spanHas step s)), m) .ret e (m.push s.row) := fun e b h1 h2 => by
        rw [← h2]; exact leaves_fin rfl h1 fin_push
      repeat' (first
        | (first | refine runs_seq ?_ | refine runs_block ?_ | refine next_normal ?_ | refine inside_normal ?_ | refine next_exit ?_ | refine inside_exit ?_ | refine inside_other (by decide) ?_ | refine next_ret ?_ | refine inside_ret ?_ | refine runs_ops_kept ?_ | refine runs_skip ?_ | refine runs_exit ?_ | refine runs_ret ?_ | ((first | refine' ops_op rfl rfl (by decide) ?_ ?_ ?_ | refine' ops_yes rfl rfl (by simp only [Ev.get, reduceIte, Nat.reduceEqDiff, szStr, szInt, Option.getD_some, isNil, evStr, iv, loadInt, rowsSp_len, fpSpFrom_, fpSpTo_, feSpFrom_, feSpTo_, leSpFrom_, leSpTo_, ldSp, newSp, cellsSp, mapSp, List.cons_append, f1, f2, f3]; first | done | rfl) rfl (by decide) ?_ ?_ ?_ | refine' ops_op0 rfl rfl ?_ ?_ ?_); rotate_left 2; (focus (simp only [evOp, opd, constAV, constCell, Ev.get, reduceIte, Nat.reduceEqDiff, reduceCtorEq, evBinN, nilCmp, evBin, evInt, evUn, evConvert, evBuiltin, evLen, evField, evPart, tStr, tInt, tElem, tArr, tBool, tAgg, tField, Try.underlying9, Try.underlying3, Try.underlying4, Try.underlying5, Try.underlying21, Try.underlying121, Try.underlying38, Try.underlying25, Try.underlying135, Try.underlying33, Try.underlying2, Try.underlying147, Try.underlying22, Try.underlying56, Try.underlying54, List.zipWith, Option.map_some, Option.map_none, List.length_cons, List.length_nil, ne_eq, Int.reduceEq, not_false_eq_true, and_self, and_true, true_and, szStr, szInt, Option.getD_some, isNil, evStr, iv, loadInt, rowsSp_len, fpSpFrom_, fpSpTo_, feSpFrom_, feSpTo_, leSpFrom_, leSpTo_, ldSp, newSp, cellsSp, mapSp, List.cons_append, evCall, List.size_toArray, List.append_nil, List.nil_append, List.map_cons, List.map_nil, argAV, argCell, List.toList_toArray, fieldTy, f1, f2, f3]; first | done | rfl)); exact (fun h => by first | rfl | (simp at h; done) | exact absurd (Bool.and_eq_true_iff.mp h).2 (by decide))) | refine ops_no rfl rfl (by simp only [Ev.get, reduceIte, Nat.reduceEqDiff, szStr, szInt, Option.getD_some, isNil, evStr, iv, loadInt, rowsSp_len, fpSpFrom_, fpSpTo_, feSpFrom_, feSpTo_, leSpFrom_, leSpTo_, ldSp, newSp, cellsSp, mapSp, List.cons_append, f1, f2, f3]; first | done | rfl) (by decide) rfl (by decide) ?_ | refine ops_off rfl rfl rfl rfl (by decide) ?_ | (refine ops_nil ?_; intro e2 h2; simp only [restr, kpSpanHas, List.map_cons, List.map_nil, Ev.get, reduceIte, Nat.reduceEqDiff] at h2; subst h2))
        | (refine ops_here ?_; (fail_if_success (refine ops_case (B := true) rfl rfl rfl ?_ ?_)); (fail_if_success (refine ops_case (B := false) rfl rfl rfl ?_ ?_)); refine ops_case rfl rfl rfl (fun hB => ?_) (fun hB => ?_) <;> rw [hB])
        | (refine runs_here ?_; refine runs_cond rfl (fun hc => ?_) (fun hc => ?_) <;> first | (cases hc; done) | skip))
      all_goals exact fin _ _ rfl (by first | (simp_all [spanHas]; done) | (simp_all [spanHas]; omega))
    · cases h
  · cases h
def spanFindG : List AV → Mem → Option (AV × Mem)
  | [.lst _ 2 rows, .fn (.func 48) [] [.ptr r 0]], m =>
    match unsSp rows, m.var r with
    | some l, some [.v (.int .i64 step)] => if l.length ≤ big40 then some (.v (.int .i64 (firstBy (spanHas step) l 0)), m) else none
    | _, _ => none
  | _, _ => none
def kpSpanFind : Nat → Option (List Nat) := fun
  | 0 => some [0, 1]
  | 1 => some [0, 1, 7, 8]
  | 2 => some [0, 1, 7, 8, 9]
  | 3 => some [0, 1, 5, 7, 8]
  | 4 => some [0, 1, 5, 7, 8, 16]
  | 5 => some [4]
  | 6 => some [0, 1, 7, 8]
  | 7 => some [4]
  | _ => none
def tab_spanFind_ok : List (FuncId × (List AV → Mem → Option (AV × Mem))) := [(48, spanHasG)]
theorem spanFind_ok : FunOk Try.prog 47 spanFindG := by
  have hC := table_ok (P := Try.prog) (l := tab_spanFind_ok) (table_more spanHas_ok table_nil)
  have t1 := fun args mm => table_at (l := tab_spanFind_ok) (f := 48) (args := args) (m := mm) rfl
  refine fun_ok mixed hC Try.func47 rfl kpSpanFind false rfl fun args m r h => ?_
  unfold spanFindG at h
  split at h
  · rename_i g rows r0
    split at h
    · rename_i l step hl0 hv
      obtain rfl := unsSp_some hl0
      split at h
      · rename_i hlen
        simp only [Option.some.injEq] at h
        subst h
        unfold big40 at hlen
        refine ⟨Nat.le_of_ble_eq_true rfl, ?_⟩
        simp only [entry, List.length_cons, List.length_nil, List.range, List.range.loop, List.zip_cons_cons, List.zip_nil_right]
        repeat (first
          | refine runs_seq ?_ | refine runs_block ?_ | refine next_normal ?_ | refine inside_normal ?_ | refine next_exit ?_ | refine inside_exit ?_ | refine inside_other (by decide) ?_ | refine next_ret ?_ | refine inside_ret ?_
          | refine runs_ops_kept ?_ | refine runs_skip ?_ | refine runs_exit ?_ | refine runs_ret ?_
          | ((first | refine' ops_op rfl rfl (by decide) ?_ ?_ ?_ | refine' ops_yes rfl rfl (by simp only [Ev.get, reduceIte, Nat.reduceEqDiff, szStr, szInt, Option.getD_some, isNil, evStr, iv, loadInt, rowsSp_len, fpSpFrom_, fpSpTo_, feSpFrom_, feSpTo_, leSpFrom_, leSpTo_, ldSp, newSp, cellsSp, mapSp, List.cons_append]; first | done | rfl) rfl (by decide) ?_ ?_ ?_ | refine' ops_op0 rfl rfl ?_ ?_ ?_); rotate_left 2; (focus (simp only [evOp, opd, constAV, constCell, Ev.get, reduceIte, Nat.reduceEqDiff, reduceCtorEq, evBinN, nilCmp, evBin, evInt, evUn, evConvert, evBuiltin, evLen, evField, evPart, tStr, tInt, tElem, tArr, tBool, tAgg, tField, Try.underlying9, Try.underlying3, Try.underlying4, Try.underlying5, Try.underlying21, Try.underlying121, Try.underlying38, Try.underlying25, Try.underlying135, Try.underlying33, Try.underlying2, Try.underlying147, Try.underlying22, Try.underlying56, Try.underlying54, List.zipWith, Option.map_some, Option.map_none, List.length_cons, List.length_nil, ne_eq, Int.reduceEq, not_false_eq_true, and_self, and_true, true_and, szStr, szInt, Option.getD_some, isNil, evStr, iv, loadInt, rowsSp_len, fpSpFrom_, fpSpTo_, feSpFrom_, feSpTo_, leSpFrom_, leSpTo_, ldSp, newSp, cellsSp, mapSp, List.cons_append, evCall, List.size_toArray, List.append_nil, List.nil_append, List.map_cons, List.map_nil, argAV, argCell, List.toList_toArray, fieldTy]; first | done | rfl)); exact (fun h => by first | rfl | (simp at h; done) | exact absurd (Bool.and_eq_true_iff.mp h).2 (by decide)))
          | refine ops_no rfl rfl (by simp only [Ev.get, reduceIte, Nat.reduceEqDiff, szStr, szInt, Option.getD_some, isNil, evStr, iv, loadInt, rowsSp_len, fpSpFrom_, fpSpTo_, feSpFrom_, feSpTo_, leSpFrom_, leSpTo_, ldSp, newSp, cellsSp, mapSp, List.cons_append]; first | done | rfl) (by decide) rfl (by decide) ?_
          | refine ops_off rfl rfl rfl rfl (by decide) ?_
          | (refine ops_nil ?_; intro e2 h2; simp only [restr, kpSpanFind, List.map_cons, List.map_nil, Ev.get, reduceIte, Nat.reduceEqDiff] at h2; subst h2))
        refine runs_loop (fun k e m' => ∃ (i : Nat), i ≤ l.length ∧ firstBy (spanHas step) (l.drop i) i = firstBy (spanHas step) l 0 ∧ m = m' ∧ k = l.length - i ∧
          e = [(0, AV.lst g 2 (rowsSp l)), (1, .fn (.func 48) [] [.ptr r0 0]), (7, .v (.int .i64 l.length)), (8, .v (.int .i64 (i : Int)))]) (k := l.length) ⟨0, Nat.zero_le _, rfl, rfl, rfl, rfl⟩ ?_
        rintro k e m' ⟨i, hi, hf, rfl, rfl, rfl⟩
        repeat (first
          | refine runs_seq ?_ | refine runs_block ?_ | refine next_normal ?_ | refine inside_normal ?_ | refine next_exit ?_ | refine inside_exit ?_ | refine inside_other (by decide) ?_ | refine next_ret ?_ | refine inside_ret ?_
          | refine runs_ops_kept ?_ | refine runs_skip ?_ | refine runs_exit ?_ | refine runs_ret ?_
          | ((first | refine' ops_op rfl rfl (by decide) ?_ ?_ ?_ | refine' ops_yes rfl rfl (by simp only [Ev.get, reduceIte, Nat.reduceEqDiff, szStr, szInt, Option.getD_some, isNil, evStr, iv, loadInt, rowsSp_len, fpSpFrom_, fpSpTo_, feSpFrom_, feSpTo_, leSpFrom_, leSpTo_, ldSp, newSp, cellsSp, mapSp, List.cons_append]; first | done | rfl) rfl (by decide) ?_ ?_ ?_ | refine' ops_op0 rfl rfl ?_ ?_ ?_); rotate_left 2; (focus (simp only [evOp, opd, constAV, constCell, Ev.get, reduceIte, Nat.reduceEqDiff, reduceCtorEq, evBinN, nilCmp, evBin, evInt, evUn, evConvert, evBuiltin, evLen, evField, evPart, tStr, tInt, tElem, tArr, tBool, tAgg, tField, Try.underlying9, Try.underlying3, Try.underlying4, Try.underlying5, Try.underlying21, Try.underlying121, Try.underlying38, Try.underlying25, Try.underlying135, Try.underlying33, Try.underlying2, Try.underlying147, Try.underlying22, Try.underlying56, Try.underlying54, List.zipWith, Option.map_some, Option.map_none, List.length_cons, List.length_nil, ne_eq, Int.reduceEq, not_false_eq_true, and_self, and_true, true_and, szStr, szInt, Option.getD_some, isNil, evStr, iv, loadInt, rowsSp_len, fpSpFrom_, fpSpTo_, feSpFrom_, feSpTo_, leSpFrom_, leSpTo_, ldSp, newSp, cellsSp, mapSp, List.cons_append, evCall, List.size_toArray, List.append_nil, List.nil_append, List.map_cons, List.map_nil, argAV, argCell, List.toList_toArray, fieldTy]; first | done | rfl)); exact (fun h => by first | rfl | (simp at h; done) | exact absurd (Bool.and_eq_true_iff.mp h).2 (by decide)))
          | refine ops_no rfl rfl (by simp only [Ev.get, reduceIte, Nat.reduceEqDiff, szStr, szInt, Option.getD_some, isNil, evStr, iv, loadInt, rowsSp_len, fpSpFrom_, fpSpTo_, feSpFrom_, feSpTo_, leSpFrom_, leSpTo_, ldSp, newSp, cellsSp, mapSp, List.cons_append]; first | done | rfl) (by decide) rfl (by decide) ?_
          | refine ops_off rfl rfl rfl rfl (by decide) ?_
          | (refine ops_nil ?_; intro e2 h2; simp only [restr, kpSpanFind, List.map_cons, List.map_nil, Ev.get, reduceIte, Nat.reduceEqDiff] at h2; subst h2))
        refine runs_cond rfl (fun hc => ?_) (fun hc => ?_)
        · have hi1 : i < l.length := by have := of_decide_eq_true hc; omega
          have f1 := atSp (g := g) (kk := .i64) hi1
          have f2 : spanHasG [.agg (l.getD i sp0).row, .ptr r0 0] m = some (.v (.bool (spanHas step (l.getD i sp0))), m) := by
            simp only [spanHasG, hv]
            rfl
          repeat (first
            | refine runs_seq ?_ | refine runs_block ?_ | refine next_normal ?_ | refine inside_normal ?_ | refine next_exit ?_ | refine inside_exit ?_ | refine inside_other (by decide) ?_ | refine next_ret ?_ | refine inside_ret ?_
            | refine runs_ops_kept ?_ | refine runs_skip ?_ | refine runs_exit ?_ | refine runs_ret ?_
            | ((first | refine' ops_op rfl rfl (by decide) ?_ ?_ ?_ | refine' ops_yes rfl rfl (by simp only [Ev.get, reduceIte, Nat.reduceEqDiff, szStr, szInt, Option.getD_some, isNil, evStr, iv, loadInt, rowsSp_len, fpSpFrom_, fpSpTo_, feSpFrom_, feSpTo_, leSpFrom_, leSpTo_, ldSp, newSp, cellsSp, mapSp, List.cons_append, f1, t1, f2]; first | done | rfl) rfl (by decide) ?_ ?_ ?_ | refine' ops_op0 rfl rfl ?_ ?_ ?_); rotate_left 2; (focus (simp only [evOp, opd, constAV, constCell, Ev.get, reduceIte, Nat.reduceEqDiff, reduceCtorEq, evBinN, nilCmp, evBin, evInt, evUn, evConvert, evBuiltin, evLen, evField, evPart, tStr, tInt, tElem, tArr, tBool, tAgg, tField, Try.underlying9, Try.underlying3, Try.underlying4, Try.underlying5, Try.underlying21, Try.underlying121, Try.underlying38, Try.underlying25, Try.underlying135, Try.underlying33, Try.underlying2, Try.underlying147, Try.underlying22, Try.underlying56, Try.underlying54, List.zipWith, Option.map_some, Option.map_none, List.length_cons, List.length_nil, ne_eq, Int.reduceEq, not_false_eq_true, and_self, and_true, true_and, szStr, szInt, Option.getD_some, isNil, evStr, iv, loadInt, rowsSp_len, fpSpFrom_, fpSpTo_, feSpFrom_, feSpTo_, leSpFrom_, leSpTo_, ldSp, newSp, cellsSp, mapSp, List.cons_append, evCall, List.size_toArray, List.append_nil, List.nil_append, List.map_cons, List.map_nil, argAV, argCell, List.toList_toArray, fieldTy, f1, t1, f2]; first | done | rfl)); exact (fun h => by first | rfl | (simp at h; done) | exact absurd (Bool.and_eq_true_iff.mp h).2 (by decide)))
            | refine ops_no rfl rfl (by simp only [Ev.get, reduceIte, Nat.reduceEqDiff, szStr, szInt, Option.getD_some, isNil, evStr, iv, loadInt, rowsSp_len, fpSpFrom_, fpSpTo_, feSpFrom_, feSpTo_, leSpFrom_, leSpTo_, ldSp, newSp, cellsSp, mapSp, List.cons_append, f1, t1, f2]; first | done | rfl) (by decide) rfl (by decide) ?_
            | refine ops_off rfl rfl rfl rfl (by decide) ?_
            | (refine ops_nil ?_; intro e2 h2; simp only [restr, kpSpanFind, List.map_cons, List.map_nil, Ev.get, reduceIte, Nat.reduceEqDiff] at h2; subst h2))
          refine runs_cond rfl (fun hc => ?_) (fun hc => ?_)
          · rw [by_yes hi1 hc hf]
            repeat (first
              | refine runs_seq ?_ | refine runs_block ?_ | refine next_normal ?_ | refine inside_normal ?_ | refine next_exit ?_ | refine inside_exit ?_ | refine inside_other (by decide) ?_ | refine next_ret ?_ | refine inside_ret ?_
              | refine runs_ops_kept ?_ | refine runs_skip ?_ | refine runs_exit ?_ | refine runs_ret ?_
              | ((first | refine' ops_op rfl rfl (by decide) ?_ ?_ ?_ | refine' ops_yes rfl rfl (by simp only [Ev.get, reduceIte, Nat.reduceEqDiff, szStr, szInt, Option.getD_some, isNil, evStr, iv, loadInt, rowsSp_len, fpSpFrom_, fpSpTo_, feSpFrom_, feSpTo_, leSpFrom_, leSpTo_, ldSp, newSp, cellsSp, mapSp, List.cons_append]; first | done | rfl) rfl (by decide) ?_ ?_ ?_ | refine' ops_op0 rfl rfl ?_ ?_ ?_); rotate_left 2; (focus (simp only [evOp, opd, constAV, constCell, Ev.get, reduceIte, Nat.reduceEqDiff, reduceCtorEq, evBinN, nilCmp, evBin, evInt, evUn, evConvert, evBuiltin, evLen, evField, evPart, tStr, tInt, tElem, tArr, tBool, tAgg, tField, Try.underlying9, Try.underlying3, Try.underlying4, Try.underlying5, Try.underlying21, Try.underlying121, Try.underlying38, Try.underlying25, Try.underlying135, Try.underlying33, Try.underlying2, Try.underlying147, Try.underlying22, Try.underlying56, Try.underlying54, List.zipWith, Option.map_some, Option.map_none, List.length_cons, List.length_nil, ne_eq, Int.reduceEq, not_false_eq_true, and_self, and_true, true_and, szStr, szInt, Option.getD_some, isNil, evStr, iv, loadInt, rowsSp_len, fpSpFrom_, fpSpTo_, feSpFrom_, feSpTo_, leSpFrom_, leSpTo_, ldSp, newSp, cellsSp, mapSp, List.cons_append, evCall, List.size_toArray, List.append_nil, List.nil_append, List.map_cons, List.map_nil, argAV, argCell, List.toList_toArray, fieldTy]; first | done | rfl)); exact (fun h => by first | rfl | (simp at h; done) | exact absurd (Bool.and_eq_true_iff.mp h).2 (by decide)))
              | refine ops_no rfl rfl (by simp only [Ev.get, reduceIte, Nat.reduceEqDiff, szStr, szInt, Option.getD_some, isNil, evStr, iv, loadInt, rowsSp_len, fpSpFrom_, fpSpTo_, feSpFrom_, feSpTo_, leSpFrom_, leSpTo_, ldSp, newSp, cellsSp, mapSp, List.cons_append]; first | done | rfl) (by decide) rfl (by decide) ?_
              | refine ops_off rfl rfl rfl rfl (by decide) ?_
              | (refine ops_nil ?_; intro e2 h2; simp only [restr, kpSpanFind, List.map_cons, List.map_nil, Ev.get, reduceIte, Nat.reduceEqDiff] at h2; subst h2))
            exact leaves_v rfl rfl
          · have r6 := next_i64 (i := i) (by omega)
            repeat (first
              | refine runs_seq ?_ | refine runs_block ?_ | refine next_normal ?_ | refine inside_normal ?_ | refine next_exit ?_ | refine inside_exit ?_ | refine inside_other (by decide) ?_ | refine next_ret ?_ | refine inside_ret ?_
              | refine runs_ops_kept ?_ | refine runs_skip ?_ | refine runs_exit ?_ | refine runs_ret ?_
              | ((first | refine' ops_op rfl rfl (by decide) ?_ ?_ ?_ | refine' ops_yes rfl rfl (by simp only [Ev.get, reduceIte, Nat.reduceEqDiff, szStr, szInt, Option.getD_some, isNil, evStr, iv, loadInt, rowsSp_len, fpSpFrom_, fpSpTo_, feSpFrom_, feSpTo_, leSpFrom_, leSpTo_, ldSp, newSp, cellsSp, mapSp, List.cons_append, r6]; first | done | rfl) rfl (by decide) ?_ ?_ ?_ | refine' ops_op0 rfl rfl ?_ ?_ ?_); rotate_left 2; (focus (simp only [evOp, opd, constAV, constCell, Ev.get, reduceIte, Nat.reduceEqDiff, reduceCtorEq, evBinN, nilCmp, evBin, evInt, evUn, evConvert, evBuiltin, evLen, evField, evPart, tStr, tInt, tElem, tArr, tBool, tAgg, tField, Try.underlying9, Try.underlying3, Try.underlying4, Try.underlying5, Try.underlying21, Try.underlying121, Try.underlying38, Try.underlying25, Try.underlying135, Try.underlying33, Try.underlying2, Try.underlying147, Try.underlying22, Try.underlying56, Try.underlying54, List.zipWith, Option.map_some, Option.map_none, List.length_cons, List.length_nil, ne_eq, Int.reduceEq, not_false_eq_true, and_self, and_true, true_and, szStr, szInt, Option.getD_some, isNil, evStr, iv, loadInt, rowsSp_len, fpSpFrom_, fpSpTo_, feSpFrom_, feSpTo_, leSpFrom_, leSpTo_, ldSp, newSp, cellsSp, mapSp, List.cons_append, evCall, List.size_toArray, List.append_nil, List.nil_append, List.map_cons, List.map_nil, argAV, argCell, List.toList_toArray, fieldTy, r6]; first | done | rfl)); exact (fun h => by first | rfl | (simp at h; done) | exact absurd (Bool.and_eq_true_iff.mp h).2 (by decide)))
              | refine ops_no rfl rfl (by simp only [Ev.get, reduceIte, Nat.reduceEqDiff, szStr, szInt, Option.getD_some, isNil, evStr, iv, loadInt, rowsSp_len, fpSpFrom_, fpSpTo_, feSpFrom_, feSpTo_, leSpFrom_, leSpTo_, ldSp, newSp, cellsSp, mapSp, List.cons_append, r6]; first | done | rfl) (by decide) rfl (by decide) ?_
              | refine ops_off rfl rfl rfl rfl (by decide) ?_
              | (refine ops_nil ?_; intro e2 h2; simp only [restr, kpSpanFind, List.map_cons, List.map_nil, Ev.get, reduceIte, Nat.reduceEqDiff] at h2; subst h2))
            exact ⟨l.length - (i + 1), by omega, i + 1, hi1, by_no hi1 hc hf, rfl, rfl, rfl⟩
        · have hi1 : i = l.length := by have := of_decide_eq_false hc; omega
          subst hi1
          rw [by_end hf]
          repeat (first
            | refine runs_seq ?_ | refine runs_block ?_ | refine next_normal ?_ | refine inside_normal ?_ | refine next_exit ?_ | refine inside_exit ?_ | refine inside_other (by decide) ?_ | refine next_ret ?_ | refine inside_ret ?_
            | refine runs_ops_kept ?_ | refine runs_skip ?_ | refine runs_exit ?_ | refine runs_ret ?_
            | ((first | refine' ops_op rfl rfl (by decide) ?_ ?_ ?_ | refine' ops_yes rfl rfl (by simp only [Ev.get, reduceIte, Nat.reduceEqDiff, szStr, szInt, Option.getD_some, isNil, evStr, iv, loadInt, rowsSp_len, fpSpFrom_, fpSpTo_, feSpFrom_, feSpTo_, leSpFrom_, leSpTo_, ldSp, newSp, cellsSp, mapSp, List.cons_append]; first | done | rfl) rfl (by decide) ?_ ?_ ?_ | refine' ops_op0 rfl rfl ?_ ?_ ?_); rotate_left 2; (focus (simp only [evOp, opd, constAV, constCell, Ev.get, reduceIte, Nat.reduceEqDiff, reduceCtorEq, evBinN, nilCmp, evBin, evInt, evUn, evConvert, evBuiltin, evLen, evField, evPart, tStr, tInt, tElem, tArr, tBool, tAgg, tField, Try.underlying9, Try.underlying3, Try.underlying4, Try.underlying5, Try.underlying21, Try.underlying121, Try.underlying38, Try.underlying25, Try.underlying135, Try.underlying33, Try.underlying2, Try.underlying147, Try.underlying22, Try.underlying56, Try.underlying54, List.zipWith, Option.map_some, Option.map_none, List.length_cons, List.length_nil, ne_eq, Int.reduceEq, not_false_eq_true, and_self, and_true, true_and, szStr, szInt, Option.getD_some, isNil, evStr, iv, loadInt, rowsSp_len, fpSpFrom_, fpSpTo_, feSpFrom_, feSpTo_, leSpFrom_, leSpTo_, ldSp, newSp, cellsSp, mapSp, List.cons_append, evCall, List.size_toArray, List.append_nil, List.nil_append, List.map_cons, List.map_nil, argAV, argCell, List.toList_toArray, fieldTy]; first | done | rfl)); exact (fun h => by first | rfl | (simp at h; done) | exact absurd (Bool.and_eq_true_iff.mp h).2 (by decide)))
            | refine ops_no rfl rfl (by simp only [Ev.get, reduceIte, Nat.reduceEqDiff, szStr, szInt, Option.getD_some, isNil, evStr, iv, loadInt, rowsSp_len, fpSpFrom_, fpSpTo_, feSpFrom_, feSpTo_, leSpFrom_, leSpTo_, ldSp, newSp, cellsSp, mapSp, List.cons_append]; first | done | rfl) (by decide) rfl (by decide) ?_
            | refine ops_off rfl rfl rfl rfl (by decide) ?_
            | (refine ops_nil ?_; intro e2 h2; simp only [restr, kpSpanFind, List.map_cons, List.map_nil, Ev.get, reduceIte, Nat.reduceEqDiff] at h2; subst h2))
          exact leaves_v rfl rfl
      · cases h
    · cases h
  · cases h
def spanAtG : List AV → Mem → Option (AV × Mem)
  | [.lst _ 2 rows, .v (.int .i64 step)], m =>
    match unsSp rows with
    | some l => if l.length ≤ big40 then some (.v (.int .i64 (firstBy (spanHas step) l 0)), m) else none
    | none => none
  | _, _ => none
theorem spanAtG_eq {m : Mem} {g : Grow} {l : List Sp} {step : Int} (h : l.length ≤ big40) : spanAtG [.lst g 2 (rowsSp l), .v (.int .i64 step)] m = some (.v (.int .i64 (firstBy (spanHas step) l 0)), m) := by
  simp only [spanAtG, unsSp_rowsSp]
  rw [if_pos h]
def kpSpanAt : Nat → Option (List Nat) := fun
  | 0 => some [0, 3]
  | 1 => some [4]
  | _ => none
theorem newInt1 {m : Mem} {n : Int} : newVar m m.vars.length [.v (.int .i64 n)] = some (m.push [.v (.int .i64 n)]) := newVar_push rfl
theorem cellsInt1 {n : Int} : cellsOf (.v (.int .i64 n)) = some [.v (.int .i64 n)] := rfl
def tab_spanAt_ok : List (FuncId × (List AV → Mem → Option (AV × Mem))) := [(47, spanFindG)]
theorem spanAt_ok : FunOk Try.prog 30 spanAtG := by
  have hC := table_ok (P := Try.prog) (l := tab_spanAt_ok) (table_more spanFind_ok table_nil)
  have t1 := fun args mm => table_at (l := tab_spanAt_ok) (f := 47) (args := args) (m := mm) rfl
  refine fun_ok mixed hC Try.func30 rfl kpSpanAt false rfl fun args m r h => ?_
  unfold spanAtG at h
  split at h
  · rename_i g rows step
    split at h
    · rename_i l hl0
      obtain rfl := unsSp_some hl0
      split at h
      · rename_i hlen
        simp only [Option.some.injEq] at h
        subst h
        refine ⟨Nat.le_of_ble_eq_true rfl, ?_⟩
        simp only [entry, List.length_cons, List.length_nil, List.range, List.range.loop, List.zip_cons_cons, List.zip_nil_right]
        have f1 : spanFindG [.lst .no 2 (rowsSp l), .fn (.func 48) [] [.ptr m.vars.length 0]] (m.push [.v (.int .i64 step)]) = some (.v (.int .i64 (firstBy (spanHas step) l 0)), m.push [.v (.int .i64 step)]) := by
          simp only [spanFindG, unsSp_rowsSp, push_var]
          rw [if_pos hlen]
        repeat (first
          | refine runs_seq ?_ | refine runs_block ?_ | refine next_normal ?_ | refine inside_normal ?_ | refine next_exit ?_ | refine inside_exit ?_ | refine inside_other (by decide) ?_ | refine next_ret ?_ | refine inside_ret ?_
          | refine runs_ops_kept ?_ | refine runs_skip ?_ | refine runs_exit ?_ | refine runs_ret ?_
          | ((first | refine' ops_op rfl rfl (by decide) ?_ ?_ ?_ | refine' ops_yes rfl rfl (by simp only [Ev.get, reduceIte, Nat.reduceEqDiff, szStr, szInt, Option.getD_some, isNil, evStr, loadInt, rowsSp_len, newInt1, cellsInt1, t1, f1]; first | done | rfl) rfl (by decide) ?_ ?_ ?_ | refine' ops_op0 rfl rfl ?_ ?_ ?_); rotate_left 2; (focus (simp only [evOp, opd, constAV, constCell, Ev.get, reduceIte, Nat.reduceEqDiff, reduceCtorEq, evBinN, nilCmp, evBin, evInt, evUn, evConvert, evBuiltin, evLen, evField, evPart, tStr, tInt, tElem, tArr, tBool, tAgg, tField, Try.underlying9, Try.underlying3, Try.underlying4, Try.underlying5, Try.underlying21, Try.underlying121, Try.underlying38, Try.underlying25, Try.underlying135, Try.underlying33, Try.underlying2, Try.underlying147, Try.underlying22, Try.underlying56, Try.underlying54, List.zipWith, Option.map_some, Option.map_none, List.length_cons, List.length_nil, ne_eq, Int.reduceEq, not_false_eq_true, and_self, and_true, true_and, szStr, szInt, Option.getD_some, isNil, evStr, loadInt, rowsSp_len, newInt1, cellsInt1, evCall, List.size_toArray, List.append_nil, List.nil_append, List.map_cons, List.map_nil, argAV, argCell, List.toList_toArray, fieldTy, t1, f1]; first | done | rfl)); exact (fun h => by first | rfl | (simp at h; done) | exact absurd (Bool.and_eq_true_iff.mp h).2 (by decide)))
          | refine ops_no rfl rfl (by simp only [Ev.get, reduceIte, Nat.reduceEqDiff, szStr, szInt, Option.getD_some, isNil, evStr, loadInt, rowsSp_len, newInt1, cellsInt1, t1, f1]; first | done | rfl) (by decide) rfl (by decide) ?_
          | refine ops_off rfl rfl rfl rfl (by decide) ?_
          | (refine ops_nil ?_; intro e2 h2; simp only [restr, kpSpanAt, List.map_cons, List.map_nil, Ev.get, reduceIte, Nat.reduceEqDiff] at h2; subst h2))
        exact leaves_fin rfl rfl fin_push
      · cases h
    · cases h
  · cases h
def phasesAtLawG : List AV → Mem → Option (AV × Mem)
  | [.lst _ 2 rows, .v (.int .i64 step)], m =>
    match unsSp rows with
    | some l => if l.length ≤ 9223372036854775807 then some (.v (.bool true), m) else none
    | none => none
  | _, _ => none
def kpPhasesAtLaw : Nat → Option (List Nat) := fun
  | 0 => some [0, 1]
  | 1 => some [0, 1, 9]
  | 2 => some [4]
  | 3 => some [0, 1, 5]
  | 4 => some [0, 1, 5, 6]
  | 5 => some [0, 1, 5, 6, 15]
  | 6 => some [0, 1, 5, 6]
  | 7 => some [0, 1, 5, 6, 33]
  | 8 => some [0, 1, 5, 6]
  | 9 => some [4]
  | _ => none
def tab_phasesAtLaw_ok : List (FuncId × (List AV → Mem → Option (AV × Mem))) := [(29, yesG), (30, spanAtG)]
theorem phasesAtLaw_ok : FunOk Try.prog 7 phasesAtLawG := by
  have hC := table_ok (P := Try.prog) (l := tab_phasesAtLaw_ok) (table_more awake22_ok (table_more spanAt_ok table_nil))
  have t1 := fun args mm => table_at (l := tab_phasesAtLaw_ok) (f := 29) (args := args) (m := mm) rfl
  have t2 := fun args mm => table_at (l := tab_phasesAtLaw_ok) (f := 30) (args := args) (m := mm) rfl
  refine fun_ok mixed hC Try.func7 rfl kpPhasesAtLaw false rfl fun args m r h => ?_
  unfold phasesAtLawG at h
  split at h
  · rename_i g rows step
    split at h
    · rename_i l hl0
      obtain rfl := unsSp_some hl0
      split at h
      · rename_i hb
        simp only [Option.some.injEq] at h
        subst h
        refine ⟨Nat.le_of_ble_eq_true rfl, ?_⟩
        simp only [entry, List.length_cons, List.length_nil, List.range, List.range.loop, List.zip_cons_cons, List.zip_nil_right]
        by_cases h60 : l.length ≤ 60
        · have b0 : decide ((l.length : Int) > 60) = false := decide_eq_false (by omega)
          have hlen : l.length ≤ big40 := by unfold big40; omega
          have f1 := fun mm => spanAtG_eq (m := mm) (g := .no) (step := step) hlen
          have w1 : IntKind.i64.wrap ((l.length : Int) - 1) = (l.length : Int) - 1 := i64_wrap (by omega) (by omega)
          repeat (first
            | refine runs_seq ?_ | refine runs_block ?_ | refine next_normal ?_ | refine inside_normal ?_ | refine next_exit ?_ | refine inside_exit ?_ | refine inside_other (by decide) ?_ | refine next_ret ?_ | refine inside_ret ?_
            | refine runs_ops_kept ?_ | refine runs_skip ?_ | refine runs_exit ?_ | refine runs_ret ?_
            | ((first | refine' ops_op rfl rfl (by decide) ?_ ?_ ?_ | refine' ops_yes rfl rfl (by simp only [Ev.get, reduceIte, Nat.reduceEqDiff, szStr, szInt, Option.getD_some, isNil, evStr, iv, loadInt, rowsSp_len, feSpFrom_, feSpTo_, leSpFrom_, leSpTo_, b0, w1]; first | done | rfl) rfl (by decide) ?_ ?_ ?_ | refine' ops_op0 rfl rfl ?_ ?_ ?_); rotate_left 2; (focus (simp only [evOp, opd, constAV, constCell, Ev.get, reduceIte, Nat.reduceEqDiff, reduceCtorEq, evBinN, nilCmp, evBin, evInt, evUn, evConvert, evBuiltin, evLen, evField, evPart, tStr, tInt, tElem, tArr, tBool, tAgg, tField, Try.underlying9, Try.underlying3, Try.underlying4, Try.underlying5, Try.underlying21, Try.underlying121, Try.underlying38, Try.underlying25, Try.underlying135, Try.underlying33, Try.underlying2, Try.underlying147, Try.underlying22, Try.underlying56, Try.underlying54, List.zipWith, Option.map_some, Option.map_none, List.length_cons, List.length_nil, ne_eq, Int.reduceEq, not_false_eq_true, and_self, and_true, true_and, szStr, szInt, Option.getD_some, isNil, evStr, iv, loadInt, rowsSp_len, feSpFrom_, feSpTo_, leSpFrom_, leSpTo_, evCall, List.size_toArray, List.append_nil, List.nil_append, List.map_cons, List.map_nil, argAV, argCell, List.toList_toArray, fieldTy, b0, w1]; first | done | rfl)); exact (fun h => by first | rfl | (simp at h; done) | exact absurd (Bool.and_eq_true_iff.mp h).2 (by decide)))
            | refine ops_no rfl rfl (by simp only [Ev.get, reduceIte, Nat.reduceEqDiff, szStr, szInt, Option.getD_some, isNil, evStr, iv, loadInt, rowsSp_len, feSpFrom_, feSpTo_, leSpFrom_, leSpTo_, b0, w1]; first | done | rfl) (by decide) rfl (by decide) ?_
            | refine ops_off rfl rfl rfl rfl (by decide) ?_
            | (refine ops_nil ?_; intro e2 h2; simp only [restr, kpPhasesAtLaw, List.map_cons, List.map_nil, Ev.get, reduceIte, Nat.reduceEqDiff] at h2; subst h2))
          refine runs_cond rfl (fun hc => by cases hc) (fun hc => ?_)
          repeat (first
            | refine runs_seq ?_ | refine runs_block ?_ | refine next_normal ?_ | refine inside_normal ?_ | refine next_exit ?_ | refine inside_exit ?_ | refine inside_other (by decide) ?_ | refine next_ret ?_ | refine inside_ret ?_
            | refine runs_ops_kept ?_ | refine runs_skip ?_ | refine runs_exit ?_ | refine runs_ret ?_
            | ((first | refine' ops_op rfl rfl (by decide) ?_ ?_ ?_ | refine' ops_yes rfl rfl (by simp only [Ev.get, reduceIte, Nat.reduceEqDiff, szStr, szInt, Option.getD_some, isNil, evStr, iv, loadInt, rowsSp_len, feSpFrom_, feSpTo_, leSpFrom_, leSpTo_, w1]; first | done | rfl) rfl (by decide) ?_ ?_ ?_ | refine' ops_op0 rfl rfl ?_ ?_ ?_); rotate_left 2; (focus (simp only [evOp, opd, constAV, constCell, Ev.get, reduceIte, Nat.reduceEqDiff, reduceCtorEq, evBinN, nilCmp, evBin, evInt, evUn, evConvert, evBuiltin, evLen, evField, evPart, tStr, tInt, tElem, tArr, tBool, tAgg, tField, Try.underlying9, Try.underlying3, Try.underlying4, Try.underlying5, Try.underlying21, Try.underlying121, Try.underlying38, Try.underlying25, Try.underlying135, Try.underlying33, Try.underlying2, Try.underlying147, Try.underlying22, Try.underlying56, Try.underlying54, List.zipWith, Option.map_some, Option.map_none, List.length_cons, List.length_nil, ne_eq, Int.reduceEq, not_false_eq_true, and_self, and_true, true_and, szStr, szInt, Option.getD_some, isNil, evStr, iv, loadInt, rowsSp_len, feSpFrom_, feSpTo_, leSpFrom_, leSpTo_, evCall, List.size_toArray, List.append_nil, List.nil_append, List.map_cons, List.map_nil, argAV, argCell, List.toList_toArray, fieldTy, w1]; first | done | rfl)); exact (fun h => by first | rfl | (simp at h; done) | exact absurd (Bool.and_eq_true_iff.mp h).2 (by decide)))
            | refine ops_no rfl rfl (by simp only [Ev.get, reduceIte, Nat.reduceEqDiff, szStr, szInt, Option.getD_some, isNil, evStr, iv, loadInt, rowsSp_len, feSpFrom_, feSpTo_, leSpFrom_, leSpTo_, w1]; first | done | rfl) (by decide) rfl (by decide) ?_
            | refine ops_off rfl rfl rfl rfl (by decide) ?_
            | (refine ops_nil ?_; intro e2 h2; simp only [restr, kpPhasesAtLaw, List.map_cons, List.map_nil, Ev.get, reduceIte, Nat.reduceEqDiff] at h2; subst h2))
          refine runs_loop (fun k e m' => ∃ (j : Nat), j ≤ l.length ∧ m = m' ∧ k = j ∧
            e = [(0, AV.lst g 2 (rowsSp l)), (1, .v (.int .i64 step)), (5, .v (.int .i64 (firstBy (spanHas step) (l.drop j) j))), (6, .v (.int .i64 ((j : Int) - 1)))]) (k := l.length) ⟨l.length, Nat.le_refl _, rfl, rfl, by rw [List.drop_length]; rfl⟩ ?_
          rintro k e m' ⟨j, hj, rfl, rfl, rfl⟩
          repeat (first
            | refine runs_seq ?_ | refine runs_block ?_ | refine next_normal ?_ | refine inside_normal ?_ | refine next_exit ?_ | refine inside_exit ?_ | refine inside_other (by decide) ?_ | refine next_ret ?_ | refine inside_ret ?_
            | refine runs_ops_kept ?_ | refine runs_skip ?_ | refine runs_exit ?_ | refine runs_ret ?_
            | ((first | refine' ops_op rfl rfl (by decide) ?_ ?_ ?_ | refine' ops_yes rfl rfl (by simp only [Ev.get, reduceIte, Nat.reduceEqDiff, szStr, szInt, Option.getD_some, isNil, evStr, iv, loadInt, rowsSp_len, feSpFrom_, feSpTo_, leSpFrom_, leSpTo_]; first | done | rfl) rfl (by decide) ?_ ?_ ?_ | refine' ops_op0 rfl rfl ?_ ?_ ?_); rotate_left 2; (focus (simp only [evOp, opd, constAV, constCell, Ev.get, reduceIte, Nat.reduceEqDiff, reduceCtorEq, evBinN, nilCmp, evBin, evInt, evUn, evConvert, evBuiltin, evLen, evField, evPart, tStr, tInt, tElem, tArr, tBool, tAgg, tField, Try.underlying9, Try.underlying3, Try.underlying4, Try.underlying5, Try.underlying21, Try.underlying121, Try.underlying38, Try.underlying25, Try.underlying135, Try.underlying33, Try.underlying2, Try.underlying147, Try.underlying22, Try.underlying56, Try.underlying54, List.zipWith, Option.map_some, Option.map_none, List.length_cons, List.length_nil, ne_eq, Int.reduceEq, not_false_eq_true, and_self, and_true, true_and, szStr, szInt, Option.getD_some, isNil, evStr, iv, loadInt, rowsSp_len, feSpFrom_, feSpTo_, leSpFrom_, leSpTo_, evCall, List.size_toArray, List.append_nil, List.nil_append, List.map_cons, List.map_nil, argAV, argCell, List.toList_toArray, fieldTy]; first | done | rfl)); exact (fun h => by first | rfl | (simp at h; done) | exact absurd (Bool.and_eq_true_iff.mp h).2 (by decide)))
            | refine ops_no rfl rfl (by simp only [Ev.get, reduceIte, Nat.reduceEqDiff, szStr, szInt, Option.getD_some, isNil, evStr, iv, loadInt, rowsSp_len, feSpFrom_, feSpTo_, leSpFrom_, leSpTo_]; first | done | rfl) (by decide) rfl (by decide) ?_
            | refine ops_off rfl rfl rfl rfl (by decide) ?_
            | (refine ops_nil ?_; intro e2 h2; simp only [restr, kpPhasesAtLaw, List.map_cons, List.map_nil, Ev.get, reduceIte, Nat.reduceEqDiff] at h2; subst h2))
          refine runs_cond rfl (fun hc => ?_) (fun hc => ?_)
          · obtain ⟨i, rfl⟩ : ∃ i, k = i + 1 := ⟨k - 1, by have := of_decide_eq_true hc; omega⟩
            have hi1 : i < l.length := by omega
            have e1 : ((i + 1 : Nat) : Int) - 1 = (i : Int) := by omega
            rw [e1]
            have f2 := atSp (g := g) (kk := .i64) hi1
            have hd := drop_next (d := sp0) hi1
            have hF : firstBy (spanHas step) (l.drop i) i = if spanHas step (l.getD i sp0) then (i : Int) else firstBy (spanHas step) (l.drop (i + 1)) (i + 1) := by rw [hd, firstBy]
            have w2 : IntKind.i64.wrap ((i : Int) - 1) = (i : Int) - 1 := i64_wrap (by omega) (by omega)
            generalize l.getD i sp0 = s at f2 hF
            cases h1 : decide (s.from_ ≤ step) with
            | true =>
              have c1 : decide (step ≥ s.from_) = true := h1
              cases h2 : decide (step < s.to_) with
              | true =>
                have hs : spanHas step s = true := by unfold spanHas; rw [h1, h2]; rfl
                rw [hs, if_pos rfl] at hF
                repeat (first
                  | refine runs_seq ?_ | refine runs_block ?_ | refine next_normal ?_ | refine inside_normal ?_ | refine next_exit ?_ | refine inside_exit ?_ | refine inside_other (by decide) ?_ | refine next_ret ?_ | refine inside_ret ?_
                  | refine runs_ops_kept ?_ | refine runs_skip ?_ | refine runs_exit ?_ | refine runs_ret ?_
                  | ((first | refine' ops_op rfl rfl (by decide) ?_ ?_ ?_ | refine' ops_yes rfl rfl (by simp only [Ev.get, reduceIte, Nat.reduceEqDiff, szStr, szInt, Option.getD_some, isNil, evStr, iv, loadInt, rowsSp_len, feSpFrom_, feSpTo_, leSpFrom_, leSpTo_, f2, c1, h2]; first | done | rfl) rfl (by decide) ?_ ?_ ?_ | refine' ops_op0 rfl rfl ?_ ?_ ?_); rotate_left 2; (focus (simp only [evOp, opd, constAV, constCell, Ev.get, reduceIte, Nat.reduceEqDiff, reduceCtorEq, evBinN, nilCmp, evBin, evInt, evUn, evConvert, evBuiltin, evLen, evField, evPart, tStr, tInt, tElem, tArr, tBool, tAgg, tField, Try.underlying9, Try.underlying3, Try.underlying4, Try.underlying5, Try.underlying21, Try.underlying121, Try.underlying38, Try.underlying25, Try.underlying135, Try.underlying33, Try.underlying2, Try.underlying147, Try.underlying22, Try.underlying56, Try.underlying54, List.zipWith, Option.map_some, Option.map_none, List.length_cons, List.length_nil, ne_eq, Int.reduceEq, not_false_eq_true, and_self, and_true, true_and, szStr, szInt, Option.getD_some, isNil, evStr, iv, loadInt, rowsSp_len, feSpFrom_, feSpTo_, leSpFrom_, leSpTo_, evCall, List.size_toArray, List.append_nil, List.nil_append, List.map_cons, List.map_nil, argAV, argCell, List.toList_toArray, fieldTy, f2, c1, h2]; first | done | rfl)); exact (fun h => by first | rfl | (simp at h; done) | exact absurd (Bool.and_eq_true_iff.mp h).2 (by decide)))
                  | refine ops_no rfl rfl (by simp only [Ev.get, reduceIte, Nat.reduceEqDiff, szStr, szInt, Option.getD_some, isNil, evStr, iv, loadInt, rowsSp_len, feSpFrom_, feSpTo_, leSpFrom_, leSpTo_, f2, c1, h2]; first | done | rfl) (by decide) rfl (by decide) ?_
                  | refine ops_off rfl rfl rfl rfl (by decide) ?_
                  | (refine ops_nil ?_; intro e2 h2; simp only [restr, kpPhasesAtLaw, List.map_cons, List.map_nil, Ev.get, reduceIte, Nat.reduceEqDiff] at h2; subst h2))
                refine runs_cond rfl (fun hc => ?_) (fun hc => by cases hc)
                repeat (first
                  | refine runs_seq ?_ | refine runs_block ?_ | refine next_normal ?_ | refine inside_normal ?_ | refine next_exit ?_ | refine inside_exit ?_ | refine inside_other (by decide) ?_ | refine next_ret ?_ | refine inside_ret ?_
                  | refine runs_ops_kept ?_ | refine runs_skip ?_ | refine runs_exit ?_ | refine runs_ret ?_
                  | ((first | refine' ops_op rfl rfl (by decide) ?_ ?_ ?_ | refine' ops_yes rfl rfl (by simp only [Ev.get, reduceIte, Nat.reduceEqDiff, szStr, szInt, Option.getD_some, isNil, evStr, iv, loadInt, rowsSp_len, feSpFrom_, feSpTo_, leSpFrom_, leSpTo_, w2]; first | done | rfl) rfl (by decide) ?_ ?_ ?_ | refine' ops_op0 rfl rfl ?_ ?_ ?_); rotate_left 2; (focus (simp only [evOp, opd, constAV, constCell, Ev.get, reduceIte, Nat.reduceEqDiff, reduceCtorEq, evBinN, nilCmp, evBin, evInt, evUn, evConvert, evBuiltin, evLen, evField, evPart, tStr, tInt, tElem, tArr, tBool, tAgg, tField, Try.underlying9, Try.underlying3, Try.underlying4, Try.underlying5, Try.underlying21, Try.underlying121, Try.underlying38, Try.underlying25, Try.underlying135, Try.underlying33, Try.underlying2, Try.underlying147, Try.underlying22, Try.underlying56, Try.underlying54, List.zipWith, Option.map_some, Option.map_none, List.length_cons, List.length_nil, ne_eq, Int.reduceEq, not_false_eq_true, and_self, and_true, true_and, szStr, szInt, Option.getD_some, isNil, evStr, iv, loadInt, rowsSp_len, feSpFrom_, feSpTo_, leSpFrom_, leSpTo_, evCall, List.size_toArray, List.append_nil, List.nil_append, List.map_cons, List.map_nil, argAV, argCell, List.toList_toArray, fieldTy, w2]; first | done | rfl)); exact (fun h => by first | rfl | (simp at h; done) | exact absurd (Bool.and_eq_true_iff.mp h).2 (by decide)))
                  | refine ops_no rfl rfl (by simp only [Ev.get, reduceIte, Nat.reduceEqDiff, szStr, szInt, Option.getD_some, isNil, evStr, iv, loadInt, rowsSp_len, feSpFrom_, feSpTo_, leSpFrom_, leSpTo_, w2]; first | done | rfl) (by decide) rfl (by decide) ?_
                  | refine ops_off rfl rfl rfl rfl (by decide) ?_
                  | (refine ops_nil ?_; intro e2 h2; simp only [restr, kpPhasesAtLaw, List.map_cons, List.map_nil, Ev.get, reduceIte, Nat.reduceEqDiff] at h2; subst h2))
                exact ⟨i, by omega, i, by omega, rfl, rfl, by rw [hF]⟩
              | false =>
                have hs : spanHas step s = false := by unfold spanHas; rw [h1, h2]; rfl
                rw [hs, if_neg (by simp)] at hF
                repeat (first
                  | refine runs_seq ?_ | refine runs_block ?_ | refine next_normal ?_ | refine inside_normal ?_ | refine next_exit ?_ | refine inside_exit ?_ | refine inside_other (by decide) ?_ | refine next_ret ?_ | refine inside_ret ?_
                  | refine runs_ops_kept ?_ | refine runs_skip ?_ | refine runs_exit ?_ | refine runs_ret ?_
                  | ((first | refine' ops_op rfl rfl (by decide) ?_ ?_ ?_ | refine' ops_yes rfl rfl (by simp only [Ev.get, reduceIte, Nat.reduceEqDiff, szStr, szInt, Option.getD_some, isNil, evStr, iv, loadInt, rowsSp_len, feSpFrom_, feSpTo_, leSpFrom_, leSpTo_, f2, c1, h2]; first | done | rfl) rfl (by decide) ?_ ?_ ?_ | refine' ops_op0 rfl rfl ?_ ?_ ?_); rotate_left 2; (focus (simp only [evOp, opd, constAV, constCell, Ev.get, reduceIte, Nat.reduceEqDiff, reduceCtorEq, evBinN, nilCmp, evBin, evInt, evUn, evConvert, evBuiltin, evLen, evField, evPart, tStr, tInt, tElem, tArr, tBool, tAgg, tField, Try.underlying9, Try.underlying3, Try.underlying4, Try.underlying5, Try.underlying21, Try.underlying121, Try.underlying38, Try.underlying25, Try.underlying135, Try.underlying33, Try.underlying2, Try.underlying147, Try.underlying22, Try.underlying56, Try.underlying54, List.zipWith, Option.map_some, Option.map_none, List.length_cons, List.length_nil, ne_eq, Int.reduceEq, not_false_eq_true, and_self, and_true, true_and, szStr, szInt, Option.getD_some, isNil, evStr, iv, loadInt, rowsSp_len, feSpFrom_, feSpTo_, leSpFrom_, leSpTo_, evCall, List.size_toArray, List.append_nil, List.nil_append, List.map_cons, List.map_nil, argAV, argCell, List.toList_toArray, fieldTy, f2, c1, h2]; first | done | rfl)); exact (fun h => by first | rfl | (simp at h; done) | exact absurd (Bool.and_eq_true_iff.mp h).2 (by decide)))
                  | refine ops_no rfl rfl (by simp only [Ev.get, reduceIte, Nat.reduceEqDiff, szStr, szInt, Option.getD_some, isNil, evStr, iv, loadInt, rowsSp_len, feSpFrom_, feSpTo_, leSpFrom_, leSpTo_, f2, c1, h2]; first | done | rfl) (by decide) rfl (by decide) ?_
                  | refine ops_off rfl rfl rfl rfl (by decide) ?_
                  | (refine ops_nil ?_; intro e2 h2; simp only [restr, kpPhasesAtLaw, List.map_cons, List.map_nil, Ev.get, reduceIte, Nat.reduceEqDiff] at h2; subst h2))
                refine runs_cond rfl (fun hc => by cases hc) (fun hc => ?_)
                repeat (first
                  | refine runs_seq ?_ | refine runs_block ?_ | refine next_normal ?_ | refine inside_normal ?_ | refine next_exit ?_ | refine inside_exit ?_ | refine inside_other (by decide) ?_ | refine next_ret ?_ | refine inside_ret ?_
                  | refine runs_ops_kept ?_ | refine runs_skip ?_ | refine runs_exit ?_ | refine runs_ret ?_
                  | ((first | refine' ops_op rfl rfl (by decide) ?_ ?_ ?_ | refine' ops_yes rfl rfl (by simp only [Ev.get, reduceIte, Nat.reduceEqDiff, szStr, szInt, Option.getD_some, isNil, evStr, iv, loadInt, rowsSp_len, feSpFrom_, feSpTo_, leSpFrom_, leSpTo_, w2]; first | done | rfl) rfl (by decide) ?_ ?_ ?_ | refine' ops_op0 rfl rfl ?_ ?_ ?_); rotate_left 2; (focus (simp only [evOp, opd, constAV, constCell, Ev.get, reduceIte, Nat.reduceEqDiff, reduceCtorEq, evBinN, nilCmp, evBin, evInt, evUn, evConvert, evBuiltin, evLen, evField, evPart, tStr, tInt, tElem, tArr, tBool, tAgg, tField, Try.underlying9, Try.underlying3, Try.underlying4, Try.underlying5, Try.underlying21, Try.underlying121, Try.underlying38, Try.underlying25, Try.underlying135, Try.underlying33, Try.underlying2, Try.underlying147, Try.underlying22, Try.underlying56, Try.underlying54, List.zipWith, Option.map_some, Option.map_none, List.length_cons, List.length_nil, ne_eq, Int.reduceEq, not_false_eq_true, and_self, and_true, true_and, szStr, szInt, Option.getD_some, isNil, evStr, iv, loadInt, rowsSp_len, feSpFrom_, feSpTo_, leSpFrom_, leSpTo_, evCall, List.size_toArray, List.append_nil, List.nil_append, List.map_cons, List.map_nil, argAV, argCell, List.toList_toArray, fieldTy, w2]; first | done | rfl)); exact (fun h => by first | rfl | (simp at h; done) | exact absurd (Bool.and_eq_true_iff.mp h).2 (by decide)))
                  | refine ops_no rfl rfl (by simp only [Ev.get, reduceIte, Nat.reduceEqDiff, szStr, szInt, Option.getD_some, isNil, evStr, iv, loadInt, rowsSp_len, feSpFrom_, feSpTo_, leSpFrom_, leSpTo_, w2]; first | done | rfl) (by decide) rfl (by decide) ?_
                  | refine ops_off rfl rfl rfl rfl (by decide) ?_
                  | (refine ops_nil ?_; intro e2 h2; simp only [restr, kpPhasesAtLaw, List.map_cons, List.map_nil, Ev.get, reduceIte, Nat.reduceEqDiff] at h2; subst h2))
                exact ⟨i, by omega, i, by omega, rfl, rfl, by rw [hF]⟩
            | false =>
              have c1 : decide (step ≥ s.from_) = false := h1
              have hs : spanHas step s = false := by unfold spanHas; rw [h1]; rfl
              rw [hs, if_neg (by simp)] at hF
              repeat (first
                | refine runs_seq ?_ | refine runs_block ?_ | refine next_normal ?_ | refine inside_normal ?_ | refine next_exit ?_ | refine inside_exit ?_ | refine inside_other (by decide) ?_ | refine next_ret ?_ | refine inside_ret ?_
                | refine runs_ops_kept ?_ | refine runs_skip ?_ | refine runs_exit ?_ | refine runs_ret ?_
                | ((first | refine' ops_op rfl rfl (by decide) ?_ ?_ ?_ | refine' ops_yes rfl rfl (by simp only [Ev.get, reduceIte, Nat.reduceEqDiff, szStr, szInt, Option.getD_some, isNil, evStr, iv, loadInt, rowsSp_len, feSpFrom_, feSpTo_, leSpFrom_, leSpTo_, f2, c1]; first | done | rfl) rfl (by decide) ?_ ?_ ?_ | refine' ops_op0 rfl rfl ?_ ?_ ?_); rotate_left 2; (focus (simp only [evOp, opd, constAV, constCell, Ev.get, reduceIte, Nat.reduceEqDiff, reduceCtorEq, evBinN, nilCmp, evBin, evInt, evUn, evConvert, evBuiltin, evLen, evField, evPart, tStr, tInt, tElem, tArr, tBool, tAgg, tField, Try.underlying9, Try.underlying3, Try.underlying4, Try.underlying5, Try.underlying21, Try.underlying121, Try.underlying38, Try.underlying25, Try.underlying135, Try.underlying33, Try.underlying2, Try.underlying147, Try.underlying22, Try.underlying56, Try.underlying54, List.zipWith, Option.map_some, Option.map_none, List.length_cons, List.length_nil, ne_eq, Int.reduceEq, not_false_eq_true, and_self, and_true, true_and, szStr, szInt, Option.getD_some, isNil, evStr, iv, loadInt, rowsSp_len, feSpFrom_, feSpTo_, leSpFrom_, leSpTo_, evCall, List.size_toArray, List.append_nil, List.nil_append, List.map_cons, List.map_nil, argAV, argCell, List.toList_toArray, fieldTy, f2, c1]; first | done | rfl)); exact (fun h => by first | rfl | (simp at h; done) | exact absurd (Bool.and_eq_true_iff.mp h).2 (by decide)))
                | refine ops_no rfl rfl (by simp only [Ev.get, reduceIte, Nat.reduceEqDiff, szStr, szInt, Option.getD_some, isNil, evStr, iv, loadInt, rowsSp_len, feSpFrom_, feSpTo_, leSpFrom_, leSpTo_, f2, c1]; first | done | rfl) (by decide) rfl (by decide) ?_
                | refine ops_off rfl rfl rfl rfl (by decide) ?_
                | (refine ops_nil ?_; intro e2 h2; simp only [restr, kpPhasesAtLaw, List.map_cons, List.map_nil, Ev.get, reduceIte, Nat.reduceEqDiff] at h2; subst h2))
              refine runs_cond rfl (fun hc => by cases hc) (fun hc => ?_)
              repeat (first
                | refine runs_seq ?_ | refine runs_block ?_ | refine next_normal ?_ | refine inside_normal ?_ | refine next_exit ?_ | refine inside_exit ?_ | refine inside_other (by decide) ?_ | refine next_ret ?_ | refine inside_ret ?_
                | refine runs_ops_kept ?_ | refine runs_skip ?_ | refine runs_exit ?_ | refine runs_ret ?_
                | ((first | refine' ops_op rfl rfl (by decide) ?_ ?_ ?_ | refine' ops_yes rfl rfl (by simp only [Ev.get, reduceIte, Nat.reduceEqDiff, szStr, szInt, Option.getD_some, isNil, evStr, iv, loadInt, rowsSp_len, feSpFrom_, feSpTo_, leSpFrom_, leSpTo_, w2]; first | done | rfl) rfl (by decide) ?_ ?_ ?_ | refine' ops_op0 rfl rfl ?_ ?_ ?_); rotate_left 2; (focus (simp only [evOp, opd, constAV, constCell, Ev.get, reduceIte, Nat.reduceEqDiff, reduceCtorEq, evBinN, nilCmp, evBin, evInt, evUn, evConvert, evBuiltin, evLen, evField, evPart, tStr, tInt, tElem, tArr, tBool, tAgg, tField, Try.underlying9, Try.underlying3, Try.underlying4, Try.underlying5, Try.underlying21, Try.underlying121, Try.underlying38, Try.underlying25, Try.underlying135, Try.underlying33, Try.underlying2, Try.underlying147, Try.underlying22, Try.underlying56, Try.underlying54, List.zipWith, Option.map_some, Option.map_none, List.length_cons, List.length_nil, ne_eq, Int.reduceEq, not_false_eq_true, and_self, and_true, true_and, szStr, szInt, Option.getD_some, isNil, evStr, iv, loadInt, rowsSp_len, feSpFrom_, feSpTo_, leSpFrom_, leSpTo_, evCall, List.size_toArray, List.append_nil, List.nil_append, List.map_cons, List.map_nil, argAV, argCell, List.toList_toArray, fieldTy, w2]; first | done | rfl)); exact (fun h => by first | rfl | (simp at h; done) | exact absurd (Bool.and_eq_true_iff.mp h).2 (by decide)))
                | refine ops_no rfl rfl (by simp only [Ev.get, reduceIte, Nat.reduceEqDiff, szStr, szInt, Option.getD_some, isNil, evStr, iv, loadInt, rowsSp_len, feSpFrom_, feSpTo_, leSpFrom_, leSpTo_, w2]; first | done | rfl) (by decide) rfl (by decide) ?_
                | refine ops_off rfl rfl rfl rfl (by decide) ?_
                | (refine ops_nil ?_; intro e2 h2; simp only [restr, kpPhasesAtLaw, List.map_cons, List.map_nil, Ev.get, reduceIte, Nat.reduceEqDiff] at h2; subst h2))
              exact ⟨i, by omega, i, by omega, rfl, rfl, by rw [hF]⟩
          · have hk : k = 0 := by have := of_decide_eq_false hc; omega
            subst hk
            rw [List.drop_zero]
            repeat (first
              | refine runs_seq ?_ | refine runs_block ?_ | refine next_normal ?_ | refine inside_normal ?_ | refine next_exit ?_ | refine inside_exit ?_ | refine inside_other (by decide) ?_ | refine next_ret ?_ | refine inside_ret ?_
              | refine runs_ops_kept ?_ | refine runs_skip ?_ | refine runs_exit ?_ | refine runs_ret ?_
              | ((first | refine' ops_op rfl rfl (by decide) ?_ ?_ ?_ | refine' ops_yes rfl rfl (by simp only [Ev.get, reduceIte, Nat.reduceEqDiff, szStr, szInt, Option.getD_some, isNil, evStr, iv, loadInt, rowsSp_len, feSpFrom_, feSpTo_, leSpFrom_, leSpTo_, t2, f1, beq_self_eq_true, t1, yes_eq]; first | done | rfl) rfl (by decide) ?_ ?_ ?_ | refine' ops_op0 rfl rfl ?_ ?_ ?_); rotate_left 2; (focus (simp only [evOp, opd, constAV, constCell, Ev.get, reduceIte, Nat.reduceEqDiff, reduceCtorEq, evBinN, nilCmp, evBin, evInt, evUn, evConvert, evBuiltin, evLen, evField, evPart, tStr, tInt, tElem, tArr, tBool, tAgg, tField, Try.underlying9, Try.underlying3, Try.underlying4, Try.underlying5, Try.underlying21, Try.underlying121, Try.underlying38, Try.underlying25, Try.underlying135, Try.underlying33, Try.underlying2, Try.underlying147, Try.underlying22, Try.underlying56, Try.underlying54, List.zipWith, Option.map_some, Option.map_none, List.length_cons, List.length_nil, ne_eq, Int.reduceEq, not_false_eq_true, and_self, and_true, true_and, szStr, szInt, Option.getD_some, isNil, evStr, iv, loadInt, rowsSp_len, feSpFrom_, feSpTo_, leSpFrom_, leSpTo_, evCall, List.size_toArray, List.append_nil, List.nil_append, List.map_cons, List.map_nil, argAV, argCell, List.toList_toArray, fieldTy, t2, f1, beq_self_eq_true, t1, yes_eq]; first | done | rfl)); exact (fun h => by first | rfl | (simp at h; done) | exact absurd (Bool.and_eq_true_iff.mp h).2 (by decide)))
              | refine ops_no rfl rfl (by simp only [Ev.get, reduceIte, Nat.reduceEqDiff, szStr, szInt, Option.getD_some, isNil, evStr, iv, loadInt, rowsSp_len, feSpFrom_, feSpTo_, leSpFrom_, leSpTo_, t2, f1, beq_self_eq_true, t1, yes_eq]; first | done | rfl) (by decide) rfl (by decide) ?_
              | refine ops_off rfl rfl rfl rfl (by decide) ?_
              | (refine ops_nil ?_; intro e2 h2; simp only [restr, kpPhasesAtLaw, List.map_cons, List.map_nil, Ev.get, reduceIte, Nat.reduceEqDiff] at h2; subst h2))
            exact leaves_v rfl rfl
        · have b0 : decide ((l.length : Int) > 60) = true := decide_eq_true (by omega)
          repeat (first
            | refine runs_seq ?_ | refine runs_block ?_ | refine next_normal ?_ | refine inside_normal ?_ | refine next_exit ?_ | refine inside_exit ?_ | refine inside_other (by decide) ?_ | refine next_ret ?_ | refine inside_ret ?_
            | refine runs_ops_kept ?_ | refine runs_skip ?_ | refine runs_exit ?_ | refine runs_ret ?_
            | ((first | refine' ops_op rfl rfl (by decide) ?_ ?_ ?_ | refine' ops_yes rfl rfl (by simp only [Ev.get, reduceIte, Nat.reduceEqDiff, szStr, szInt, Option.getD_some, isNil, evStr, iv, loadInt, rowsSp_len, feSpFrom_, feSpTo_, leSpFrom_, leSpTo_, b0]; first | done | rfl) rfl (by decide) ?_ ?_ ?_ | refine' ops_op0 rfl rfl ?_ ?_ ?_); rotate_left 2; (focus (simp only [evOp, opd, constAV, constCell, Ev.get, reduceIte, Nat.reduceEqDiff, reduceCtorEq, evBinN, nilCmp, evBin, evInt, evUn, evConvert, evBuiltin, evLen, evField, evPart, tStr, tInt, tElem, tArr, tBool, tAgg, tField, Try.underlying9, Try.underlying3, Try.underlying4, Try.underlying5, Try.underlying21, Try.underlying121, Try.underlying38, Try.underlying25, Try.underlying135, Try.underlying33, Try.underlying2, Try.underlying147, Try.underlying22, Try.underlying56, Try.underlying54, List.zipWith, Option.map_some, Option.map_none, List.length_cons, List.length_nil, ne_eq, Int.reduceEq, not_false_eq_true, and_self, and_true, true_and, szStr, szInt, Option.getD_some, isNil, evStr, iv, loadInt, rowsSp_len, feSpFrom_, feSpTo_, leSpFrom_, leSpTo_, evCall, List.size_toArray, List.append_nil, List.nil_append, List.map_cons, List.map_nil, argAV, argCell, List.toList_toArray, fieldTy, b0]; first | done | rfl)); exact (fun h => by first | rfl | (simp at h; done) | exact absurd (Bool.and_eq_true_iff.mp h).2 (by decide)))
            | refine ops_no rfl rfl (by simp only [Ev.get, reduceIte, Nat.reduceEqDiff, szStr, szInt, Option.getD_some, isNil, evStr, iv, loadInt, rowsSp_len, feSpFrom_, feSpTo_, leSpFrom_, leSpTo_, b0]; first | done | rfl) (by decide) rfl (by decide) ?_
            | refine ops_off rfl rfl rfl rfl (by decide) ?_
            | (refine ops_nil ?_; intro e2 h2; simp only [restr, kpPhasesAtLaw, List.map_cons, List.map_nil, Ev.get, reduceIte, Nat.reduceEqDiff] at h2; subst h2))
          refine runs_cond rfl (fun hc => ?_) (fun hc => by cases hc)
          repeat (first
            | refine runs_seq ?_ | refine runs_block ?_ | refine next_normal ?_ | refine inside_normal ?_ | refine next_exit ?_ | refine inside_exit ?_ | refine inside_other (by decide) ?_ | refine next_ret ?_ | refine inside_ret ?_
            | refine runs_ops_kept ?_ | refine runs_skip ?_ | refine runs_exit ?_ | refine runs_ret ?_
            | ((first | refine' ops_op rfl rfl (by decide) ?_ ?_ ?_ | refine' ops_yes rfl rfl (by simp only [Ev.get, reduceIte, Nat.reduceEqDiff, szStr, szInt, Option.getD_some, isNil, evStr, iv, loadInt, rowsSp_len, feSpFrom_, feSpTo_, leSpFrom_, leSpTo_, t1, yes_eq]; first | done | rfl) rfl (by decide) ?_ ?_ ?_ | refine' ops_op0 rfl rfl ?_ ?_ ?_); rotate_left 2; (focus (simp only [evOp, opd, constAV, constCell, Ev.get, reduceIte, Nat.reduceEqDiff, reduceCtorEq, evBinN, nilCmp, evBin, evInt, evUn, evConvert, evBuiltin, evLen, evField, evPart, tStr, tInt, tElem, tArr, tBool, tAgg, tField, Try.underlying9, Try.underlying3, Try.underlying4, Try.underlying5, Try.underlying21, Try.underlying121, Try.underlying38, Try.underlying25, Try.underlying135, Try.underlying33, Try.underlying2, Try.underlying147, Try.underlying22, Try.underlying56, Try.underlying54, List.zipWith, Option.map_some, Option.map_none, List.length_cons, List.length_nil, ne_eq, Int.reduceEq, not_false_eq_true, and_self, and_true, true_and, szStr, szInt, Option.getD_some, isNil, evStr, iv, loadInt, rowsSp_len, feSpFrom_, feSpTo_, leSpFrom_, leSpTo_, evCall, List.size_toArray, List.append_nil, List.nil_append, List.map_cons, List.map_nil, argAV, argCell, List.toList_toArray, fieldTy, t1, yes_eq]; first | done | rfl)); exact (fun h => by first | rfl | (simp at h; done) | exact absurd (Bool.and_eq_true_iff.mp h).2 (by decide)))
            | refine ops_no rfl rfl (by simp only [Ev.get, reduceIte, Nat.reduceEqDiff, szStr, szInt, Option.getD_some, isNil, evStr, iv, loadInt, rowsSp_len, feSpFrom_, feSpTo_, leSpFrom_, leSpTo_, t1, yes_eq]; first | done | rfl) (by decide) rfl (by decide) ?_
            | refine ops_off rfl rfl rfl rfl (by decide) ?_
            | (refine ops_nil ?_; intro e2 h2; simp only [restr, kpPhasesAtLaw, List.map_cons, List.map_nil, Ev.get, reduceIte, Nat.reduceEqDiff] at h2; subst h2))
          exact leaves_v rfl rfl
      · cases h
    · cases h
  · cases h
end Go.Proofs.Ytojaokhkbmiidaa.Ev

namespace Go.Proofs.Ytojaokhkbmiidaa.phasesAt
open Go Go.Proofs Go.ChangeShapes Go.WideShapes Go.ChangeAt Go.RowKit
set_option linter.unusedVariables false
theorem own : ownKnob Try.prog.godebug = none := by kernel_rfl
theorem laid : laidOutB Try.prog = true := by kernel_rfl
theorem same_left {H : Type} : ∀ ds : List (DataW H), ds.length = 2 → Rows.phasesAtSpec.fn H ds = { results := [.lit (.bool true)], args := ds }
  | [d0, d1], _ => rfl
set_option maxRecDepth 100000 in
theorem holds_at : ∀ vs, Ev.TypedAll Try.prog 6 [45, 3] vs → ∃ m', Ev.phasesAtLawG vs ⟨[], []⟩ = some (.v (.bool true), m') := by
  rintro (_ | ⟨a, _ | ⟨b, _ | ⟨x, r⟩⟩⟩) h
  · exact h.elim
  · exact h.2.elim
  · obtain ⟨h0, h1, _⟩ := h
    obtain ⟨l, hl, rfl⟩ := Ev.arg_spans h0
    obtain ⟨n, rfl, n0, n1⟩ := Ev.arg_int Try.underlying3 h1
    refine ⟨⟨[], []⟩, ?_⟩
    simp only [Ev.phasesAtLawG, Ev.unsSp_rowsSp]
    exact if_pos hl
  · exact h.2.2.elim
set_option maxRecDepth 100000 in
theorem lifted (os : Os) (started : os.Started) (H : Type) (enc : TypeId × Value → H) :
    ReturnsInHanded {} Try.checked os 7 .any (Rows.phasesAtSpec.pre6 enc Try.prog Try.f7 Rows.phasesAtRow.domain false) (Rows.phasesAtSpec.post enc Try.prog Try.f7 false true false false) :=
  Ev.law_lifted (C := Try.checked) own started (by kernel_rfl) Try.func7
    (ChangeSpec.witness6 (enc := enc) (C := Try.checked) false ⟨#[], #[.slice none 0 0, .int .i64 0], []⟩ 8 (by kernel_rfl) (by kernel_rfl) (by kernel_rfl) (by kernel_rfl))
    laid rfl [45, 3] Try.params7 6 (by kernel_rfl) (tb := 4) rfl Try.underlying4 same_left Ev.phasesAtLaw_ok holds_at
theorem over : Rows.phasesAtRow.holds Try.pinned (OpenSpec.ofChange Rows.phasesAtSpec) :=
  OpenClaim.holds_of_wide 7 Try.f7 rfl rfl rfl rfl rfl rfl rfl ⟨rfl, rfl, rfl, rfl, rfl⟩ rfl rfl rfl rfl rfl (by kernel_rfl) Try.func7 (by kernel_rfl)
    (of_decide_eq_true (by kernel_rfl)) (by unfold Func.isWrapper; first | (rw [if_pos (by decide +kernel)]; kernel_rfl) | (rw [if_neg (by decide +kernel)]; exact ⟨rfl, rfl⟩))
    (fun os started H enc _ => lifted os started H enc)
theorem proved : Rows.PhasesAtSaid := over
end Go.Proofs.Ytojaokhkbmiidaa.phasesAt
namespace Go.Proofs.Ytojaokhkbmiidaa
/-- The row, under a short name, for the claim. -/
theorem phasesAt_holds : Rows.PhasesAtSaid := phasesAt.proved
end Go.Proofs.Ytojaokhkbmiidaa
