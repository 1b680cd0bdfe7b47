/- Bytes: codes, put behind a list; lists held against each other. -/
import Derived.Test.YtbehhlbcffbkoaaSeK
import Derived.Test.YtbehhlbcffbkoaaEv26
namespace Go.Proofs.Ytbehhlbcffbkoaa.Ev
open Go Go.Proofs
set_option maxRecDepth 10000
set_option linter.unusedVariables false
set_option linter.unusedSimpArgs false
attribute [local irreducible] Next Inside Runs Ops table
def codeB (u : Nat) : List Nat := if h : u < 128 then [u] else (u % 128 + 128) :: codeB (u / 128)
termination_by u
decreasing_by omega
theorem codeB_lt {u : Nat} (h : u < 128) : codeB u = [u] := by rw [codeB, dif_pos h]
theorem codeB_ge {u : Nat} (h : ¬ u < 128) : codeB u = (u % 128 + 128) :: codeB (u / 128) := by rw [codeB, dif_neg h]
theorem code_okB (u : Nat) : OkB (codeB u) := by
  induction u using Nat.strongRecOn with
  | _ u ih =>
    by_cases h : u < 128
    · rw [codeB_lt h]; exact .one (by omega)
    · rw [codeB_ge h]
      intro b hb
      rcases List.mem_cons.1 hb with rfl | hb
      · omega
      · exact ih (u / 128) (by omega) b hb
theorem code_len : ∀ (k u : Nat), 1 ≤ k → u < 128 ^ k → (codeB u).length ≤ k
  | 0, u, h, _ => by omega
  | k + 1, u, _, h => by
    by_cases h1 : u < 128
    · rw [codeB_lt h1]; simp
    · rw [codeB_ge h1]
      have hk : 1 ≤ k := by
        rcases Nat.eq_zero_or_pos k with rfl | hk
        · simp at h; omega
        · exact hk
      have := code_len k (u / 128) hk (by rw [Nat.pow_succ] at h; omega)
      simp; omega
theorem code_ten {u : Nat} (h : u < 18446744073709551616) : (codeB u).length ≤ 10 := code_len 10 u (by decide) (by omega)
theorem code_pos (u : Nat) : 0 < (codeB u).length := by
  by_cases h : u < 128
  · rw [codeB_lt h]; simp
  · rw [codeB_ge h]; simp
def codeG : List AV → Mem → Option (AV × Mem)
  | [.v (.int .i64 n)], m => if inI n then some (.lst .no 1 (rowsB (codeB (foldOf n))), m) else none
  | _, _ => none
theorem codeG_eq {n : Int} {m : Mem} (h : inI n) : codeG [.v (.int .i64 n)] m = some (.lst .no 1 (rowsB (codeB (foldOf n))), m) := if_pos h
theorem u8_wrap {n : Nat} (h : n < 256) : IntKind.u8.wrap (n : Int) = n := wrap_of _ _ (by simp [IntKind.min, IntKind.signed]) (by simp [IntKind.max, IntKind.signed, IntKind.bits]; omega)
theorem u8_mod (n : Nat) : IntKind.u8.wrap (n : Int) = ((n % 256 : Nat) : Int) := by
  simp [IntKind.wrap, IntKind.bits, IntKind.signed]
theorem or128 : ∀ y, y < 256 → y ||| 128 = y % 128 + 128 := by decide
theorem or_num {x : Nat} : IntKind.u8.wrap (BitVec.ofInt IntKind.u8.bits (IntKind.u8.wrap (x : Int)) ||| BitVec.ofInt IntKind.u8.bits 128).toNat = ((x % 128 + 128 : Nat) : Int) := by
  rw [u8_mod x, BitVec.toNat_or, BitVec.ofInt_natCast, BitVec.toNat_ofNat]
  have e1 : (BitVec.ofInt IntKind.u8.bits 128).toNat = 128 := by decide
  have e2 : 2 ^ IntKind.u8.bits = 256 := by decide
  rw [e1, e2, Nat.mod_mod, or128 _ (Nat.mod_lt _ (by decide)), u8_wrap (by omega)]
  omega
def kp29 : Nat → Option (List Nat) := fun _ => some [0, 2, 3, 4, 9]
theorem code_ok : FunOk Try.prog 29 codeG := by
  have hC := table_ok (P := Try.prog) (l := [(32, foldG)]) (by simp only [List.mem_singleton, forall_eq]; exact refFold_ok)
  refine fun_ok mixed hC Try.func29 rfl kp29 false rfl fun args m r h => ?_
  unfold codeG at h
  split at h
  · rename_i n
    split at h
    · rename_i hn
      simp only [Option.some.injEq] at h
      subst h
      refine ⟨Nat.le_of_ble_eq_true rfl, ?_⟩
      simp only [entry, List.length_cons, List.length_nil, List.range, List.range.loop, List.zip_cons_cons, List.zip_nil_right]
      have f1 := fold_eq (m := m) hn
      repeat (first
        | refine runs_seq ?_ | refine runs_block ?_ | refine next_normal ?_ | refine inside_normal ?_ | refine next_exit ?_ | refine inside_exit ?_ | refine inside_other (by decide) ?_ | refine next_ret ?_ | refine inside_ret ?_
        | refine runs_ops_kept ?_ | refine runs_skip ?_ | refine runs_exit ?_ | refine runs_ret ?_
        | refine ops_op rfl rfl (by decide) (by simp only [evOp, opd, constAV, constCell, Ev.get, reduceIte, Nat.reduceEqDiff, reduceCtorEq, evBinN, nilCmp, evBin, evInt, evUn, evConvert, evBuiltin, evLen, evField, evPart, tStr, tInt, tElem, tArr, tBool, tAgg, tField, Try.underlying3, Try.underlying4, Try.underlying5, Try.underlying9, Try.underlying26, Try.underlying29, Try.underlying34, Try.underlying40, Try.underlying45, Try.underlying56, Try.underlying134, List.zipWith, Option.map_some, Option.map_none, List.length_cons, List.length_nil, ne_eq, Int.reduceEq, not_false_eq_true, and_self, and_true, true_and, sz5, sz3, Option.getD_some, isNil, load5, load3, mk40_0, mk40_1, mk56_0, mk56_1, rowsB_len, rowsI_len, evCall, List.size_toArray, List.append_nil, List.nil_append, List.map_cons, List.map_nil, argAV, argCell, List.toList_toArray, fieldTy, table_hit, f1]; rfl) (fun h => by first | rfl | (simp at h; done)) ?_
        | refine ops_yes rfl rfl (by simp only [Ev.get, reduceIte, Nat.reduceEqDiff, sz5, sz3, Option.getD_some, isNil, load5, load3, mk40_0, mk40_1, mk56_0, mk56_1, rowsB_len, rowsI_len, table_hit, f1]; first | done | rfl) rfl (by decide) (by simp only [evOp, opd, constAV, constCell, Ev.get, reduceIte, Nat.reduceEqDiff, reduceCtorEq, evBinN, nilCmp, evBin, evInt, evUn, evConvert, evBuiltin, evLen, evField, evPart, tStr, tInt, tElem, tArr, tBool, tAgg, tField, Try.underlying3, Try.underlying4, Try.underlying5, Try.underlying9, Try.underlying26, Try.underlying29, Try.underlying34, Try.underlying40, Try.underlying45, Try.underlying56, Try.underlying134, List.zipWith, Option.map_some, Option.map_none, List.length_cons, List.length_nil, ne_eq, Int.reduceEq, not_false_eq_true, and_self, and_true, true_and, sz5, sz3, Option.getD_some, isNil, load5, load3, mk40_0, mk40_1, mk56_0, mk56_1, rowsB_len, rowsI_len, evCall, List.size_toArray, List.append_nil, List.nil_append, List.map_cons, List.map_nil, argAV, argCell, List.toList_toArray, fieldTy, table_hit, f1]; rfl) (fun h => by first | rfl | (simp at h; done)) ?_
        | refine ops_no rfl rfl (by simp only [Ev.get, reduceIte, Nat.reduceEqDiff, sz5, sz3, Option.getD_some, isNil, load5, load3, mk40_0, mk40_1, mk56_0, mk56_1, rowsB_len, rowsI_len, table_hit, f1]; first | done | rfl) (by decide) rfl (by decide) ?_
        | refine ops_off rfl rfl rfl rfl (by decide) ?_
        | (refine ops_nil ?_; intro e2 h2; simp only [restr, kp29, List.map_cons, List.map_nil, Ev.get, reduceIte, Nat.reduceEqDiff] at h2; subst h2))
      have hten := code_ten (foldOf_lt hn)
      refine runs_loop (fun k e m' => ∃ (x : Nat) (pre : List Nat) (g : Grow) (x9 : AV), pre ++ codeB x = codeB (foldOf n) ∧ x < 18446744073709551616 ∧ Grows m g m' ∧ k = x ∧
        e = [(0, AV.v (.int .i64 n)), (2, .lst .full 1 []), (3, .v (.int .u64 (x : Int))), (4, .lst g 1 (rowsB pre)), (9, x9)]) (k := foldOf n) ⟨foldOf n, [], .full, _, rfl, foldOf_lt hn, grows_full, rfl, rfl⟩ ?_
      rintro k e m' ⟨x, pre, g, x9, hpre, hx, hG, rfl, rfl⟩
      have hpl : pre.length + 1 ≤ 10 := by
        have := congrArg List.length hpre
        rw [List.length_append] at this
        have := code_pos k
        omega
      repeat (first
        | refine runs_seq ?_ | refine runs_block ?_ | refine next_normal ?_ | refine inside_normal ?_ | refine next_exit ?_ | refine inside_exit ?_ | refine inside_other (by decide) ?_ | refine next_ret ?_ | refine inside_ret ?_
        | refine runs_ops_kept ?_ | refine runs_skip ?_ | refine runs_exit ?_ | refine runs_ret ?_
        | refine ops_op rfl rfl (by decide) (by simp only [evOp, opd, constAV, constCell, Ev.get, reduceIte, Nat.reduceEqDiff, reduceCtorEq, evBinN, nilCmp, evBin, evInt, evUn, evConvert, evBuiltin, evLen, evField, evPart, tStr, tInt, tElem, tArr, tBool, tAgg, tField, Try.underlying3, Try.underlying4, Try.underlying5, Try.underlying9, Try.underlying26, Try.underlying29, Try.underlying34, Try.underlying40, Try.underlying45, Try.underlying56, Try.underlying134, List.zipWith, Option.map_some, Option.map_none, List.length_cons, List.length_nil, ne_eq, Int.reduceEq, not_false_eq_true, and_self, and_true, true_and, sz5, sz3, Option.getD_some, isNil, load5, load3, mk40_0, mk40_1, mk56_0, mk56_1, rowsB_len, rowsI_len, evCall, List.size_toArray, List.append_nil, List.nil_append, List.map_cons, List.map_nil, argAV, argCell, List.toList_toArray, fieldTy]; rfl) (fun h => by first | rfl | (simp at h; done)) ?_
        | refine ops_yes rfl rfl (by simp only [Ev.get, reduceIte, Nat.reduceEqDiff, sz5, sz3, Option.getD_some, isNil, load5, load3, mk40_0, mk40_1, mk56_0, mk56_1, rowsB_len, rowsI_len]; first | done | rfl) rfl (by decide) (by simp only [evOp, opd, constAV, constCell, Ev.get, reduceIte, Nat.reduceEqDiff, reduceCtorEq, evBinN, nilCmp, evBin, evInt, evUn, evConvert, evBuiltin, evLen, evField, evPart, tStr, tInt, tElem, tArr, tBool, tAgg, tField, Try.underlying3, Try.underlying4, Try.underlying5, Try.underlying9, Try.underlying26, Try.underlying29, Try.underlying34, Try.underlying40, Try.underlying45, Try.underlying56, Try.underlying134, List.zipWith, Option.map_some, Option.map_none, List.length_cons, List.length_nil, ne_eq, Int.reduceEq, not_false_eq_true, and_self, and_true, true_and, sz5, sz3, Option.getD_some, isNil, load5, load3, mk40_0, mk40_1, mk56_0, mk56_1, rowsB_len, rowsI_len, evCall, List.size_toArray, List.append_nil, List.nil_append, List.map_cons, List.map_nil, argAV, argCell, List.toList_toArray, fieldTy]; rfl) (fun h => by first | rfl | (simp at h; done)) ?_
        | refine ops_no rfl rfl (by simp only [Ev.get, reduceIte, Nat.reduceEqDiff, sz5, sz3, Option.getD_some, isNil, load5, load3, mk40_0, mk40_1, mk56_0, mk56_1, rowsB_len, rowsI_len]; first | done | rfl) (by decide) rfl (by decide) ?_
        | refine ops_off rfl rfl rfl rfl (by decide) ?_
        | (refine ops_nil ?_; intro e2 h2; simp only [restr, kp29, List.map_cons, List.map_nil, Ev.get, reduceIte, Nat.reduceEqDiff] at h2; subst h2))
      refine runs_cond rfl (fun hc => ?_) (fun hc => ?_)
      · have h128 : ¬ k < 128 := by have := of_decide_eq_true hc; omega
        rw [codeB_ge h128] at hpre
        have r1 : (k : Int).tmod 128 = ((k % 128 : Nat) : Int) := tmod_nat k 128
        have r2 : IntKind.u8.wrap ((k % 128 : Nat) : Int) = ((k % 128 : Nat) : Int) := u8_wrap (by omega)
        have r3 : IntKind.u8.wrap (((k % 128 : Nat) : Int) + 128) = ((k % 128 + 128 : Nat) : Int) := u8_wrap (n := k % 128 + 128) (by omega)
        have r4 : IntKind.u64.wrap ((k : Int).tdiv 128) = ((k / 128 : Nat) : Int) := by rw [show (k : Int).tdiv 128 = ((k / 128 : Nat) : Int) from rfl, u64_wrap (by omega)]
        obtain ⟨g', m'', a1, hG'⟩ := app_byte app40 hG (g2 := .full) pre (k % 128 + 128) (by unfold lim; omega)
        repeat (first
          | refine runs_seq ?_ | refine runs_block ?_ | refine next_normal ?_ | refine inside_normal ?_ | refine next_exit ?_ | refine inside_exit ?_ | refine inside_other (by decide) ?_ | refine next_ret ?_ | refine inside_ret ?_
          | refine runs_ops_kept ?_ | refine runs_skip ?_ | refine runs_exit ?_ | refine runs_ret ?_
          | refine ops_op rfl rfl (by decide) (by simp only [evOp, opd, constAV, constCell, Ev.get, reduceIte, Nat.reduceEqDiff, reduceCtorEq, evBinN, nilCmp, evBin, evInt, evUn, evConvert, evBuiltin, evLen, evField, evPart, tStr, tInt, tElem, tArr, tBool, tAgg, tField, Try.underlying3, Try.underlying4, Try.underlying5, Try.underlying9, Try.underlying26, Try.underlying29, Try.underlying34, Try.underlying40, Try.underlying45, Try.underlying56, Try.underlying134, List.zipWith, Option.map_some, Option.map_none, List.length_cons, List.length_nil, ne_eq, Int.reduceEq, not_false_eq_true, and_self, and_true, true_and, sz5, sz3, Option.getD_some, isNil, load5, load3, mk40_0, mk40_1, mk56_0, mk56_1, rowsB_len, rowsI_len, evCall, List.size_toArray, List.append_nil, List.nil_append, List.map_cons, List.map_nil, argAV, argCell, List.toList_toArray, fieldTy, r1, r2, r3, r4, a1]; rfl) (fun h => by first | rfl | (simp at h; done)) ?_
          | refine ops_yes rfl rfl (by simp only [Ev.get, reduceIte, Nat.reduceEqDiff, sz5, sz3, Option.getD_some, isNil, load5, load3, mk40_0, mk40_1, mk56_0, mk56_1, rowsB_len, rowsI_len, r1, r2, r3, r4, a1]; first | done | rfl) rfl (by decide) (by simp only [evOp, opd, constAV, constCell, Ev.get, reduceIte, Nat.reduceEqDiff, reduceCtorEq, evBinN, nilCmp, evBin, evInt, evUn, evConvert, evBuiltin, evLen, evField, evPart, tStr, tInt, tElem, tArr, tBool, tAgg, tField, Try.underlying3, Try.underlying4, Try.underlying5, Try.underlying9, Try.underlying26, Try.underlying29, Try.underlying34, Try.underlying40, Try.underlying45, Try.underlying56, Try.underlying134, List.zipWith, Option.map_some, Option.map_none, List.length_cons, List.length_nil, ne_eq, Int.reduceEq, not_false_eq_true, and_self, and_true, true_and, sz5, sz3, Option.getD_some, isNil, load5, load3, mk40_0, mk40_1, mk56_0, mk56_1, rowsB_len, rowsI_len, evCall, List.size_toArray, List.append_nil, List.nil_append, List.map_cons, List.map_nil, argAV, argCell, List.toList_toArray, fieldTy, r1, r2, r3, r4, a1]; rfl) (fun h => by first | rfl | (simp at h; done)) ?_
          | refine ops_no rfl rfl (by simp only [Ev.get, reduceIte, Nat.reduceEqDiff, sz5, sz3, Option.getD_some, isNil, load5, load3, mk40_0, mk40_1, mk56_0, mk56_1, rowsB_len, rowsI_len, r1, r2, r3, r4, a1]; first | done | rfl) (by decide) rfl (by decide) ?_
          | refine ops_off rfl rfl rfl rfl (by decide) ?_
          | (refine ops_nil ?_; intro e2 h2; simp only [restr, kp29, List.map_cons, List.map_nil, Ev.get, reduceIte, Nat.reduceEqDiff] at h2; subst h2))
        exact ⟨k / 128, by omega, k / 128, _, g', _, by rw [List.append_assoc]; exact hpre, by omega, hG', rfl, rfl⟩
      · have h128 : k < 128 := by have := of_decide_eq_false hc; omega
        rw [codeB_lt h128] at hpre
        have r2 : IntKind.u8.wrap (k : Int) = (k : Int) := u8_wrap (by omega)
        obtain ⟨g', m'', a1, hG'⟩ := app_byte app40 hG (g2 := .full) pre k (by unfold lim; omega)
        rw [hpre] at a1
        repeat (first
          | refine runs_seq ?_ | refine runs_block ?_ | refine next_normal ?_ | refine inside_normal ?_ | refine next_exit ?_ | refine inside_exit ?_ | refine inside_other (by decide) ?_ | refine next_ret ?_ | refine inside_ret ?_
          | refine runs_ops_kept ?_ | refine runs_skip ?_ | refine runs_exit ?_ | refine runs_ret ?_
          | refine ops_op rfl rfl (by decide) (by simp only [evOp, opd, constAV, constCell, Ev.get, reduceIte, Nat.reduceEqDiff, reduceCtorEq, evBinN, nilCmp, evBin, evInt, evUn, evConvert, evBuiltin, evLen, evField, evPart, tStr, tInt, tElem, tArr, tBool, tAgg, tField, Try.underlying3, Try.underlying4, Try.underlying5, Try.underlying9, Try.underlying26, Try.underlying29, Try.underlying34, Try.underlying40, Try.underlying45, Try.underlying56, Try.underlying134, List.zipWith, Option.map_some, Option.map_none, List.length_cons, List.length_nil, ne_eq, Int.reduceEq, not_false_eq_true, and_self, and_true, true_and, sz5, sz3, Option.getD_some, isNil, load5, load3, mk40_0, mk40_1, mk56_0, mk56_1, rowsB_len, rowsI_len, evCall, List.size_toArray, List.append_nil, List.nil_append, List.map_cons, List.map_nil, argAV, argCell, List.toList_toArray, fieldTy, r2, a1]; rfl) (fun h => by first | rfl | (simp at h; done)) ?_
          | refine ops_yes rfl rfl (by simp only [Ev.get, reduceIte, Nat.reduceEqDiff, sz5, sz3, Option.getD_some, isNil, load5, load3, mk40_0, mk40_1, mk56_0, mk56_1, rowsB_len, rowsI_len, r2, a1]; first | done | rfl) rfl (by decide) (by simp only [evOp, opd, constAV, constCell, Ev.get, reduceIte, Nat.reduceEqDiff, reduceCtorEq, evBinN, nilCmp, evBin, evInt, evUn, evConvert, evBuiltin, evLen, evField, evPart, tStr, tInt, tElem, tArr, tBool, tAgg, tField, Try.underlying3, Try.underlying4, Try.underlying5, Try.underlying9, Try.underlying26, Try.underlying29, Try.underlying34, Try.underlying40, Try.underlying45, Try.underlying56, Try.underlying134, List.zipWith, Option.map_some, Option.map_none, List.length_cons, List.length_nil, ne_eq, Int.reduceEq, not_false_eq_true, and_self, and_true, true_and, sz5, sz3, Option.getD_some, isNil, load5, load3, mk40_0, mk40_1, mk56_0, mk56_1, rowsB_len, rowsI_len, evCall, List.size_toArray, List.append_nil, List.nil_append, List.map_cons, List.map_nil, argAV, argCell, List.toList_toArray, fieldTy, r2, a1]; rfl) (fun h => by first | rfl | (simp at h; done)) ?_
          | refine ops_no rfl rfl (by simp only [Ev.get, reduceIte, Nat.reduceEqDiff, sz5, sz3, Option.getD_some, isNil, load5, load3, mk40_0, mk40_1, mk56_0, mk56_1, rowsB_len, rowsI_len, r2, a1]; first | done | rfl) (by decide) rfl (by decide) ?_
          | refine ops_off rfl rfl rfl rfl (by decide) ?_
          | (refine ops_nil ?_; intro e2 h2; simp only [restr, kp29, List.map_cons, List.map_nil, Ev.get, reduceIte, Nat.reduceEqDiff] at h2; subst h2))
        exact leaves_lst rfl rfl (fin_grows hG')
    · cases h
  · cases h
def putG : List AV → Mem → Option (AV × Mem)
  | [.lst _ 1 rows, .v (.int .i64 n)], m =>
    match unB rows with
    | some l => if inI n ∧ l.length ≤ 2147483648 then some (.lst .no 1 (rowsB (l ++ codeB (foldOf n))), m) else none
    | none => none
  | _, _ => none
theorem putG_eq {n : Int} {m : Mem} {g : Grow} {l : List Nat} (hl : OkB l) (hl2 : l.length ≤ 2147483648) (h : inI n) : putG [.lst g 1 (rowsB l), .v (.int .i64 n)] m = some (.lst .no 1 (rowsB (l ++ codeB (foldOf n))), m) := by
  simp only [putG, unB_rowsB hl]
  rw [if_pos ⟨h, hl2⟩]
def kp28 : Nat → Option (List Nat) := fun _ => some [0, 1, 4, 5, 11]
theorem clone_eq {g : Grow} {k : Nat} {rows : List (List AV)} {m : Mem} (h : rows.length ≤ lim) : cloneG k [.lst g k rows] m = some (.lst (.tok m.toks.length 0) k rows, m.tk [0]) := if_pos ⟨rfl, h⟩
theorem put_ok : FunOk Try.prog 28 putG := by
  have hC := table_ok (P := Try.prog) (l := [(73, cloneG 1), (31, foldG)]) (by simp only [List.mem_cons, List.not_mem_nil, or_false, forall_eq_or_imp, forall_eq]; exact ⟨clone73_ok, fold_ok⟩)
  refine fun_ok mixed hC Try.func28 rfl kp28 false rfl fun args m r h => ?_
  unfold putG at h
  split at h
  · rename_i g0 rows n
    split at h
    · rename_i l hl0
      obtain ⟨rfl, hl⟩ := unB_some hl0
      split at h
      · rename_i hn
        obtain ⟨hn, hlen⟩ := hn
        simp only [Option.some.injEq] at h
        subst h
        refine ⟨Nat.le_of_ble_eq_true rfl, ?_⟩
        simp only [entry, List.length_cons, List.length_nil, List.range, List.range.loop, List.zip_cons_cons, List.zip_nil_right]
        have f0 := fun mm => clone_eq (g := .no) (k := 1) (m := mm) (rows := rowsB l) (by rw [rowsB_len]; unfold lim; omega)
        have f1 := fun mm => fold_eq (m := mm) hn
        have f2 := fun mm => (table_miss (f := 31) (k := 73) (g := cloneG 1) (rest := [(31, foldG)]) (args := [.v (.int .i64 n)]) (m := mm) (by decide)).trans (table_hit.trans (f1 mm))
        repeat (first
          | refine runs_seq ?_ | refine runs_block ?_ | refine next_normal ?_ | refine inside_normal ?_ | refine next_exit ?_ | refine inside_exit ?_ | refine inside_other (by decide) ?_ | refine next_ret ?_ | refine inside_ret ?_
          | refine runs_ops_kept ?_ | refine runs_skip ?_ | refine runs_exit ?_ | refine runs_ret ?_
          | refine ops_op rfl rfl (by decide) (by simp only [evOp, opd, constAV, constCell, Ev.get, reduceIte, Nat.reduceEqDiff, reduceCtorEq, evBinN, nilCmp, evBin, evInt, evUn, evConvert, evBuiltin, evLen, evField, evPart, tStr, tInt, tElem, tArr, tBool, tAgg, tField, Try.underlying3, Try.underlying4, Try.underlying5, Try.underlying9, Try.underlying26, Try.underlying29, Try.underlying34, Try.underlying40, Try.underlying45, Try.underlying56, Try.underlying134, List.zipWith, Option.map_some, Option.map_none, List.length_cons, List.length_nil, ne_eq, Int.reduceEq, not_false_eq_true, and_self, and_true, true_and, sz5, sz3, Option.getD_some, isNil, load5, load3, mk40_0, mk40_1, mk56_0, mk56_1, rowsB_len, rowsI_len, evCall, List.size_toArray, List.append_nil, List.nil_append, List.map_cons, List.map_nil, argAV, argCell, List.toList_toArray, fieldTy, table_hit, f0, f2]; rfl) (fun h => by first | rfl | (simp at h; done)) ?_
          | refine ops_yes rfl rfl (by simp only [Ev.get, reduceIte, Nat.reduceEqDiff, sz5, sz3, Option.getD_some, isNil, load5, load3, mk40_0, mk40_1, mk56_0, mk56_1, rowsB_len, rowsI_len, table_hit, f0, f2]; first | done | rfl) rfl (by decide) (by simp only [evOp, opd, constAV, constCell, Ev.get, reduceIte, Nat.reduceEqDiff, reduceCtorEq, evBinN, nilCmp, evBin, evInt, evUn, evConvert, evBuiltin, evLen, evField, evPart, tStr, tInt, tElem, tArr, tBool, tAgg, tField, Try.underlying3, Try.underlying4, Try.underlying5, Try.underlying9, Try.underlying26, Try.underlying29, Try.underlying34, Try.underlying40, Try.underlying45, Try.underlying56, Try.underlying134, List.zipWith, Option.map_some, Option.map_none, List.length_cons, List.length_nil, ne_eq, Int.reduceEq, not_false_eq_true, and_self, and_true, true_and, sz5, sz3, Option.getD_some, isNil, load5, load3, mk40_0, mk40_1, mk56_0, mk56_1, rowsB_len, rowsI_len, evCall, List.size_toArray, List.append_nil, List.nil_append, List.map_cons, List.map_nil, argAV, argCell, List.toList_toArray, fieldTy, table_hit, f0, f2]; rfl) (fun h => by first | rfl | (simp at h; done)) ?_
          | refine ops_no rfl rfl (by simp only [Ev.get, reduceIte, Nat.reduceEqDiff, sz5, sz3, Option.getD_some, isNil, load5, load3, mk40_0, mk40_1, mk56_0, mk56_1, rowsB_len, rowsI_len, table_hit, f0, f2]; first | done | rfl) (by decide) rfl (by decide) ?_
          | refine ops_off rfl rfl rfl rfl (by decide) ?_
          | (refine ops_nil ?_; intro e2 h2; simp only [restr, kp28, List.map_cons, List.map_nil, Ev.get, reduceIte, Nat.reduceEqDiff] at h2; subst h2))
        have hten := code_ten (foldOf_lt hn)
        refine runs_loop (fun k e m' => ∃ (x : Nat) (pre : List Nat) (g : Grow) (x9 : AV), pre ++ codeB x = l ++ codeB (foldOf n) ∧ pre.length ≤ l.length + 10 ∧ x < 18446744073709551616 ∧ Grows m g m' ∧ k = x ∧
          e = [(0, AV.lst g 1 (rowsB pre)), (1, .v (.int .i64 n)), (4, .lst .full 1 []), (5, .v (.int .u64 (x : Int))), (11, x9)]) (k := foldOf n) ⟨foldOf n, l, _, _, rfl, by omega, foldOf_lt hn, grows_tok, rfl, rfl⟩ ?_
        rintro k e m' ⟨x, pre, g, x9, hpre, hpl0, hx, hG, rfl, rfl⟩
        have hpl : pre.length + 1 ≤ l.length + 10 := by
          have := congrArg List.length hpre
          rw [List.length_append, List.length_append] at this
          have := code_pos k
          omega
        repeat (first
          | refine runs_seq ?_ | refine runs_block ?_ | refine next_normal ?_ | refine inside_normal ?_ | refine next_exit ?_ | refine inside_exit ?_ | refine inside_other (by decide) ?_ | refine next_ret ?_ | refine inside_ret ?_
          | refine runs_ops_kept ?_ | refine runs_skip ?_ | refine runs_exit ?_ | refine runs_ret ?_
          | refine ops_op rfl rfl (by decide) (by simp only [evOp, opd, constAV, constCell, Ev.get, reduceIte, Nat.reduceEqDiff, reduceCtorEq, evBinN, nilCmp, evBin, evInt, evUn, evConvert, evBuiltin, evLen, evField, evPart, tStr, tInt, tElem, tArr, tBool, tAgg, tField, Try.underlying3, Try.underlying4, Try.underlying5, Try.underlying9, Try.underlying26, Try.underlying29, Try.underlying34, Try.underlying40, Try.underlying45, Try.underlying56, Try.underlying134, List.zipWith, Option.map_some, Option.map_none, List.length_cons, List.length_nil, ne_eq, Int.reduceEq, not_false_eq_true, and_self, and_true, true_and, sz5, sz3, Option.getD_some, isNil, load5, load3, mk40_0, mk40_1, mk56_0, mk56_1, rowsB_len, rowsI_len, evCall, List.size_toArray, List.append_nil, List.nil_append, List.map_cons, List.map_nil, argAV, argCell, List.toList_toArray, fieldTy]; rfl) (fun h => by first | rfl | (simp at h; done)) ?_
          | refine ops_yes rfl rfl (by simp only [Ev.get, reduceIte, Nat.reduceEqDiff, sz5, sz3, Option.getD_some, isNil, load5, load3, mk40_0, mk40_1, mk56_0, mk56_1, rowsB_len, rowsI_len]; first | done | rfl) rfl (by decide) (by simp only [evOp, opd, constAV, constCell, Ev.get, reduceIte, Nat.reduceEqDiff, reduceCtorEq, evBinN, nilCmp, evBin, evInt, evUn, evConvert, evBuiltin, evLen, evField, evPart, tStr, tInt, tElem, tArr, tBool, tAgg, tField, Try.underlying3, Try.underlying4, Try.underlying5, Try.underlying9, Try.underlying26, Try.underlying29, Try.underlying34, Try.underlying40, Try.underlying45, Try.underlying56, Try.underlying134, List.zipWith, Option.map_some, Option.map_none, List.length_cons, List.length_nil, ne_eq, Int.reduceEq, not_false_eq_true, and_self, and_true, true_and, sz5, sz3, Option.getD_some, isNil, load5, load3, mk40_0, mk40_1, mk56_0, mk56_1, rowsB_len, rowsI_len, evCall, List.size_toArray, List.append_nil, List.nil_append, List.map_cons, List.map_nil, argAV, argCell, List.toList_toArray, fieldTy]; rfl) (fun h => by first | rfl | (simp at h; done)) ?_
          | refine ops_no rfl rfl (by simp only [Ev.get, reduceIte, Nat.reduceEqDiff, sz5, sz3, Option.getD_some, isNil, load5, load3, mk40_0, mk40_1, mk56_0, mk56_1, rowsB_len, rowsI_len]; first | done | rfl) (by decide) rfl (by decide) ?_
          | refine ops_off rfl rfl rfl rfl (by decide) ?_
          | (refine ops_nil ?_; intro e2 h2; simp only [restr, kp28, List.map_cons, List.map_nil, Ev.get, reduceIte, Nat.reduceEqDiff] at h2; subst h2))
        refine runs_cond rfl (fun hc => ?_) (fun hc => ?_)
        · have h128 : ¬ k < 128 := by have := of_decide_eq_true hc; omega
          rw [codeB_ge h128] at hpre
          have r1 := or_num (x := k)
          have r4 : (k : Int).fdiv (2 ^ min (7 : Int).toNat IntKind.u64.bits) = ((k / 128 : Nat) : Int) := by
            rw [Int.fdiv_eq_ediv_of_nonneg _ (by decide)]
            exact (Int.natCast_ediv k 128).symm
          obtain ⟨g', m'', a1, hG'⟩ := app_byte app40 hG (g2 := .full) pre (k % 128 + 128) (by unfold lim; omega)
          repeat (first
            | refine runs_seq ?_ | refine runs_block ?_ | refine next_normal ?_ | refine inside_normal ?_ | refine next_exit ?_ | refine inside_exit ?_ | refine inside_other (by decide) ?_ | refine next_ret ?_ | refine inside_ret ?_
            | refine runs_ops_kept ?_ | refine runs_skip ?_ | refine runs_exit ?_ | refine runs_ret ?_
            | refine ops_op rfl rfl (by decide) (by simp only [evOp, opd, constAV, constCell, Ev.get, reduceIte, Nat.reduceEqDiff, reduceCtorEq, evBinN, nilCmp, evBin, evInt, evUn, evConvert, evBuiltin, evLen, evField, evPart, tStr, tInt, tElem, tArr, tBool, tAgg, tField, Try.underlying3, Try.underlying4, Try.underlying5, Try.underlying9, Try.underlying26, Try.underlying29, Try.underlying34, Try.underlying40, Try.underlying45, Try.underlying56, Try.underlying134, List.zipWith, Option.map_some, Option.map_none, List.length_cons, List.length_nil, ne_eq, Int.reduceEq, not_false_eq_true, and_self, and_true, true_and, sz5, sz3, Option.getD_some, isNil, load5, load3, mk40_0, mk40_1, mk56_0, mk56_1, rowsB_len, rowsI_len, evCall, List.size_toArray, List.append_nil, List.nil_append, List.map_cons, List.map_nil, argAV, argCell, List.toList_toArray, fieldTy, r1, r4, a1]; rfl) (fun h => by first | rfl | (simp at h; done)) ?_
            | refine ops_yes rfl rfl (by simp only [Ev.get, reduceIte, Nat.reduceEqDiff, sz5, sz3, Option.getD_some, isNil, load5, load3, mk40_0, mk40_1, mk56_0, mk56_1, rowsB_len, rowsI_len, r1, r4, a1]; first | done | rfl) rfl (by decide) (by simp only [evOp, opd, constAV, constCell, Ev.get, reduceIte, Nat.reduceEqDiff, reduceCtorEq, evBinN, nilCmp, evBin, evInt, evUn, evConvert, evBuiltin, evLen, evField, evPart, tStr, tInt, tElem, tArr, tBool, tAgg, tField, Try.underlying3, Try.underlying4, Try.underlying5, Try.underlying9, Try.underlying26, Try.underlying29, Try.underlying34, Try.underlying40, Try.underlying45, Try.underlying56, Try.underlying134, List.zipWith, Option.map_some, Option.map_none, List.length_cons, List.length_nil, ne_eq, Int.reduceEq, not_false_eq_true, and_self, and_true, true_and, sz5, sz3, Option.getD_some, isNil, load5, load3, mk40_0, mk40_1, mk56_0, mk56_1, rowsB_len, rowsI_len, evCall, List.size_toArray, List.append_nil, List.nil_append, List.map_cons, List.map_nil, argAV, argCell, List.toList_toArray, fieldTy, r1, r4, a1]; rfl) (fun h => by first | rfl | (simp at h; done)) ?_
            | refine ops_no rfl rfl (by simp only [Ev.get, reduceIte, Nat.reduceEqDiff, sz5, sz3, Option.getD_some, isNil, load5, load3, mk40_0, mk40_1, mk56_0, mk56_1, rowsB_len, rowsI_len, r1, r4, a1]; first | done | rfl) (by decide) rfl (by decide) ?_
            | refine ops_off rfl rfl rfl rfl (by decide) ?_
            | (refine ops_nil ?_; intro e2 h2; simp only [restr, kp28, List.map_cons, List.map_nil, Ev.get, reduceIte, Nat.reduceEqDiff] at h2; subst h2))
          exact ⟨k / 128, by omega, k / 128, _, g', _, by rw [List.append_assoc]; exact hpre, by simp; omega, by omega, hG', rfl, rfl⟩
        · have h128 : k < 128 := by have := of_decide_eq_false hc; omega
          rw [codeB_lt h128] at hpre
          have r2 : IntKind.u8.wrap (k : Int) = (k : Int) := u8_wrap (by omega)
          obtain ⟨g', m'', a1, hG'⟩ := app_byte app40 hG (g2 := .full) pre k (by unfold lim; omega)
          rw [hpre] at a1
          repeat (first
            | refine runs_seq ?_ | refine runs_block ?_ | refine next_normal ?_ | refine inside_normal ?_ | refine next_exit ?_ | refine inside_exit ?_ | refine inside_other (by decide) ?_ | refine next_ret ?_ | refine inside_ret ?_
            | refine runs_ops_kept ?_ | refine runs_skip ?_ | refine runs_exit ?_ | refine runs_ret ?_
            | refine ops_op rfl rfl (by decide) (by simp only [evOp, opd, constAV, constCell, Ev.get, reduceIte, Nat.reduceEqDiff, reduceCtorEq, evBinN, nilCmp, evBin, evInt, evUn, evConvert, evBuiltin, evLen, evField, evPart, tStr, tInt, tElem, tArr, tBool, tAgg, tField, Try.underlying3, Try.underlying4, Try.underlying5, Try.underlying9, Try.underlying26, Try.underlying29, Try.underlying34, Try.underlying40, Try.underlying45, Try.underlying56, Try.underlying134, List.zipWith, Option.map_some, Option.map_none, List.length_cons, List.length_nil, ne_eq, Int.reduceEq, not_false_eq_true, and_self, and_true, true_and, sz5, sz3, Option.getD_some, isNil, load5, load3, mk40_0, mk40_1, mk56_0, mk56_1, rowsB_len, rowsI_len, evCall, List.size_toArray, List.append_nil, List.nil_append, List.map_cons, List.map_nil, argAV, argCell, List.toList_toArray, fieldTy, r2, a1]; rfl) (fun h => by first | rfl | (simp at h; done)) ?_
            | refine ops_yes rfl rfl (by simp only [Ev.get, reduceIte, Nat.reduceEqDiff, sz5, sz3, Option.getD_some, isNil, load5, load3, mk40_0, mk40_1, mk56_0, mk56_1, rowsB_len, rowsI_len, r2, a1]; first | done | rfl) rfl (by decide) (by simp only [evOp, opd, constAV, constCell, Ev.get, reduceIte, Nat.reduceEqDiff, reduceCtorEq, evBinN, nilCmp, evBin, evInt, evUn, evConvert, evBuiltin, evLen, evField, evPart, tStr, tInt, tElem, tArr, tBool, tAgg, tField, Try.underlying3, Try.underlying4, Try.underlying5, Try.underlying9, Try.underlying26, Try.underlying29, Try.underlying34, Try.underlying40, Try.underlying45, Try.underlying56, Try.underlying134, List.zipWith, Option.map_some, Option.map_none, List.length_cons, List.length_nil, ne_eq, Int.reduceEq, not_false_eq_true, and_self, and_true, true_and, sz5, sz3, Option.getD_some, isNil, load5, load3, mk40_0, mk40_1, mk56_0, mk56_1, rowsB_len, rowsI_len, evCall, List.size_toArray, List.append_nil, List.nil_append, List.map_cons, List.map_nil, argAV, argCell, List.toList_toArray, fieldTy, r2, a1]; rfl) (fun h => by first | rfl | (simp at h; done)) ?_
            | refine ops_no rfl rfl (by simp only [Ev.get, reduceIte, Nat.reduceEqDiff, sz5, sz3, Option.getD_some, isNil, load5, load3, mk40_0, mk40_1, mk56_0, mk56_1, rowsB_len, rowsI_len, r2, a1]; first | done | rfl) (by decide) rfl (by decide) ?_
            | refine ops_off rfl rfl rfl rfl (by decide) ?_
            | (refine ops_nil ?_; intro e2 h2; simp only [restr, kp28, List.map_cons, List.map_nil, Ev.get, reduceIte, Nat.reduceEqDiff] at h2; subst h2))
          exact leaves_lst rfl rfl (fin_grows hG')
      · cases h
    · cases h
  · cases h
/-! ### the same bytes? -/
theorem at40 {g : Grow} {kk : IntKind} {l : List Nat} {i : Nat} (hi : i < l.length) : evIndexAddr Try.prog 40 (.lst g 1 (rowsB l)) (.v (.int kk (i : Int))) = some (.eptr [.v (.int .u8 ((l.getD i 0 : Nat) : Int))]) := at_list el40 na40 sz5 (rowsB_get hi)
theorem at56 {g : Grow} {kk : IntKind} {l : List Int} {i : Nat} (hi : i < l.length) : evIndexAddr Try.prog 56 (.lst g 1 (rowsI l)) (.v (.int kk (i : Int))) = some (.eptr [.v (.int .i64 (l.getD i 0))]) := at_list el56 na56 sz3 (rowsI_get hi)
def sameG : List AV → Mem → Option (AV × Mem)
  | [.lst _ 1 r1, .lst _ 1 r2], m =>
    match unB r1, unB r2 with
    | some l1, some l2 => if l1.length ≤ 4294967296 ∧ l2.length ≤ 4294967296 then some (.v (.bool (decide (l1 = l2))), m) else none
    | _, _ => none
  | _, _ => none
theorem sameG_eq {m : Mem} {g g2 : Grow} {l l2 : List Nat} (h1 : OkB l) (h2 : OkB l2) (hl : l.length ≤ 4294967296) (hl2 : l2.length ≤ 4294967296) : sameG [.lst g 1 (rowsB l), .lst g2 1 (rowsB l2)] m = some (.v (.bool (decide (l = l2))), m) := by
  simp only [sameG, unB_rowsB h1, unB_rowsB h2]
  rw [if_pos ⟨hl, hl2⟩]
theorem getD_ext {α : Type} {d : α} {l1 l2 : List α} (hl : l1.length = l2.length) (h : ∀ i, i < l1.length → l1.getD i d = l2.getD i d) : l1 = l2 := by
  apply List.ext_getElem hl
  intro i h1 h2
  have := h i h1
  simpa [List.getD, List.getElem?_eq_getElem h1, List.getElem?_eq_getElem h2] using this
def kp34 : Nat → Option (List Nat) := fun _ => some [0, 1, 4, 5, 10, 14, 25]
theorem same_ok : FunOk Try.prog 34 sameG := by
  have hC := table_ok (P := Try.prog) (l := []) (by simp)
  refine fun_ok mixed hC Try.func34 rfl kp34 false rfl fun args m r h => ?_
  unfold sameG at h
  split at h
  · rename_i g1 rows1 g2 rows2
    split at h
    · rename_i l1 l2 hl1 hl2
      obtain ⟨rfl, ok1⟩ := unB_some hl1
      obtain ⟨rfl, ok2⟩ := unB_some hl2
      split at h
      · rename_i hb
        simp only [Option.some.injEq] at h
        subst h
        refine ⟨Nat.le_of_ble_eq_true rfl, ?_⟩
        simp only [entry, List.length_cons, List.length_nil, List.range, List.range.loop, List.zip_cons_cons, List.zip_nil_right]
        repeat (first
          | refine runs_seq ?_ | refine runs_block ?_ | refine next_normal ?_ | refine inside_normal ?_ | refine next_exit ?_ | refine inside_exit ?_ | refine inside_other (by decide) ?_ | refine next_ret ?_ | refine inside_ret ?_
          | refine runs_ops_kept ?_ | refine runs_skip ?_ | refine runs_exit ?_ | refine runs_ret ?_
          | refine ops_op rfl rfl (by decide) (by simp only [evOp, opd, constAV, constCell, Ev.get, reduceIte, Nat.reduceEqDiff, reduceCtorEq, evBinN, nilCmp, evBin, evInt, evUn, evConvert, evBuiltin, evLen, evField, evPart, tStr, tInt, tElem, tArr, tBool, tAgg, tField, Try.underlying3, Try.underlying4, Try.underlying5, Try.underlying9, Try.underlying26, Try.underlying29, Try.underlying34, Try.underlying40, Try.underlying45, Try.underlying56, Try.underlying134, List.zipWith, Option.map_some, Option.map_none, List.length_cons, List.length_nil, ne_eq, Int.reduceEq, not_false_eq_true, and_self, and_true, true_and, sz5, sz3, Option.getD_some, isNil, load5, load3, mk40_0, mk40_1, mk56_0, mk56_1, rowsB_len, rowsI_len, evCall, List.size_toArray, List.append_nil, List.nil_append, List.map_cons, List.map_nil, argAV, argCell, List.toList_toArray, fieldTy]; rfl) (fun h => by first | rfl | (simp at h; done)) ?_
          | refine ops_yes rfl rfl (by simp only [Ev.get, reduceIte, Nat.reduceEqDiff, sz5, sz3, Option.getD_some, isNil, load5, load3, mk40_0, mk40_1, mk56_0, mk56_1, rowsB_len, rowsI_len]; first | done | rfl) rfl (by decide) (by simp only [evOp, opd, constAV, constCell, Ev.get, reduceIte, Nat.reduceEqDiff, reduceCtorEq, evBinN, nilCmp, evBin, evInt, evUn, evConvert, evBuiltin, evLen, evField, evPart, tStr, tInt, tElem, tArr, tBool, tAgg, tField, Try.underlying3, Try.underlying4, Try.underlying5, Try.underlying9, Try.underlying26, Try.underlying29, Try.underlying34, Try.underlying40, Try.underlying45, Try.underlying56, Try.underlying134, List.zipWith, Option.map_some, Option.map_none, List.length_cons, List.length_nil, ne_eq, Int.reduceEq, not_false_eq_true, and_self, and_true, true_and, sz5, sz3, Option.getD_some, isNil, load5, load3, mk40_0, mk40_1, mk56_0, mk56_1, rowsB_len, rowsI_len, evCall, List.size_toArray, List.append_nil, List.nil_append, List.map_cons, List.map_nil, argAV, argCell, List.toList_toArray, fieldTy]; rfl) (fun h => by first | rfl | (simp at h; done)) ?_
          | refine ops_no rfl rfl (by simp only [Ev.get, reduceIte, Nat.reduceEqDiff, sz5, sz3, Option.getD_some, isNil, load5, load3, mk40_0, mk40_1, mk56_0, mk56_1, rowsB_len, rowsI_len]; first | done | rfl) (by decide) rfl (by decide) ?_
          | refine ops_off rfl rfl rfl rfl (by decide) ?_
          | (refine ops_nil ?_; intro e2 h2; simp only [restr, kp34, List.map_cons, List.map_nil, Ev.get, reduceIte, Nat.reduceEqDiff] at h2; subst h2))
        refine runs_cond rfl (fun hc => ?_) (fun hc => ?_)
        · have hne : l1 ≠ l2 := by
            rintro rfl
            simp at hc
          repeat (first
            | refine runs_seq ?_ | refine runs_block ?_ | refine next_normal ?_ | refine inside_normal ?_ | refine next_exit ?_ | refine inside_exit ?_ | refine inside_other (by decide) ?_ | refine next_ret ?_ | refine inside_ret ?_
            | refine runs_ops_kept ?_ | refine runs_skip ?_ | refine runs_exit ?_ | refine runs_ret ?_
            | refine ops_op rfl rfl (by decide) (by simp only [evOp, opd, constAV, constCell, Ev.get, reduceIte, Nat.reduceEqDiff, reduceCtorEq, evBinN, nilCmp, evBin, evInt, evUn, evConvert, evBuiltin, evLen, evField, evPart, tStr, tInt, tElem, tArr, tBool, tAgg, tField, Try.underlying3, Try.underlying4, Try.underlying5, Try.underlying9, Try.underlying26, Try.underlying29, Try.underlying34, Try.underlying40, Try.underlying45, Try.underlying56, Try.underlying134, List.zipWith, Option.map_some, Option.map_none, List.length_cons, List.length_nil, ne_eq, Int.reduceEq, not_false_eq_true, and_self, and_true, true_and, sz5, sz3, Option.getD_some, isNil, load5, load3, mk40_0, mk40_1, mk56_0, mk56_1, rowsB_len, rowsI_len, evCall, List.size_toArray, List.append_nil, List.nil_append, List.map_cons, List.map_nil, argAV, argCell, List.toList_toArray, fieldTy]; rfl) (fun h => by first | rfl | (simp at h; done)) ?_
            | refine ops_yes rfl rfl (by simp only [Ev.get, reduceIte, Nat.reduceEqDiff, sz5, sz3, Option.getD_some, isNil, load5, load3, mk40_0, mk40_1, mk56_0, mk56_1, rowsB_len, rowsI_len]; first | done | rfl) rfl (by decide) (by simp only [evOp, opd, constAV, constCell, Ev.get, reduceIte, Nat.reduceEqDiff, reduceCtorEq, evBinN, nilCmp, evBin, evInt, evUn, evConvert, evBuiltin, evLen, evField, evPart, tStr, tInt, tElem, tArr, tBool, tAgg, tField, Try.underlying3, Try.underlying4, Try.underlying5, Try.underlying9, Try.underlying26, Try.underlying29, Try.underlying34, Try.underlying40, Try.underlying45, Try.underlying56, Try.underlying134, List.zipWith, Option.map_some, Option.map_none, List.length_cons, List.length_nil, ne_eq, Int.reduceEq, not_false_eq_true, and_self, and_true, true_and, sz5, sz3, Option.getD_some, isNil, load5, load3, mk40_0, mk40_1, mk56_0, mk56_1, rowsB_len, rowsI_len, evCall, List.size_toArray, List.append_nil, List.nil_append, List.map_cons, List.map_nil, argAV, argCell, List.toList_toArray, fieldTy]; rfl) (fun h => by first | rfl | (simp at h; done)) ?_
            | refine ops_no rfl rfl (by simp only [Ev.get, reduceIte, Nat.reduceEqDiff, sz5, sz3, Option.getD_some, isNil, load5, load3, mk40_0, mk40_1, mk56_0, mk56_1, rowsB_len, rowsI_len]; first | done | rfl) (by decide) rfl (by decide) ?_
            | refine ops_off rfl rfl rfl rfl (by decide) ?_
            | (refine ops_nil ?_; intro e2 h2; simp only [restr, kp34, List.map_cons, List.map_nil, Ev.get, reduceIte, Nat.reduceEqDiff] at h2; subst h2))
          exact leaves_v rfl (by rw [decide_eq_false hne]; rfl)
        · have hlen : l1.length = l2.length := by
            have : ((l1.length : Int) != (l2.length : Int)) = false := hc
            simp at this
            omega
          repeat (first
            | refine runs_seq ?_ | refine runs_block ?_ | refine next_normal ?_ | refine inside_normal ?_ | refine next_exit ?_ | refine inside_exit ?_ | refine inside_other (by decide) ?_ | refine next_ret ?_ | refine inside_ret ?_
            | refine runs_ops_kept ?_ | refine runs_skip ?_ | refine runs_exit ?_ | refine runs_ret ?_
            | refine ops_op rfl rfl (by decide) (by simp only [evOp, opd, constAV, constCell, Ev.get, reduceIte, Nat.reduceEqDiff, reduceCtorEq, evBinN, nilCmp, evBin, evInt, evUn, evConvert, evBuiltin, evLen, evField, evPart, tStr, tInt, tElem, tArr, tBool, tAgg, tField, Try.underlying3, Try.underlying4, Try.underlying5, Try.underlying9, Try.underlying26, Try.underlying29, Try.underlying34, Try.underlying40, Try.underlying45, Try.underlying56, Try.underlying134, List.zipWith, Option.map_some, Option.map_none, List.length_cons, List.length_nil, ne_eq, Int.reduceEq, not_false_eq_true, and_self, and_true, true_and, sz5, sz3, Option.getD_some, isNil, load5, load3, mk40_0, mk40_1, mk56_0, mk56_1, rowsB_len, rowsI_len, evCall, List.size_toArray, List.append_nil, List.nil_append, List.map_cons, List.map_nil, argAV, argCell, List.toList_toArray, fieldTy]; rfl) (fun h => by first | rfl | (simp at h; done)) ?_
            | refine ops_yes rfl rfl (by simp only [Ev.get, reduceIte, Nat.reduceEqDiff, sz5, sz3, Option.getD_some, isNil, load5, load3, mk40_0, mk40_1, mk56_0, mk56_1, rowsB_len, rowsI_len]; first | done | rfl) rfl (by decide) (by simp only [evOp, opd, constAV, constCell, Ev.get, reduceIte, Nat.reduceEqDiff, reduceCtorEq, evBinN, nilCmp, evBin, evInt, evUn, evConvert, evBuiltin, evLen, evField, evPart, tStr, tInt, tElem, tArr, tBool, tAgg, tField, Try.underlying3, Try.underlying4, Try.underlying5, Try.underlying9, Try.underlying26, Try.underlying29, Try.underlying34, Try.underlying40, Try.underlying45, Try.underlying56, Try.underlying134, List.zipWith, Option.map_some, Option.map_none, List.length_cons, List.length_nil, ne_eq, Int.reduceEq, not_false_eq_true, and_self, and_true, true_and, sz5, sz3, Option.getD_some, isNil, load5, load3, mk40_0, mk40_1, mk56_0, mk56_1, rowsB_len, rowsI_len, evCall, List.size_toArray, List.append_nil, List.nil_append, List.map_cons, List.map_nil, argAV, argCell, List.toList_toArray, fieldTy]; rfl) (fun h => by first | rfl | (simp at h; done)) ?_
            | refine ops_no rfl rfl (by simp only [Ev.get, reduceIte, Nat.reduceEqDiff, sz5, sz3, Option.getD_some, isNil, load5, load3, mk40_0, mk40_1, mk56_0, mk56_1, rowsB_len, rowsI_len]; first | done | rfl) (by decide) rfl (by decide) ?_
            | refine ops_off rfl rfl rfl rfl (by decide) ?_
            | (refine ops_nil ?_; intro e2 h2; simp only [restr, kp34, List.map_cons, List.map_nil, Ev.get, reduceIte, Nat.reduceEqDiff] at h2; subst h2))
          refine runs_loop (fun k e m' => ∃ (i : Nat) (x10 x14 x25 : AV), i ≤ l1.length ∧ (∀ j, j < i → l1.getD j 0 = l2.getD j 0) ∧ m' = m ∧ k = l1.length - i ∧
            e = [(0, AV.lst g1 1 (rowsB l1)), (1, .lst g2 1 (rowsB l2)), (4, .v (.bool false)), (5, .v (.int .i64 (i : Int))), (10, x10), (14, x14), (25, x25)]) (k := l1.length) ⟨0, _, _, _, Nat.zero_le _, fun j hj => absurd hj (Nat.not_lt_zero _), rfl, rfl, rfl⟩ ?_
          rintro k e m' ⟨i, x10, x14, x25, hi, heq, rfl, rfl, rfl⟩
          repeat (first
            | refine runs_seq ?_ | refine runs_block ?_ | refine next_normal ?_ | refine inside_normal ?_ | refine next_exit ?_ | refine inside_exit ?_ | refine inside_other (by decide) ?_ | refine next_ret ?_ | refine inside_ret ?_
            | refine runs_ops_kept ?_ | refine runs_skip ?_ | refine runs_exit ?_ | refine runs_ret ?_
            | refine ops_op rfl rfl (by decide) (by simp only [evOp, opd, constAV, constCell, Ev.get, reduceIte, Nat.reduceEqDiff, reduceCtorEq, evBinN, nilCmp, evBin, evInt, evUn, evConvert, evBuiltin, evLen, evField, evPart, tStr, tInt, tElem, tArr, tBool, tAgg, tField, Try.underlying3, Try.underlying4, Try.underlying5, Try.underlying9, Try.underlying26, Try.underlying29, Try.underlying34, Try.underlying40, Try.underlying45, Try.underlying56, Try.underlying134, List.zipWith, Option.map_some, Option.map_none, List.length_cons, List.length_nil, ne_eq, Int.reduceEq, not_false_eq_true, and_self, and_true, true_and, sz5, sz3, Option.getD_some, isNil, load5, load3, mk40_0, mk40_1, mk56_0, mk56_1, rowsB_len, rowsI_len, evCall, List.size_toArray, List.append_nil, List.nil_append, List.map_cons, List.map_nil, argAV, argCell, List.toList_toArray, fieldTy]; rfl) (fun h => by first | rfl | (simp at h; done)) ?_
            | refine ops_yes rfl rfl (by simp only [Ev.get, reduceIte, Nat.reduceEqDiff, sz5, sz3, Option.getD_some, isNil, load5, load3, mk40_0, mk40_1, mk56_0, mk56_1, rowsB_len, rowsI_len]; first | done | rfl) rfl (by decide) (by simp only [evOp, opd, constAV, constCell, Ev.get, reduceIte, Nat.reduceEqDiff, reduceCtorEq, evBinN, nilCmp, evBin, evInt, evUn, evConvert, evBuiltin, evLen, evField, evPart, tStr, tInt, tElem, tArr, tBool, tAgg, tField, Try.underlying3, Try.underlying4, Try.underlying5, Try.underlying9, Try.underlying26, Try.underlying29, Try.underlying34, Try.underlying40, Try.underlying45, Try.underlying56, Try.underlying134, List.zipWith, Option.map_some, Option.map_none, List.length_cons, List.length_nil, ne_eq, Int.reduceEq, not_false_eq_true, and_self, and_true, true_and, sz5, sz3, Option.getD_some, isNil, load5, load3, mk40_0, mk40_1, mk56_0, mk56_1, rowsB_len, rowsI_len, evCall, List.size_toArray, List.append_nil, List.nil_append, List.map_cons, List.map_nil, argAV, argCell, List.toList_toArray, fieldTy]; rfl) (fun h => by first | rfl | (simp at h; done)) ?_
            | refine ops_no rfl rfl (by simp only [Ev.get, reduceIte, Nat.reduceEqDiff, sz5, sz3, Option.getD_some, isNil, load5, load3, mk40_0, mk40_1, mk56_0, mk56_1, rowsB_len, rowsI_len]; first | done | rfl) (by decide) rfl (by decide) ?_
            | refine ops_off rfl rfl rfl rfl (by decide) ?_
            | (refine ops_nil ?_; intro e2 h2; simp only [restr, kp34, List.map_cons, List.map_nil, Ev.get, reduceIte, Nat.reduceEqDiff] at h2; subst h2))
          refine runs_cond rfl (fun hc => ?_) (fun hc => ?_)
          · have hi1 : i < l1.length := by have := of_decide_eq_true hc; omega
            repeat (first
              | refine runs_seq ?_ | refine runs_block ?_ | refine next_normal ?_ | refine inside_normal ?_ | refine next_exit ?_ | refine inside_exit ?_ | refine inside_other (by decide) ?_ | refine next_ret ?_ | refine inside_ret ?_
              | refine runs_ops_kept ?_ | refine runs_skip ?_ | refine runs_exit ?_ | refine runs_ret ?_
              | refine ops_op rfl rfl (by decide) (by simp only [evOp, opd, constAV, constCell, Ev.get, reduceIte, Nat.reduceEqDiff, reduceCtorEq, evBinN, nilCmp, evBin, evInt, evUn, evConvert, evBuiltin, evLen, evField, evPart, tStr, tInt, tElem, tArr, tBool, tAgg, tField, Try.underlying3, Try.underlying4, Try.underlying5, Try.underlying9, Try.underlying26, Try.underlying29, Try.underlying34, Try.underlying40, Try.underlying45, Try.underlying56, Try.underlying134, List.zipWith, Option.map_some, Option.map_none, List.length_cons, List.length_nil, ne_eq, Int.reduceEq, not_false_eq_true, and_self, and_true, true_and, sz5, sz3, Option.getD_some, isNil, load5, load3, mk40_0, mk40_1, mk56_0, mk56_1, rowsB_len, rowsI_len, evCall, List.size_toArray, List.append_nil, List.nil_append, List.map_cons, List.map_nil, argAV, argCell, List.toList_toArray, fieldTy]; rfl) (fun h => by first | rfl | (simp at h; done)) ?_
              | refine ops_yes rfl rfl (by simp only [Ev.get, reduceIte, Nat.reduceEqDiff, sz5, sz3, Option.getD_some, isNil, load5, load3, mk40_0, mk40_1, mk56_0, mk56_1, rowsB_len, rowsI_len]; first | done | rfl) rfl (by decide) (by simp only [evOp, opd, constAV, constCell, Ev.get, reduceIte, Nat.reduceEqDiff, reduceCtorEq, evBinN, nilCmp, evBin, evInt, evUn, evConvert, evBuiltin, evLen, evField, evPart, tStr, tInt, tElem, tArr, tBool, tAgg, tField, Try.underlying3, Try.underlying4, Try.underlying5, Try.underlying9, Try.underlying26, Try.underlying29, Try.underlying34, Try.underlying40, Try.underlying45, Try.underlying56, Try.underlying134, List.zipWith, Option.map_some, Option.map_none, List.length_cons, List.length_nil, ne_eq, Int.reduceEq, not_false_eq_true, and_self, and_true, true_and, sz5, sz3, Option.getD_some, isNil, load5, load3, mk40_0, mk40_1, mk56_0, mk56_1, rowsB_len, rowsI_len, evCall, List.size_toArray, List.append_nil, List.nil_append, List.map_cons, List.map_nil, argAV, argCell, List.toList_toArray, fieldTy]; rfl) (fun h => by first | rfl | (simp at h; done)) ?_
              | refine ops_no rfl rfl (by simp only [Ev.get, reduceIte, Nat.reduceEqDiff, sz5, sz3, Option.getD_some, isNil, load5, load3, mk40_0, mk40_1, mk56_0, mk56_1, rowsB_len, rowsI_len]; first | done | rfl) (by decide) rfl (by decide) ?_
              | refine ops_off rfl rfl rfl rfl (by decide) ?_
              | (refine ops_nil ?_; intro e2 h2; simp only [restr, kp34, List.map_cons, List.map_nil, Ev.get, reduceIte, Nat.reduceEqDiff] at h2; subst h2))
            have f1 := at40 (g := g1) (kk := .i64) hi1
            have f2 := at40 (g := g2) (kk := .i64) (hlen ▸ hi1 : i < l2.length)
            refine runs_ops_drawn_kept (by kernel_rfl) ?_
            repeat (first
              | refine runs_seq ?_ | refine runs_block ?_ | refine next_normal ?_ | refine inside_normal ?_ | refine next_exit ?_ | refine inside_exit ?_ | refine inside_other (by decide) ?_ | refine next_ret ?_ | refine inside_ret ?_
              | refine runs_ops_kept ?_ | refine runs_skip ?_ | refine runs_exit ?_ | refine runs_ret ?_
              | refine ops_op rfl rfl (by decide) (by simp only [evOp, opd, constAV, constCell, Ev.get, reduceIte, Nat.reduceEqDiff, reduceCtorEq, evBinN, nilCmp, evBin, evInt, evUn, evConvert, evBuiltin, evLen, evField, evPart, tStr, tInt, tElem, tArr, tBool, tAgg, tField, Try.underlying3, Try.underlying4, Try.underlying5, Try.underlying9, Try.underlying26, Try.underlying29, Try.underlying34, Try.underlying40, Try.underlying45, Try.underlying56, Try.underlying134, List.zipWith, Option.map_some, Option.map_none, List.length_cons, List.length_nil, ne_eq, Int.reduceEq, not_false_eq_true, and_self, and_true, true_and, sz5, sz3, Option.getD_some, isNil, load5, load3, mk40_0, mk40_1, mk56_0, mk56_1, rowsB_len, rowsI_len, evCall, List.size_toArray, List.append_nil, List.nil_append, List.map_cons, List.map_nil, argAV, argCell, List.toList_toArray, fieldTy, f1, f2]; rfl) (fun h => by first | rfl | (simp at h; done)) ?_
              | refine ops_yes rfl rfl (by simp only [Ev.get, reduceIte, Nat.reduceEqDiff, sz5, sz3, Option.getD_some, isNil, load5, load3, mk40_0, mk40_1, mk56_0, mk56_1, rowsB_len, rowsI_len, f1, f2]; first | done | rfl) rfl (by decide) (by simp only [evOp, opd, constAV, constCell, Ev.get, reduceIte, Nat.reduceEqDiff, reduceCtorEq, evBinN, nilCmp, evBin, evInt, evUn, evConvert, evBuiltin, evLen, evField, evPart, tStr, tInt, tElem, tArr, tBool, tAgg, tField, Try.underlying3, Try.underlying4, Try.underlying5, Try.underlying9, Try.underlying26, Try.underlying29, Try.underlying34, Try.underlying40, Try.underlying45, Try.underlying56, Try.underlying134, List.zipWith, Option.map_some, Option.map_none, List.length_cons, List.length_nil, ne_eq, Int.reduceEq, not_false_eq_true, and_self, and_true, true_and, sz5, sz3, Option.getD_some, isNil, load5, load3, mk40_0, mk40_1, mk56_0, mk56_1, rowsB_len, rowsI_len, evCall, List.size_toArray, List.append_nil, List.nil_append, List.map_cons, List.map_nil, argAV, argCell, List.toList_toArray, fieldTy, f1, f2]; rfl) (fun h => by first | rfl | (simp at h; done)) ?_
              | refine ops_no rfl rfl (by simp only [Ev.get, reduceIte, Nat.reduceEqDiff, sz5, sz3, Option.getD_some, isNil, load5, load3, mk40_0, mk40_1, mk56_0, mk56_1, rowsB_len, rowsI_len, f1, f2]; first | done | rfl) (by decide) rfl (by decide) ?_
              | refine ops_off rfl rfl rfl rfl (by decide) ?_
              | (refine ops_nil ?_; intro e2 h2; simp only [restr, kp34, List.map_cons, List.map_nil, Ev.get, reduceIte, Nat.reduceEqDiff] at h2; subst h2))
            refine runs_cond rfl (fun hc => ?_) (fun hc => ?_)
            · have hne : l1 ≠ l2 := by
                rintro rfl
                simp at hc
              repeat (first
                | refine runs_seq ?_ | refine runs_block ?_ | refine next_normal ?_ | refine inside_normal ?_ | refine next_exit ?_ | refine inside_exit ?_ | refine inside_other (by decide) ?_ | refine next_ret ?_ | refine inside_ret ?_
                | refine runs_ops_kept ?_ | refine runs_skip ?_ | refine runs_exit ?_ | refine runs_ret ?_
                | refine ops_op rfl rfl (by decide) (by simp only [evOp, opd, constAV, constCell, Ev.get, reduceIte, Nat.reduceEqDiff, reduceCtorEq, evBinN, nilCmp, evBin, evInt, evUn, evConvert, evBuiltin, evLen, evField, evPart, tStr, tInt, tElem, tArr, tBool, tAgg, tField, Try.underlying3, Try.underlying4, Try.underlying5, Try.underlying9, Try.underlying26, Try.underlying29, Try.underlying34, Try.underlying40, Try.underlying45, Try.underlying56, Try.underlying134, List.zipWith, Option.map_some, Option.map_none, List.length_cons, List.length_nil, ne_eq, Int.reduceEq, not_false_eq_true, and_self, and_true, true_and, sz5, sz3, Option.getD_some, isNil, load5, load3, mk40_0, mk40_1, mk56_0, mk56_1, rowsB_len, rowsI_len, evCall, List.size_toArray, List.append_nil, List.nil_append, List.map_cons, List.map_nil, argAV, argCell, List.toList_toArray, fieldTy]; rfl) (fun h => by first | rfl | (simp at h; done)) ?_
                | refine ops_yes rfl rfl (by simp only [Ev.get, reduceIte, Nat.reduceEqDiff, sz5, sz3, Option.getD_some, isNil, load5, load3, mk40_0, mk40_1, mk56_0, mk56_1, rowsB_len, rowsI_len]; first | done | rfl) rfl (by decide) (by simp only [evOp, opd, constAV, constCell, Ev.get, reduceIte, Nat.reduceEqDiff, reduceCtorEq, evBinN, nilCmp, evBin, evInt, evUn, evConvert, evBuiltin, evLen, evField, evPart, tStr, tInt, tElem, tArr, tBool, tAgg, tField, Try.underlying3, Try.underlying4, Try.underlying5, Try.underlying9, Try.underlying26, Try.underlying29, Try.underlying34, Try.underlying40, Try.underlying45, Try.underlying56, Try.underlying134, List.zipWith, Option.map_some, Option.map_none, List.length_cons, List.length_nil, ne_eq, Int.reduceEq, not_false_eq_true, and_self, and_true, true_and, sz5, sz3, Option.getD_some, isNil, load5, load3, mk40_0, mk40_1, mk56_0, mk56_1, rowsB_len, rowsI_len, evCall, List.size_toArray, List.append_nil, List.nil_append, List.map_cons, List.map_nil, argAV, argCell, List.toList_toArray, fieldTy]; rfl) (fun h => by first | rfl | (simp at h; done)) ?_
                | refine ops_no rfl rfl (by simp only [Ev.get, reduceIte, Nat.reduceEqDiff, sz5, sz3, Option.getD_some, isNil, load5, load3, mk40_0, mk40_1, mk56_0, mk56_1, rowsB_len, rowsI_len]; first | done | rfl) (by decide) rfl (by decide) ?_
                | refine ops_off rfl rfl rfl rfl (by decide) ?_
                | (refine ops_nil ?_; intro e2 h2; simp only [restr, kp34, List.map_cons, List.map_nil, Ev.get, reduceIte, Nat.reduceEqDiff] at h2; subst h2))
              exact leaves_v rfl (by rw [decide_eq_false hne]; rfl)
            · have he : l1.getD i 0 = l2.getD i 0 := by
                have : (((l1.getD i 0 : Nat) : Int) != ((l2.getD i 0 : Nat) : Int)) = false := hc
                simp only [bne_eq_false_iff_eq] at this
                omega
              have r1 : IntKind.i64.wrap ((i : Int) + 1) = ((i + 1 : Nat) : Int) := i64_wrap (n := ((i + 1 : Nat) : Int)) (by omega) (by omega)
              repeat (first
                | refine runs_seq ?_ | refine runs_block ?_ | refine next_normal ?_ | refine inside_normal ?_ | refine next_exit ?_ | refine inside_exit ?_ | refine inside_other (by decide) ?_ | refine next_ret ?_ | refine inside_ret ?_
                | refine runs_ops_kept ?_ | refine runs_skip ?_ | refine runs_exit ?_ | refine runs_ret ?_
                | refine ops_op rfl rfl (by decide) (by simp only [evOp, opd, constAV, constCell, Ev.get, reduceIte, Nat.reduceEqDiff, reduceCtorEq, evBinN, nilCmp, evBin, evInt, evUn, evConvert, evBuiltin, evLen, evField, evPart, tStr, tInt, tElem, tArr, tBool, tAgg, tField, Try.underlying3, Try.underlying4, Try.underlying5, Try.underlying9, Try.underlying26, Try.underlying29, Try.underlying34, Try.underlying40, Try.underlying45, Try.underlying56, Try.underlying134, List.zipWith, Option.map_some, Option.map_none, List.length_cons, List.length_nil, ne_eq, Int.reduceEq, not_false_eq_true, and_self, and_true, true_and, sz5, sz3, Option.getD_some, isNil, load5, load3, mk40_0, mk40_1, mk56_0, mk56_1, rowsB_len, rowsI_len, evCall, List.size_toArray, List.append_nil, List.nil_append, List.map_cons, List.map_nil, argAV, argCell, List.toList_toArray, fieldTy, r1]; rfl) (fun h => by first | rfl | (simp at h; done)) ?_
                | refine ops_yes rfl rfl (by simp only [Ev.get, reduceIte, Nat.reduceEqDiff, sz5, sz3, Option.getD_some, isNil, load5, load3, mk40_0, mk40_1, mk56_0, mk56_1, rowsB_len, rowsI_len, r1]; first | done | rfl) rfl (by decide) (by simp only [evOp, opd, constAV, constCell, Ev.get, reduceIte, Nat.reduceEqDiff, reduceCtorEq, evBinN, nilCmp, evBin, evInt, evUn, evConvert, evBuiltin, evLen, evField, evPart, tStr, tInt, tElem, tArr, tBool, tAgg, tField, Try.underlying3, Try.underlying4, Try.underlying5, Try.underlying9, Try.underlying26, Try.underlying29, Try.underlying34, Try.underlying40, Try.underlying45, Try.underlying56, Try.underlying134, List.zipWith, Option.map_some, Option.map_none, List.length_cons, List.length_nil, ne_eq, Int.reduceEq, not_false_eq_true, and_self, and_true, true_and, sz5, sz3, Option.getD_some, isNil, load5, load3, mk40_0, mk40_1, mk56_0, mk56_1, rowsB_len, rowsI_len, evCall, List.size_toArray, List.append_nil, List.nil_append, List.map_cons, List.map_nil, argAV, argCell, List.toList_toArray, fieldTy, r1]; rfl) (fun h => by first | rfl | (simp at h; done)) ?_
                | refine ops_no rfl rfl (by simp only [Ev.get, reduceIte, Nat.reduceEqDiff, sz5, sz3, Option.getD_some, isNil, load5, load3, mk40_0, mk40_1, mk56_0, mk56_1, rowsB_len, rowsI_len, r1]; first | done | rfl) (by decide) rfl (by decide) ?_
                | refine ops_off rfl rfl rfl rfl (by decide) ?_
                | (refine ops_nil ?_; intro e2 h2; simp only [restr, kp34, List.map_cons, List.map_nil, Ev.get, reduceIte, Nat.reduceEqDiff] at h2; subst h2))
              exact ⟨l1.length - (i + 1), by omega, i + 1, _, _, _, hi1, fun j hj => by
                rcases Nat.lt_succ_iff_lt_or_eq.1 hj with hj | rfl
                · exact heq j hj
                · exact he, rfl, rfl, rfl⟩
          · have hi1 : i = l1.length := by have := of_decide_eq_false hc; omega
            have he : l1 = l2 := getD_ext hlen (by rw [← hi1]; exact heq)
            repeat (first
              | refine runs_seq ?_ | refine runs_block ?_ | refine next_normal ?_ | refine inside_normal ?_ | refine next_exit ?_ | refine inside_exit ?_ | refine inside_other (by decide) ?_ | refine next_ret ?_ | refine inside_ret ?_
              | refine runs_ops_kept ?_ | refine runs_skip ?_ | refine runs_exit ?_ | refine runs_ret ?_
              | refine ops_op rfl rfl (by decide) (by simp only [evOp, opd, constAV, constCell, Ev.get, reduceIte, Nat.reduceEqDiff, reduceCtorEq, evBinN, nilCmp, evBin, evInt, evUn, evConvert, evBuiltin, evLen, evField, evPart, tStr, tInt, tElem, tArr, tBool, tAgg, tField, Try.underlying3, Try.underlying4, Try.underlying5, Try.underlying9, Try.underlying26, Try.underlying29, Try.underlying34, Try.underlying40, Try.underlying45, Try.underlying56, Try.underlying134, List.zipWith, Option.map_some, Option.map_none, List.length_cons, List.length_nil, ne_eq, Int.reduceEq, not_false_eq_true, and_self, and_true, true_and, sz5, sz3, Option.getD_some, isNil, load5, load3, mk40_0, mk40_1, mk56_0, mk56_1, rowsB_len, rowsI_len, evCall, List.size_toArray, List.append_nil, List.nil_append, List.map_cons, List.map_nil, argAV, argCell, List.toList_toArray, fieldTy]; rfl) (fun h => by first | rfl | (simp at h; done)) ?_
              | refine ops_yes rfl rfl (by simp only [Ev.get, reduceIte, Nat.reduceEqDiff, sz5, sz3, Option.getD_some, isNil, load5, load3, mk40_0, mk40_1, mk56_0, mk56_1, rowsB_len, rowsI_len]; first | done | rfl) rfl (by decide) (by simp only [evOp, opd, constAV, constCell, Ev.get, reduceIte, Nat.reduceEqDiff, reduceCtorEq, evBinN, nilCmp, evBin, evInt, evUn, evConvert, evBuiltin, evLen, evField, evPart, tStr, tInt, tElem, tArr, tBool, tAgg, tField, Try.underlying3, Try.underlying4, Try.underlying5, Try.underlying9, Try.underlying26, Try.underlying29, Try.underlying34, Try.underlying40, Try.underlying45, Try.underlying56, Try.underlying134, List.zipWith, Option.map_some, Option.map_none, List.length_cons, List.length_nil, ne_eq, Int.reduceEq, not_false_eq_true, and_self, and_true, true_and, sz5, sz3, Option.getD_some, isNil, load5, load3, mk40_0, mk40_1, mk56_0, mk56_1, rowsB_len, rowsI_len, evCall, List.size_toArray, List.append_nil, List.nil_append, List.map_cons, List.map_nil, argAV, argCell, List.toList_toArray, fieldTy]; rfl) (fun h => by first | rfl | (simp at h; done)) ?_
              | refine ops_no rfl rfl (by simp only [Ev.get, reduceIte, Nat.reduceEqDiff, sz5, sz3, Option.getD_some, isNil, load5, load3, mk40_0, mk40_1, mk56_0, mk56_1, rowsB_len, rowsI_len]; first | done | rfl) (by decide) rfl (by decide) ?_
              | refine ops_off rfl rfl rfl rfl (by decide) ?_
              | (refine ops_nil ?_; intro e2 h2; simp only [restr, kp34, List.map_cons, List.map_nil, Ev.get, reduceIte, Nat.reduceEqDiff] at h2; subst h2))
            exact leaves_v rfl (by rw [decide_eq_true he]; rfl)
      · cases h
    · cases h
  · cases h
end Go.Proofs.Ytbehhlbcffbkoaa.Ev
