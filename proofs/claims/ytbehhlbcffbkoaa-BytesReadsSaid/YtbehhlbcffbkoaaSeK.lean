/- Bytes: copies of lists; folded numbers. -/
import Derived.Test.YtbehhlbcffbkoaaSeE
import Derived.Test.YtbehhlbcffbkoaaEv23
namespace Go.Proofs.Ytbehhlbcffbkoaa.Ev
open Go Go.Proofs
set_option maxRecDepth 10000
set_option linter.unusedVariables false
set_option linter.unusedSimpArgs false
attribute [local irreducible] Next Inside Runs Ops table
theorem sz3 : tSize Try.prog 3 = some 1 := by kernel_rfl
theorem sz5 : tSize Try.prog 5 = some 1 := by kernel_rfl
theorem el40 : tElem Try.prog 40 = some 5 := by simp only [tElem, Try.underlying40]
theorem na40 : tArr Try.prog 40 = none := by simp only [tArr, Try.underlying40]
theorem el56 : tElem Try.prog 56 = some 3 := by simp only [tElem, Try.underlying56]
theorem na56 : tArr Try.prog 56 = none := by simp only [tArr, Try.underlying56]
theorem app40 : appB Try.prog 40 40 1 = true := by kernel_rfl
theorem app56 : appB Try.prog 56 56 1 = true := by kernel_rfl
theorem load5 {m : Mem} {c : AV} {cs : List AV} : evLoad Try.prog m 5 (.eptr (c :: cs)) = some c := load_one (by simp only [tAgg, Try.underlying5]) sz5
theorem load3 {m : Mem} {c : AV} {cs : List AV} : evLoad Try.prog m 3 (.eptr (c :: cs)) = some c := load_one (by simp only [tAgg, Try.underlying3]) sz3
theorem mk40_0 : evBuildSlice Try.prog 40 0 [] = some (.lst .full 1 []) := build_nil app40
theorem mk40_1 {b : Int} : evBuildSlice Try.prog 40 1 [(0, .v (.int .u8 b))] = some (.lst .full 1 [[.v (.int .u8 b)]]) := build_one app40 (by decide) rfl rfl
theorem mk56_0 : evBuildSlice Try.prog 56 0 [] = some (.lst .full 1 []) := build_nil app56
theorem mk56_1 {b : Int} : evBuildSlice Try.prog 56 1 [(0, .v (.int .i64 b))] = some (.lst .full 1 [[.v (.int .i64 b)]]) := build_one app56 (by decide) rfl rfl
/-! ### a copy -/
def kp73 : Nat → Option (List Nat) := fun _ => some [0, 2, 4]
theorem clone73_nil : FunOk Try.prog 73 (cloneNil 1) := by
  have hC := table_ok (P := Try.prog) (l := []) (by simp)
  refine fun_ok mixed hC Try.func73 rfl kp73 true rfl fun args m r h => ?_
  unfold cloneNil at h
  split at h
  · simp only [Option.some.injEq] at h
    subst h
    refine ⟨Nat.le_of_ble_eq_true rfl, ?_⟩
    simp only [entry, List.length_cons, List.length_nil, List.range, List.range.loop, List.zip_cons_cons, List.zip_nil_right]
    repeat (first
      | refine runs_seq ?_ | refine runs_block ?_ | refine next_normal ?_ | refine inside_normal ?_ | refine next_exit ?_ | refine inside_exit ?_ | refine inside_other (by decide) ?_ | refine next_ret ?_ | refine inside_ret ?_
      | refine runs_ops_kept ?_ | refine runs_skip ?_ | refine runs_exit ?_ | refine runs_ret ?_
      | refine ops_op rfl rfl (by decide) (by simp only [evOp, opd, constAV, constCell, Ev.get, reduceIte, Nat.reduceEqDiff, reduceCtorEq, evBinN, nilCmp, evBin, evInt, evUn, evConvert, evBuiltin, evLen, evField, evPart, tStr, tInt, tElem, tArr, tBool, tAgg, tField, Try.underlying3, Try.underlying4, Try.underlying5, Try.underlying9, Try.underlying26, Try.underlying29, Try.underlying34, Try.underlying40, Try.underlying45, Try.underlying56, Try.underlying134, List.zipWith, Option.map_some, Option.map_none, List.length_cons, List.length_nil, ne_eq, Int.reduceEq, not_false_eq_true, and_self, and_true, true_and, sz5, sz3, Option.getD_some, isNil, load5, load3, mk40_0, mk40_1, mk56_0, mk56_1, rowsB_len, rowsI_len, evCall, List.size_toArray, List.append_nil, List.nil_append, List.map_cons, List.map_nil, argAV, argCell, List.toList_toArray, fieldTy]; rfl) (fun h => by first | rfl | (simp at h; done)) ?_
      | refine ops_yes rfl rfl (by simp only [Ev.get, reduceIte, Nat.reduceEqDiff, sz5, sz3, Option.getD_some, isNil, load5, load3, mk40_0, mk40_1, mk56_0, mk56_1, rowsB_len, rowsI_len]; first | done | rfl) rfl (by decide) (by simp only [evOp, opd, constAV, constCell, Ev.get, reduceIte, Nat.reduceEqDiff, reduceCtorEq, evBinN, nilCmp, evBin, evInt, evUn, evConvert, evBuiltin, evLen, evField, evPart, tStr, tInt, tElem, tArr, tBool, tAgg, tField, Try.underlying3, Try.underlying4, Try.underlying5, Try.underlying9, Try.underlying26, Try.underlying29, Try.underlying34, Try.underlying40, Try.underlying45, Try.underlying56, Try.underlying134, List.zipWith, Option.map_some, Option.map_none, List.length_cons, List.length_nil, ne_eq, Int.reduceEq, not_false_eq_true, and_self, and_true, true_and, sz5, sz3, Option.getD_some, isNil, load5, load3, mk40_0, mk40_1, mk56_0, mk56_1, rowsB_len, rowsI_len, evCall, List.size_toArray, List.append_nil, List.nil_append, List.map_cons, List.map_nil, argAV, argCell, List.toList_toArray, fieldTy]; rfl) (fun h => by first | rfl | (simp at h; done)) ?_
      | refine ops_no rfl rfl (by simp only [Ev.get, reduceIte, Nat.reduceEqDiff, sz5, sz3, Option.getD_some, isNil, load5, load3, mk40_0, mk40_1, mk56_0, mk56_1, rowsB_len, rowsI_len]; first | done | rfl) (by decide) rfl (by decide) ?_
      | (refine ops_nil ?_; intro e2 h2; simp only [restr, kp73, List.map_cons, List.map_nil, Ev.get, reduceIte, Nat.reduceEqDiff] at h2; subst h2))
    refine runs_cond rfl (fun hc => ?_) (fun hc => by cases hc)
    repeat (first
      | refine runs_seq ?_ | refine runs_block ?_ | refine next_normal ?_ | refine inside_normal ?_ | refine next_exit ?_ | refine inside_exit ?_ | refine inside_other (by decide) ?_ | refine next_ret ?_ | refine inside_ret ?_
      | refine runs_ops_kept ?_ | refine runs_skip ?_ | refine runs_exit ?_ | refine runs_ret ?_
      | refine ops_op rfl rfl (by decide) (by simp only [evOp, opd, constAV, constCell, Ev.get, reduceIte, Nat.reduceEqDiff, reduceCtorEq, evBinN, nilCmp, evBin, evInt, evUn, evConvert, evBuiltin, evLen, evField, evPart, tStr, tInt, tElem, tArr, tBool, tAgg, tField, Try.underlying3, Try.underlying4, Try.underlying5, Try.underlying9, Try.underlying26, Try.underlying29, Try.underlying34, Try.underlying40, Try.underlying45, Try.underlying56, Try.underlying134, List.zipWith, Option.map_some, Option.map_none, List.length_cons, List.length_nil, ne_eq, Int.reduceEq, not_false_eq_true, and_self, and_true, true_and, sz5, sz3, Option.getD_some, isNil, load5, load3, mk40_0, mk40_1, mk56_0, mk56_1, rowsB_len, rowsI_len, evCall, List.size_toArray, List.append_nil, List.nil_append, List.map_cons, List.map_nil, argAV, argCell, List.toList_toArray, fieldTy]; rfl) (fun h => by first | rfl | (simp at h; done)) ?_
      | refine ops_yes rfl rfl (by simp only [Ev.get, reduceIte, Nat.reduceEqDiff, sz5, sz3, Option.getD_some, isNil, load5, load3, mk40_0, mk40_1, mk56_0, mk56_1, rowsB_len, rowsI_len]; first | done | rfl) rfl (by decide) (by simp only [evOp, opd, constAV, constCell, Ev.get, reduceIte, Nat.reduceEqDiff, reduceCtorEq, evBinN, nilCmp, evBin, evInt, evUn, evConvert, evBuiltin, evLen, evField, evPart, tStr, tInt, tElem, tArr, tBool, tAgg, tField, Try.underlying3, Try.underlying4, Try.underlying5, Try.underlying9, Try.underlying26, Try.underlying29, Try.underlying34, Try.underlying40, Try.underlying45, Try.underlying56, Try.underlying134, List.zipWith, Option.map_some, Option.map_none, List.length_cons, List.length_nil, ne_eq, Int.reduceEq, not_false_eq_true, and_self, and_true, true_and, sz5, sz3, Option.getD_some, isNil, load5, load3, mk40_0, mk40_1, mk56_0, mk56_1, rowsB_len, rowsI_len, evCall, List.size_toArray, List.append_nil, List.nil_append, List.map_cons, List.map_nil, argAV, argCell, List.toList_toArray, fieldTy]; rfl) (fun h => by first | rfl | (simp at h; done)) ?_
      | refine ops_no rfl rfl (by simp only [Ev.get, reduceIte, Nat.reduceEqDiff, sz5, sz3, Option.getD_some, isNil, load5, load3, mk40_0, mk40_1, mk56_0, mk56_1, rowsB_len, rowsI_len]; first | done | rfl) (by decide) rfl (by decide) ?_
      | (refine ops_nil ?_; intro e2 h2; simp only [restr, kp73, List.map_cons, List.map_nil, Ev.get, reduceIte, Nat.reduceEqDiff] at h2; subst h2))
    exact leaves_grow_full rfl rfl (finMem_self _)
  · cases h
theorem clone73_here : FunOk Try.prog 73 (cloneHere 1) := by
  have hC := table_ok (P := Try.prog) (l := []) (by simp)
  refine fun_ok mixed hC Try.func73 rfl kp73 true rfl fun args m r h => ?_
  unfold cloneHere at h
  split at h
  · rename_i sz rows
    split at h
    · rename_i hl
      obtain ⟨rfl, hl⟩ := hl
      simp only [Option.some.injEq] at h
      subst h
      refine ⟨Nat.le_of_ble_eq_true rfl, ?_⟩
      simp only [entry, List.length_cons, List.length_nil, List.range, List.range.loop, List.zip_cons_cons, List.zip_nil_right]
      have a1 := app_full (m := m) (xs := []) app40 (asList_lst (g := .here) (k := 1) (rows := rows)) (by simpa using hl)
      rw [List.nil_append] at a1
      repeat (first
        | refine runs_seq ?_ | refine runs_block ?_ | refine next_normal ?_ | refine inside_normal ?_ | refine next_exit ?_ | refine inside_exit ?_ | refine inside_other (by decide) ?_ | refine next_ret ?_ | refine inside_ret ?_
        | refine runs_ops_kept ?_ | refine runs_skip ?_ | refine runs_exit ?_ | refine runs_ret ?_
        | refine ops_op rfl rfl (by decide) (by simp only [evOp, opd, constAV, constCell, Ev.get, reduceIte, Nat.reduceEqDiff, reduceCtorEq, evBinN, nilCmp, evBin, evInt, evUn, evConvert, evBuiltin, evLen, evField, evPart, tStr, tInt, tElem, tArr, tBool, tAgg, tField, Try.underlying3, Try.underlying4, Try.underlying5, Try.underlying9, Try.underlying26, Try.underlying29, Try.underlying34, Try.underlying40, Try.underlying45, Try.underlying56, Try.underlying134, List.zipWith, Option.map_some, Option.map_none, List.length_cons, List.length_nil, ne_eq, Int.reduceEq, not_false_eq_true, and_self, and_true, true_and, sz5, sz3, Option.getD_some, isNil, load5, load3, mk40_0, mk40_1, mk56_0, mk56_1, rowsB_len, rowsI_len, evCall, List.size_toArray, List.append_nil, List.nil_append, List.map_cons, List.map_nil, argAV, argCell, List.toList_toArray, fieldTy]; rfl) (fun h => by first | rfl | (simp at h; done)) ?_
        | refine ops_yes rfl rfl (by simp only [Ev.get, reduceIte, Nat.reduceEqDiff, sz5, sz3, Option.getD_some, isNil, load5, load3, mk40_0, mk40_1, mk56_0, mk56_1, rowsB_len, rowsI_len]; first | done | rfl) rfl (by decide) (by simp only [evOp, opd, constAV, constCell, Ev.get, reduceIte, Nat.reduceEqDiff, reduceCtorEq, evBinN, nilCmp, evBin, evInt, evUn, evConvert, evBuiltin, evLen, evField, evPart, tStr, tInt, tElem, tArr, tBool, tAgg, tField, Try.underlying3, Try.underlying4, Try.underlying5, Try.underlying9, Try.underlying26, Try.underlying29, Try.underlying34, Try.underlying40, Try.underlying45, Try.underlying56, Try.underlying134, List.zipWith, Option.map_some, Option.map_none, List.length_cons, List.length_nil, ne_eq, Int.reduceEq, not_false_eq_true, and_self, and_true, true_and, sz5, sz3, Option.getD_some, isNil, load5, load3, mk40_0, mk40_1, mk56_0, mk56_1, rowsB_len, rowsI_len, evCall, List.size_toArray, List.append_nil, List.nil_append, List.map_cons, List.map_nil, argAV, argCell, List.toList_toArray, fieldTy]; rfl) (fun h => by first | rfl | (simp at h; done)) ?_
        | refine ops_no rfl rfl (by simp only [Ev.get, reduceIte, Nat.reduceEqDiff, sz5, sz3, Option.getD_some, isNil, load5, load3, mk40_0, mk40_1, mk56_0, mk56_1, rowsB_len, rowsI_len]; first | done | rfl) (by decide) rfl (by decide) ?_
        | (refine ops_nil ?_; intro e2 h2; simp only [restr, kp73, List.map_cons, List.map_nil, Ev.get, reduceIte, Nat.reduceEqDiff] at h2; subst h2))
      refine runs_cond rfl (fun hc => by cases hc) (fun hc => ?_)
      repeat (first
        | refine runs_seq ?_ | refine runs_block ?_ | refine next_normal ?_ | refine inside_normal ?_ | refine next_exit ?_ | refine inside_exit ?_ | refine inside_other (by decide) ?_ | refine next_ret ?_ | refine inside_ret ?_
        | refine runs_ops_kept ?_ | refine runs_skip ?_ | refine runs_exit ?_ | refine runs_ret ?_
        | refine ops_op rfl rfl (by decide) (by simp only [evOp, opd, constAV, constCell, Ev.get, reduceIte, Nat.reduceEqDiff, reduceCtorEq, evBinN, nilCmp, evBin, evInt, evUn, evConvert, evBuiltin, evLen, evField, evPart, tStr, tInt, tElem, tArr, tBool, tAgg, tField, Try.underlying3, Try.underlying4, Try.underlying5, Try.underlying9, Try.underlying26, Try.underlying29, Try.underlying34, Try.underlying40, Try.underlying45, Try.underlying56, Try.underlying134, List.zipWith, Option.map_some, Option.map_none, List.length_cons, List.length_nil, ne_eq, Int.reduceEq, not_false_eq_true, and_self, and_true, true_and, sz5, sz3, Option.getD_some, isNil, load5, load3, mk40_0, mk40_1, mk56_0, mk56_1, rowsB_len, rowsI_len, evCall, List.size_toArray, List.append_nil, List.nil_append, List.map_cons, List.map_nil, argAV, argCell, List.toList_toArray, fieldTy, a1]; rfl) (fun h => by first | rfl | (simp at h; done)) ?_
        | refine ops_yes rfl rfl (by simp only [Ev.get, reduceIte, Nat.reduceEqDiff, sz5, sz3, Option.getD_some, isNil, load5, load3, mk40_0, mk40_1, mk56_0, mk56_1, rowsB_len, rowsI_len, a1]; first | done | rfl) rfl (by decide) (by simp only [evOp, opd, constAV, constCell, Ev.get, reduceIte, Nat.reduceEqDiff, reduceCtorEq, evBinN, nilCmp, evBin, evInt, evUn, evConvert, evBuiltin, evLen, evField, evPart, tStr, tInt, tElem, tArr, tBool, tAgg, tField, Try.underlying3, Try.underlying4, Try.underlying5, Try.underlying9, Try.underlying26, Try.underlying29, Try.underlying34, Try.underlying40, Try.underlying45, Try.underlying56, Try.underlying134, List.zipWith, Option.map_some, Option.map_none, List.length_cons, List.length_nil, ne_eq, Int.reduceEq, not_false_eq_true, and_self, and_true, true_and, sz5, sz3, Option.getD_some, isNil, load5, load3, mk40_0, mk40_1, mk56_0, mk56_1, rowsB_len, rowsI_len, evCall, List.size_toArray, List.append_nil, List.nil_append, List.map_cons, List.map_nil, argAV, argCell, List.toList_toArray, fieldTy, a1]; rfl) (fun h => by first | rfl | (simp at h; done)) ?_
        | refine ops_no rfl rfl (by simp only [Ev.get, reduceIte, Nat.reduceEqDiff, sz5, sz3, Option.getD_some, isNil, load5, load3, mk40_0, mk40_1, mk56_0, mk56_1, rowsB_len, rowsI_len, a1]; first | done | rfl) (by decide) rfl (by decide) ?_
        | (refine ops_nil ?_; intro e2 h2; simp only [restr, kp73, List.map_cons, List.map_nil, Ev.get, reduceIte, Nat.reduceEqDiff] at h2; subst h2))
      exact leaves_grow rfl rfl fin_tk (by simp [Mem.tk]) (Nat.le_refl _)
    · cases h
  · cases h
theorem clone73_ok : FunOk Try.prog 73 (cloneG 1) := clone_ok clone73_nil clone73_here
/-! ### folded numbers -/
def foldOf (n : Int) : Nat := if 0 ≤ n then (2 * n).toNat else (-2 * n - 1).toNat
def unfoldOf (u : Nat) : Int := if u % 2 = 0 then ((u / 2 : Nat) : Int) else -((u / 2 : Nat) : Int) - 1
theorem fold_unfold (u : Nat) : foldOf (unfoldOf u) = u := by unfold foldOf unfoldOf; split <;> split <;> omega
theorem unfold_fold (n : Int) : unfoldOf (foldOf n) = n := by unfold foldOf unfoldOf; split <;> split <;> omega
def inI (n : Int) : Prop := -9223372036854775808 ≤ n ∧ n ≤ 9223372036854775807
instance (n : Int) : Decidable (inI n) := by unfold inI; exact inferInstance
theorem foldOf_lt {n : Int} (h : inI n) : foldOf n < 18446744073709551616 := by unfold inI at h; unfold foldOf; split <;> omega
theorem unfoldOf_in {u : Nat} (h : u < 18446744073709551616) : inI (unfoldOf u) := by unfold inI unfoldOf; split <;> omega
theorem u64_wrap_neg {a : Nat} (h : a < 18446744073709551616) : IntKind.u64.wrap (-(a : Int) - 1) = ((18446744073709551615 - a : Nat) : Int) := by
  simp [IntKind.wrap, IntKind.bits, IntKind.signed]
  omega
theorem fold_num {n : Int} (h : inI n) :
    IntKind.u64.wrap (BitVec.ofInt IntKind.u64.bits (IntKind.u64.wrap (IntKind.u64.wrap n * 2 ^ min (1 : Int).toNat IntKind.u64.bits)) ^^^ BitVec.ofInt IntKind.u64.bits (IntKind.u64.wrap (n.fdiv (2 ^ min (63 : Int).toNat IntKind.i64.bits)))).toNat = ((foldOf n : Nat) : Int) := by
  unfold inI at h
  unfold foldOf
  by_cases h0 : 0 ≤ n
  · obtain ⟨a, rfl⟩ := Int.eq_ofNat_of_zero_le h0
    rw [if_pos h0, u64_wrap (n := a) (by omega)]
    have e1 : ((a : Int) * 2 ^ min (1 : Int).toNat IntKind.u64.bits) = ((2 * a : Nat) : Int) := by simp [IntKind.bits]; omega
    have e2 : (a : Int).fdiv (2 ^ min (63 : Int).toNat IntKind.i64.bits) = ((0 : Nat) : Int) := by
      rw [Int.fdiv_eq_ediv_of_nonneg _ (by decide)]
      simp [IntKind.bits]
      omega
    rw [e1, e2, u64_wrap (n := 2 * a) (by omega), u64_wrap (n := 0) (by omega), BitVec.ofInt_natCast, BitVec.ofInt_natCast]
    simp only [BitVec.ofNat_eq_ofNat, BitVec.xor_zero, BitVec.toNat_ofNat]
    rw [Nat.mod_eq_of_lt (by simp [IntKind.bits]; omega), u64_wrap (by omega)]
    omega
  · obtain ⟨a, rfl⟩ : ∃ a : Nat, n = -(a : Int) - 1 := ⟨(-n - 1).toNat, by omega⟩
    rw [if_neg h0, u64_wrap_neg (by omega)]
    have e1 : IntKind.u64.wrap (((18446744073709551615 - a : Nat) : Int) * 2 ^ min (1 : Int).toNat IntKind.u64.bits) = ((18446744073709551614 - 2 * a : Nat) : Int) := by
      simp [IntKind.wrap, IntKind.bits, IntKind.signed]
      omega
    have e2 : (-(a : Int) - 1).fdiv (2 ^ min (63 : Int).toNat IntKind.i64.bits) = -((0 : Nat) : Int) - 1 := by
      rw [Int.fdiv_eq_ediv_of_nonneg _ (by decide)]
      simp [IntKind.bits]
      omega
    rw [e1, e2, u64_wrap_neg (by omega), BitVec.ofInt_natCast, BitVec.ofInt_natCast]
    have e3 : BitVec.ofNat IntKind.u64.bits (18446744073709551615 - 0) = BitVec.allOnes IntKind.u64.bits := by decide
    rw [e3, BitVec.xor_allOnes, BitVec.toNat_not, BitVec.toNat_ofNat]
    have e4 : 2 ^ IntKind.u64.bits = 18446744073709551616 := by decide
    rw [e4, Nat.mod_eq_of_lt (by omega), u64_wrap (by omega)]
    omega
def foldG : List AV → Mem → Option (AV × Mem)
  | [.v (.int .i64 n)], m => if inI n then some (.v (.int .u64 (foldOf n : Nat)), m) else none
  | _, _ => none
theorem fold_eq {n : Int} {m : Mem} (h : inI n) : foldG [.v (.int .i64 n)] m = some (.v (.int .u64 (foldOf n : Nat)), m) := if_pos h
def kp31 : Nat → Option (List Nat) := fun _ => some [0, 2]
theorem fold_ok : FunOk Try.prog 31 foldG := by
  have hC := table_ok (P := Try.prog) (l := []) (by simp)
  refine fun_ok mixed hC Try.func31 rfl kp31 false rfl fun args m r h => ?_
  unfold foldG at h
  split at h
  · rename_i n
    split at h
    · rename_i hn
      simp only [Option.some.injEq] at h
      subst h
      refine ⟨Nat.le_of_ble_eq_true rfl, ?_⟩
      simp only [entry, List.length_cons, List.length_nil, List.range, List.range.loop, List.zip_cons_cons, List.zip_nil_right]
      repeat (first
        | refine runs_seq ?_ | refine runs_block ?_ | refine next_normal ?_ | refine inside_normal ?_ | refine next_exit ?_ | refine inside_exit ?_ | refine inside_other (by decide) ?_ | refine next_ret ?_ | refine inside_ret ?_
        | refine runs_ops_kept ?_ | refine runs_skip ?_ | refine runs_exit ?_ | refine runs_ret ?_
        | refine ops_op rfl rfl (by decide) (by simp only [evOp, opd, constAV, constCell, Ev.get, reduceIte, Nat.reduceEqDiff, reduceCtorEq, evBinN, nilCmp, evBin, evInt, evUn, evConvert, evBuiltin, evLen, evField, evPart, tStr, tInt, tElem, tArr, tBool, tAgg, tField, Try.underlying3, Try.underlying4, Try.underlying5, Try.underlying9, Try.underlying26, Try.underlying29, Try.underlying34, Try.underlying40, Try.underlying45, Try.underlying56, Try.underlying134, List.zipWith, Option.map_some, Option.map_none, List.length_cons, List.length_nil, ne_eq, Int.reduceEq, not_false_eq_true, and_self, and_true, true_and, sz5, sz3, Option.getD_some, isNil, load5, load3, mk40_0, mk40_1, mk56_0, mk56_1, rowsB_len, rowsI_len, evCall, List.size_toArray, List.append_nil, List.nil_append, List.map_cons, List.map_nil, argAV, argCell, List.toList_toArray, fieldTy]; rfl) (fun h => by first | rfl | (simp at h; done)) ?_
        | refine ops_yes rfl rfl (by simp only [Ev.get, reduceIte, Nat.reduceEqDiff, sz5, sz3, Option.getD_some, isNil, load5, load3, mk40_0, mk40_1, mk56_0, mk56_1, rowsB_len, rowsI_len]; first | done | rfl) rfl (by decide) (by simp only [evOp, opd, constAV, constCell, Ev.get, reduceIte, Nat.reduceEqDiff, reduceCtorEq, evBinN, nilCmp, evBin, evInt, evUn, evConvert, evBuiltin, evLen, evField, evPart, tStr, tInt, tElem, tArr, tBool, tAgg, tField, Try.underlying3, Try.underlying4, Try.underlying5, Try.underlying9, Try.underlying26, Try.underlying29, Try.underlying34, Try.underlying40, Try.underlying45, Try.underlying56, Try.underlying134, List.zipWith, Option.map_some, Option.map_none, List.length_cons, List.length_nil, ne_eq, Int.reduceEq, not_false_eq_true, and_self, and_true, true_and, sz5, sz3, Option.getD_some, isNil, load5, load3, mk40_0, mk40_1, mk56_0, mk56_1, rowsB_len, rowsI_len, evCall, List.size_toArray, List.append_nil, List.nil_append, List.map_cons, List.map_nil, argAV, argCell, List.toList_toArray, fieldTy]; rfl) (fun h => by first | rfl | (simp at h; done)) ?_
        | refine ops_no rfl rfl (by simp only [Ev.get, reduceIte, Nat.reduceEqDiff, sz5, sz3, Option.getD_some, isNil, load5, load3, mk40_0, mk40_1, mk56_0, mk56_1, rowsB_len, rowsI_len]; first | done | rfl) (by decide) rfl (by decide) ?_
        | (refine ops_nil ?_; intro e2 h2; simp only [restr, kp31, List.map_cons, List.map_nil, Ev.get, reduceIte, Nat.reduceEqDiff] at h2; subst h2))
      exact leaves_v rfl (congrArg (fun n => AV.v (.int .u64 n)) (fold_num hn))
    · cases h
  · cases h
def kp32 : Nat → Option (List Nat) := fun _ => some [0, 2, 4]
theorem refFold_pos {n : Int} (h : inI n) (h0 : 0 ≤ n) : IntKind.u64.wrap (2 * IntKind.u64.wrap n) = ((foldOf n : Nat) : Int) := by
  unfold inI at h
  unfold foldOf
  rw [if_pos h0]
  simp [IntKind.wrap, IntKind.bits, IntKind.signed]
  omega
theorem refFold_neg {n : Int} (h : inI n) (h0 : ¬ 0 ≤ n) : IntKind.u64.wrap (IntKind.u64.wrap (2 * IntKind.u64.wrap (0 - IntKind.u64.wrap n)) - 1) = ((foldOf n : Nat) : Int) := by
  unfold inI at h
  unfold foldOf
  rw [if_neg h0]
  simp [IntKind.wrap, IntKind.bits, IntKind.signed]
  omega
theorem refFold_ok : FunOk Try.prog 32 foldG := by
  have hC := table_ok (P := Try.prog) (l := []) (by simp)
  refine fun_ok mixed hC Try.func32 rfl kp32 false rfl fun args m r h => ?_
  unfold foldG at h
  split at h
  · rename_i n
    split at h
    · rename_i hn
      simp only [Option.some.injEq] at h
      subst h
      refine ⟨Nat.le_of_ble_eq_true rfl, ?_⟩
      simp only [entry, List.length_cons, List.length_nil, List.range, List.range.loop, List.zip_cons_cons, List.zip_nil_right]
      repeat (first
        | refine runs_seq ?_ | refine runs_block ?_ | refine next_normal ?_ | refine inside_normal ?_ | refine next_exit ?_ | refine inside_exit ?_ | refine inside_other (by decide) ?_ | refine next_ret ?_ | refine inside_ret ?_
        | refine runs_ops_kept ?_ | refine runs_skip ?_ | refine runs_exit ?_ | refine runs_ret ?_
        | refine ops_op rfl rfl (by decide) (by simp only [evOp, opd, constAV, constCell, Ev.get, reduceIte, Nat.reduceEqDiff, reduceCtorEq, evBinN, nilCmp, evBin, evInt, evUn, evConvert, evBuiltin, evLen, evField, evPart, tStr, tInt, tElem, tArr, tBool, tAgg, tField, Try.underlying3, Try.underlying4, Try.underlying5, Try.underlying9, Try.underlying26, Try.underlying29, Try.underlying34, Try.underlying40, Try.underlying45, Try.underlying56, Try.underlying134, List.zipWith, Option.map_some, Option.map_none, List.length_cons, List.length_nil, ne_eq, Int.reduceEq, not_false_eq_true, and_self, and_true, true_and, sz5, sz3, Option.getD_some, isNil, load5, load3, mk40_0, mk40_1, mk56_0, mk56_1, rowsB_len, rowsI_len, evCall, List.size_toArray, List.append_nil, List.nil_append, List.map_cons, List.map_nil, argAV, argCell, List.toList_toArray, fieldTy]; rfl) (fun h => by first | rfl | (simp at h; done)) ?_
        | refine ops_yes rfl rfl (by simp only [Ev.get, reduceIte, Nat.reduceEqDiff, sz5, sz3, Option.getD_some, isNil, load5, load3, mk40_0, mk40_1, mk56_0, mk56_1, rowsB_len, rowsI_len]; first | done | rfl) rfl (by decide) (by simp only [evOp, opd, constAV, constCell, Ev.get, reduceIte, Nat.reduceEqDiff, reduceCtorEq, evBinN, nilCmp, evBin, evInt, evUn, evConvert, evBuiltin, evLen, evField, evPart, tStr, tInt, tElem, tArr, tBool, tAgg, tField, Try.underlying3, Try.underlying4, Try.underlying5, Try.underlying9, Try.underlying26, Try.underlying29, Try.underlying34, Try.underlying40, Try.underlying45, Try.underlying56, Try.underlying134, List.zipWith, Option.map_some, Option.map_none, List.length_cons, List.length_nil, ne_eq, Int.reduceEq, not_false_eq_true, and_self, and_true, true_and, sz5, sz3, Option.getD_some, isNil, load5, load3, mk40_0, mk40_1, mk56_0, mk56_1, rowsB_len, rowsI_len, evCall, List.size_toArray, List.append_nil, List.nil_append, List.map_cons, List.map_nil, argAV, argCell, List.toList_toArray, fieldTy]; rfl) (fun h => by first | rfl | (simp at h; done)) ?_
        | refine ops_no rfl rfl (by simp only [Ev.get, reduceIte, Nat.reduceEqDiff, sz5, sz3, Option.getD_some, isNil, load5, load3, mk40_0, mk40_1, mk56_0, mk56_1, rowsB_len, rowsI_len]; first | done | rfl) (by decide) rfl (by decide) ?_
        | (refine ops_nil ?_; intro e2 h2; simp only [restr, kp32, List.map_cons, List.map_nil, Ev.get, reduceIte, Nat.reduceEqDiff] at h2; subst h2))
      refine runs_cond rfl (fun hc => ?_) (fun hc => ?_)
      · have h0 : 0 ≤ n := of_decide_eq_true hc
        repeat (first
          | refine runs_seq ?_ | refine runs_block ?_ | refine next_normal ?_ | refine inside_normal ?_ | refine next_exit ?_ | refine inside_exit ?_ | refine inside_other (by decide) ?_ | refine next_ret ?_ | refine inside_ret ?_
          | refine runs_ops_kept ?_ | refine runs_skip ?_ | refine runs_exit ?_ | refine runs_ret ?_
          | refine ops_op rfl rfl (by decide) (by simp only [evOp, opd, constAV, constCell, Ev.get, reduceIte, Nat.reduceEqDiff, reduceCtorEq, evBinN, nilCmp, evBin, evInt, evUn, evConvert, evBuiltin, evLen, evField, evPart, tStr, tInt, tElem, tArr, tBool, tAgg, tField, Try.underlying3, Try.underlying4, Try.underlying5, Try.underlying9, Try.underlying26, Try.underlying29, Try.underlying34, Try.underlying40, Try.underlying45, Try.underlying56, Try.underlying134, List.zipWith, Option.map_some, Option.map_none, List.length_cons, List.length_nil, ne_eq, Int.reduceEq, not_false_eq_true, and_self, and_true, true_and, sz5, sz3, Option.getD_some, isNil, load5, load3, mk40_0, mk40_1, mk56_0, mk56_1, rowsB_len, rowsI_len, evCall, List.size_toArray, List.append_nil, List.nil_append, List.map_cons, List.map_nil, argAV, argCell, List.toList_toArray, fieldTy]; rfl) (fun h => by first | rfl | (simp at h; done)) ?_
          | refine ops_yes rfl rfl (by simp only [Ev.get, reduceIte, Nat.reduceEqDiff, sz5, sz3, Option.getD_some, isNil, load5, load3, mk40_0, mk40_1, mk56_0, mk56_1, rowsB_len, rowsI_len]; first | done | rfl) rfl (by decide) (by simp only [evOp, opd, constAV, constCell, Ev.get, reduceIte, Nat.reduceEqDiff, reduceCtorEq, evBinN, nilCmp, evBin, evInt, evUn, evConvert, evBuiltin, evLen, evField, evPart, tStr, tInt, tElem, tArr, tBool, tAgg, tField, Try.underlying3, Try.underlying4, Try.underlying5, Try.underlying9, Try.underlying26, Try.underlying29, Try.underlying34, Try.underlying40, Try.underlying45, Try.underlying56, Try.underlying134, List.zipWith, Option.map_some, Option.map_none, List.length_cons, List.length_nil, ne_eq, Int.reduceEq, not_false_eq_true, and_self, and_true, true_and, sz5, sz3, Option.getD_some, isNil, load5, load3, mk40_0, mk40_1, mk56_0, mk56_1, rowsB_len, rowsI_len, evCall, List.size_toArray, List.append_nil, List.nil_append, List.map_cons, List.map_nil, argAV, argCell, List.toList_toArray, fieldTy]; rfl) (fun h => by first | rfl | (simp at h; done)) ?_
          | refine ops_no rfl rfl (by simp only [Ev.get, reduceIte, Nat.reduceEqDiff, sz5, sz3, Option.getD_some, isNil, load5, load3, mk40_0, mk40_1, mk56_0, mk56_1, rowsB_len, rowsI_len]; first | done | rfl) (by decide) rfl (by decide) ?_
          | (refine ops_nil ?_; intro e2 h2; simp only [restr, kp32, List.map_cons, List.map_nil, Ev.get, reduceIte, Nat.reduceEqDiff] at h2; subst h2))
        exact leaves_v rfl (congrArg (fun n => AV.v (.int .u64 n)) (refFold_pos hn h0))
      · have h0 : ¬ 0 ≤ n := of_decide_eq_false hc
        repeat (first
          | refine runs_seq ?_ | refine runs_block ?_ | refine next_normal ?_ | refine inside_normal ?_ | refine next_exit ?_ | refine inside_exit ?_ | refine inside_other (by decide) ?_ | refine next_ret ?_ | refine inside_ret ?_
          | refine runs_ops_kept ?_ | refine runs_skip ?_ | refine runs_exit ?_ | refine runs_ret ?_
          | refine ops_op rfl rfl (by decide) (by simp only [evOp, opd, constAV, constCell, Ev.get, reduceIte, Nat.reduceEqDiff, reduceCtorEq, evBinN, nilCmp, evBin, evInt, evUn, evConvert, evBuiltin, evLen, evField, evPart, tStr, tInt, tElem, tArr, tBool, tAgg, tField, Try.underlying3, Try.underlying4, Try.underlying5, Try.underlying9, Try.underlying26, Try.underlying29, Try.underlying34, Try.underlying40, Try.underlying45, Try.underlying56, Try.underlying134, List.zipWith, Option.map_some, Option.map_none, List.length_cons, List.length_nil, ne_eq, Int.reduceEq, not_false_eq_true, and_self, and_true, true_and, sz5, sz3, Option.getD_some, isNil, load5, load3, mk40_0, mk40_1, mk56_0, mk56_1, rowsB_len, rowsI_len, evCall, List.size_toArray, List.append_nil, List.nil_append, List.map_cons, List.map_nil, argAV, argCell, List.toList_toArray, fieldTy]; rfl) (fun h => by first | rfl | (simp at h; done)) ?_
          | refine ops_yes rfl rfl (by simp only [Ev.get, reduceIte, Nat.reduceEqDiff, sz5, sz3, Option.getD_some, isNil, load5, load3, mk40_0, mk40_1, mk56_0, mk56_1, rowsB_len, rowsI_len]; first | done | rfl) rfl (by decide) (by simp only [evOp, opd, constAV, constCell, Ev.get, reduceIte, Nat.reduceEqDiff, reduceCtorEq, evBinN, nilCmp, evBin, evInt, evUn, evConvert, evBuiltin, evLen, evField, evPart, tStr, tInt, tElem, tArr, tBool, tAgg, tField, Try.underlying3, Try.underlying4, Try.underlying5, Try.underlying9, Try.underlying26, Try.underlying29, Try.underlying34, Try.underlying40, Try.underlying45, Try.underlying56, Try.underlying134, List.zipWith, Option.map_some, Option.map_none, List.length_cons, List.length_nil, ne_eq, Int.reduceEq, not_false_eq_true, and_self, and_true, true_and, sz5, sz3, Option.getD_some, isNil, load5, load3, mk40_0, mk40_1, mk56_0, mk56_1, rowsB_len, rowsI_len, evCall, List.size_toArray, List.append_nil, List.nil_append, List.map_cons, List.map_nil, argAV, argCell, List.toList_toArray, fieldTy]; rfl) (fun h => by first | rfl | (simp at h; done)) ?_
          | refine ops_no rfl rfl (by simp only [Ev.get, reduceIte, Nat.reduceEqDiff, sz5, sz3, Option.getD_some, isNil, load5, load3, mk40_0, mk40_1, mk56_0, mk56_1, rowsB_len, rowsI_len]; first | done | rfl) (by decide) rfl (by decide) ?_
          | (refine ops_nil ?_; intro e2 h2; simp only [restr, kp32, List.map_cons, List.map_nil, Ev.get, reduceIte, Nat.reduceEqDiff] at h2; subst h2))
        exact leaves_v rfl (congrArg (fun n => AV.v (.int .u64 n)) (refFold_neg hn h0))
    · cases h
  · cases h
def unfoldG : List AV → Mem → Option (AV × Mem)
  | [.v (.int .u64 u)], m => if 0 ≤ u ∧ u < 18446744073709551616 then some (.v (.int .i64 (unfoldOf u.toNat)), m) else none
  | _, _ => none
theorem unfold_eq {u : Nat} {m : Mem} (h : u < 18446744073709551616) : unfoldG [.v (.int .u64 (u : Int))] m = some (.v (.int .i64 (unfoldOf u)), m) := by
  simp only [unfoldG]
  rw [if_pos ⟨by omega, by omega⟩, Int.toNat_natCast]
theorem unfold_num {u : Nat} (h : u < 18446744073709551616) :
    IntKind.i64.wrap (BitVec.ofInt IntKind.i64.bits (IntKind.i64.wrap ((u : Int).fdiv (2 ^ min (1 : Int).toNat IntKind.u64.bits))) ^^^ BitVec.ofInt IntKind.i64.bits (IntKind.i64.wrap (0 - IntKind.i64.wrap (IntKind.u64.wrap (BitVec.ofInt IntKind.u64.bits (u : Int) &&& BitVec.ofInt IntKind.u64.bits 1).toNat)))).toNat = unfoldOf u := by
  have e0 : (BitVec.ofInt IntKind.u64.bits (u : Int) &&& BitVec.ofInt IntKind.u64.bits 1).toNat = u % 2 := by
    rw [BitVec.toNat_and]
    have e2 : (BitVec.ofInt IntKind.u64.bits (u : Int)).toNat = u := by
      rw [BitVec.ofInt_natCast, BitVec.toNat_ofNat]
      exact Nat.mod_eq_of_lt (by simpa [IntKind.bits] using h)
    have e3 : (BitVec.ofInt IntKind.u64.bits 1).toNat = 1 := by rfl
    rw [e2, e3, Nat.and_one_is_mod]
  have e1 : (u : Int).fdiv (2 ^ min (1 : Int).toNat IntKind.u64.bits) = ((u / 2 : Nat) : Int) := by
    rw [Int.fdiv_eq_ediv_of_nonneg _ (by decide)]
    exact (Int.natCast_ediv u 2).symm
  rw [e0, e1, u64_wrap (by omega), i64_wrap (n := ((u / 2 : Nat) : Int)) (by omega) (by omega), i64_wrap (n := ((u % 2 : Nat) : Int)) (by omega) (by omega)]
  unfold unfoldOf
  rcases (by omega : u % 2 = 0 ∨ u % 2 = 1) with h2 | h2
  · rw [if_pos h2, h2, i64_wrap (n := 0 - ((0 : Nat) : Int)) (by omega) (by omega)]
    have e2 : (BitVec.ofInt IntKind.i64.bits (0 - ((0 : Nat) : Int))) = 0#IntKind.i64.bits := by decide
    rw [e2, BitVec.xor_zero, BitVec.ofInt_natCast, BitVec.toNat_ofNat, Nat.mod_eq_of_lt (by simp [IntKind.bits]; omega), i64_wrap (by omega) (by omega)]
  · rw [if_neg (by omega), h2, i64_wrap (n := 0 - ((1 : Nat) : Int)) (by omega) (by omega)]
    have e2 : (BitVec.ofInt IntKind.i64.bits (0 - ((1 : Nat) : Int))) = BitVec.allOnes IntKind.i64.bits := by decide
    rw [e2, BitVec.xor_allOnes, BitVec.toNat_not, BitVec.ofInt_natCast, BitVec.toNat_ofNat]
    have e4 : 2 ^ IntKind.i64.bits = 18446744073709551616 := by decide
    rw [e4, Nat.mod_eq_of_lt (by omega)]
    simp [IntKind.wrap, IntKind.bits, IntKind.signed]
    omega
def kp33 : Nat → Option (List Nat) := fun _ => some [0, 2]
theorem unfold_ok : FunOk Try.prog 33 unfoldG := by
  have hC := table_ok (P := Try.prog) (l := []) (by simp)
  refine fun_ok mixed hC Try.func33 rfl kp33 false rfl fun args m r h => ?_
  unfold unfoldG at h
  split at h
  · rename_i u0
    split at h
    · rename_i hn
      simp only [Option.some.injEq] at h
      subst h
      obtain ⟨u, rfl⟩ := Int.eq_ofNat_of_zero_le hn.1
      refine ⟨Nat.le_of_ble_eq_true rfl, ?_⟩
      simp only [entry, List.length_cons, List.length_nil, List.range, List.range.loop, List.zip_cons_cons, List.zip_nil_right]
      rw [Int.toNat_natCast]
      repeat (first
        | refine runs_seq ?_ | refine runs_block ?_ | refine next_normal ?_ | refine inside_normal ?_ | refine next_exit ?_ | refine inside_exit ?_ | refine inside_other (by decide) ?_ | refine next_ret ?_ | refine inside_ret ?_
        | refine runs_ops_kept ?_ | refine runs_skip ?_ | refine runs_exit ?_ | refine runs_ret ?_
        | refine ops_op rfl rfl (by decide) (by simp only [evOp, opd, constAV, constCell, Ev.get, reduceIte, Nat.reduceEqDiff, reduceCtorEq, evBinN, nilCmp, evBin, evInt, evUn, evConvert, evBuiltin, evLen, evField, evPart, tStr, tInt, tElem, tArr, tBool, tAgg, tField, Try.underlying3, Try.underlying4, Try.underlying5, Try.underlying9, Try.underlying26, Try.underlying29, Try.underlying34, Try.underlying40, Try.underlying45, Try.underlying56, Try.underlying134, List.zipWith, Option.map_some, Option.map_none, List.length_cons, List.length_nil, ne_eq, Int.reduceEq, not_false_eq_true, and_self, and_true, true_and, sz5, sz3, Option.getD_some, isNil, load5, load3, mk40_0, mk40_1, mk56_0, mk56_1, rowsB_len, rowsI_len, evCall, List.size_toArray, List.append_nil, List.nil_append, List.map_cons, List.map_nil, argAV, argCell, List.toList_toArray, fieldTy]; rfl) (fun h => by first | rfl | (simp at h; done)) ?_
        | refine ops_yes rfl rfl (by simp only [Ev.get, reduceIte, Nat.reduceEqDiff, sz5, sz3, Option.getD_some, isNil, load5, load3, mk40_0, mk40_1, mk56_0, mk56_1, rowsB_len, rowsI_len]; first | done | rfl) rfl (by decide) (by simp only [evOp, opd, constAV, constCell, Ev.get, reduceIte, Nat.reduceEqDiff, reduceCtorEq, evBinN, nilCmp, evBin, evInt, evUn, evConvert, evBuiltin, evLen, evField, evPart, tStr, tInt, tElem, tArr, tBool, tAgg, tField, Try.underlying3, Try.underlying4, Try.underlying5, Try.underlying9, Try.underlying26, Try.underlying29, Try.underlying34, Try.underlying40, Try.underlying45, Try.underlying56, Try.underlying134, List.zipWith, Option.map_some, Option.map_none, List.length_cons, List.length_nil, ne_eq, Int.reduceEq, not_false_eq_true, and_self, and_true, true_and, sz5, sz3, Option.getD_some, isNil, load5, load3, mk40_0, mk40_1, mk56_0, mk56_1, rowsB_len, rowsI_len, evCall, List.size_toArray, List.append_nil, List.nil_append, List.map_cons, List.map_nil, argAV, argCell, List.toList_toArray, fieldTy]; rfl) (fun h => by first | rfl | (simp at h; done)) ?_
        | refine ops_no rfl rfl (by simp only [Ev.get, reduceIte, Nat.reduceEqDiff, sz5, sz3, Option.getD_some, isNil, load5, load3, mk40_0, mk40_1, mk56_0, mk56_1, rowsB_len, rowsI_len]; first | done | rfl) (by decide) rfl (by decide) ?_
        | (refine ops_nil ?_; intro e2 h2; simp only [restr, kp33, List.map_cons, List.map_nil, Ev.get, reduceIte, Nat.reduceEqDiff] at h2; subst h2))
      exact leaves_v rfl (congrArg (fun n => AV.v (.int .i64 n)) (unfold_num (by omega)))
    · cases h
  · cases h
def kp74 : Nat → Option (List Nat) := fun _ => some [0, 2, 5]
theorem number_ok : FunOk Try.prog 74 unfoldG := by
  have hC := table_ok (P := Try.prog) (l := []) (by simp)
  refine fun_ok mixed hC Try.func74 rfl kp74 false rfl fun args m r h => ?_
  unfold unfoldG at h
  split at h
  · rename_i u0
    split at h
    · rename_i hn
      simp only [Option.some.injEq] at h
      subst h
      obtain ⟨u, rfl⟩ := Int.eq_ofNat_of_zero_le hn.1
      have hu : u < 18446744073709551616 := by omega
      refine ⟨Nat.le_of_ble_eq_true rfl, ?_⟩
      simp only [entry, List.length_cons, List.length_nil, List.range, List.range.loop, List.zip_cons_cons, List.zip_nil_right]
      rw [Int.toNat_natCast]
      repeat (first
        | refine runs_seq ?_ | refine runs_block ?_ | refine next_normal ?_ | refine inside_normal ?_ | refine next_exit ?_ | refine inside_exit ?_ | refine inside_other (by decide) ?_ | refine next_ret ?_ | refine inside_ret ?_
        | refine runs_ops_kept ?_ | refine runs_skip ?_ | refine runs_exit ?_ | refine runs_ret ?_
        | refine ops_op rfl rfl (by decide) (by simp only [evOp, opd, constAV, constCell, Ev.get, reduceIte, Nat.reduceEqDiff, reduceCtorEq, evBinN, nilCmp, evBin, evInt, evUn, evConvert, evBuiltin, evLen, evField, evPart, tStr, tInt, tElem, tArr, tBool, tAgg, tField, Try.underlying3, Try.underlying4, Try.underlying5, Try.underlying9, Try.underlying26, Try.underlying29, Try.underlying34, Try.underlying40, Try.underlying45, Try.underlying56, Try.underlying134, List.zipWith, Option.map_some, Option.map_none, List.length_cons, List.length_nil, ne_eq, Int.reduceEq, not_false_eq_true, and_self, and_true, true_and, sz5, sz3, Option.getD_some, isNil, load5, load3, mk40_0, mk40_1, mk56_0, mk56_1, rowsB_len, rowsI_len, evCall, List.size_toArray, List.append_nil, List.nil_append, List.map_cons, List.map_nil, argAV, argCell, List.toList_toArray, fieldTy]; rfl) (fun h => by first | rfl | (simp at h; done)) ?_
        | refine ops_yes rfl rfl (by simp only [Ev.get, reduceIte, Nat.reduceEqDiff, sz5, sz3, Option.getD_some, isNil, load5, load3, mk40_0, mk40_1, mk56_0, mk56_1, rowsB_len, rowsI_len]; first | done | rfl) rfl (by decide) (by simp only [evOp, opd, constAV, constCell, Ev.get, reduceIte, Nat.reduceEqDiff, reduceCtorEq, evBinN, nilCmp, evBin, evInt, evUn, evConvert, evBuiltin, evLen, evField, evPart, tStr, tInt, tElem, tArr, tBool, tAgg, tField, Try.underlying3, Try.underlying4, Try.underlying5, Try.underlying9, Try.underlying26, Try.underlying29, Try.underlying34, Try.underlying40, Try.underlying45, Try.underlying56, Try.underlying134, List.zipWith, Option.map_some, Option.map_none, List.length_cons, List.length_nil, ne_eq, Int.reduceEq, not_false_eq_true, and_self, and_true, true_and, sz5, sz3, Option.getD_some, isNil, load5, load3, mk40_0, mk40_1, mk56_0, mk56_1, rowsB_len, rowsI_len, evCall, List.size_toArray, List.append_nil, List.nil_append, List.map_cons, List.map_nil, argAV, argCell, List.toList_toArray, fieldTy]; rfl) (fun h => by first | rfl | (simp at h; done)) ?_
        | refine ops_no rfl rfl (by simp only [Ev.get, reduceIte, Nat.reduceEqDiff, sz5, sz3, Option.getD_some, isNil, load5, load3, mk40_0, mk40_1, mk56_0, mk56_1, rowsB_len, rowsI_len]; first | done | rfl) (by decide) rfl (by decide) ?_
        | (refine ops_nil ?_; intro e2 h2; simp only [restr, kp74, List.map_cons, List.map_nil, Ev.get, reduceIte, Nat.reduceEqDiff] at h2; subst h2))
      have r1 : (u : Int).tmod 2 = ((u % 2 : Nat) : Int) := tmod_nat u 2
      have r2 : IntKind.u64.wrap ((u : Int).tdiv 2) = ((u / 2 : Nat) : Int) := by rw [show (u : Int).tdiv 2 = ((u / 2 : Nat) : Int) from rfl, u64_wrap (by omega)]
      have r3 : IntKind.i64.wrap ((u / 2 : Nat) : Int) = ((u / 2 : Nat) : Int) := i64_wrap (by omega) (by omega)
      have r4 : IntKind.i64.wrap (0 - ((u / 2 : Nat) : Int)) = 0 - ((u / 2 : Nat) : Int) := i64_wrap (by omega) (by omega)
      have r5 : IntKind.i64.wrap (0 - ((u / 2 : Nat) : Int) - 1) = 0 - ((u / 2 : Nat) : Int) - 1 := i64_wrap (by omega) (by omega)
      refine runs_cond rfl (fun hc => ?_) (fun hc => ?_)
      · have h2 : u % 2 = 0 := by rw [r1] at hc; have := eq_of_beq hc; omega
        repeat (first
          | refine runs_seq ?_ | refine runs_block ?_ | refine next_normal ?_ | refine inside_normal ?_ | refine next_exit ?_ | refine inside_exit ?_ | refine inside_other (by decide) ?_ | refine next_ret ?_ | refine inside_ret ?_
          | refine runs_ops_kept ?_ | refine runs_skip ?_ | refine runs_exit ?_ | refine runs_ret ?_
          | refine ops_op rfl rfl (by decide) (by simp only [evOp, opd, constAV, constCell, Ev.get, reduceIte, Nat.reduceEqDiff, reduceCtorEq, evBinN, nilCmp, evBin, evInt, evUn, evConvert, evBuiltin, evLen, evField, evPart, tStr, tInt, tElem, tArr, tBool, tAgg, tField, Try.underlying3, Try.underlying4, Try.underlying5, Try.underlying9, Try.underlying26, Try.underlying29, Try.underlying34, Try.underlying40, Try.underlying45, Try.underlying56, Try.underlying134, List.zipWith, Option.map_some, Option.map_none, List.length_cons, List.length_nil, ne_eq, Int.reduceEq, not_false_eq_true, and_self, and_true, true_and, sz5, sz3, Option.getD_some, isNil, load5, load3, mk40_0, mk40_1, mk56_0, mk56_1, rowsB_len, rowsI_len, evCall, List.size_toArray, List.append_nil, List.nil_append, List.map_cons, List.map_nil, argAV, argCell, List.toList_toArray, fieldTy, r2, r3]; rfl) (fun h => by first | rfl | (simp at h; done)) ?_
          | refine ops_yes rfl rfl (by simp only [Ev.get, reduceIte, Nat.reduceEqDiff, sz5, sz3, Option.getD_some, isNil, load5, load3, mk40_0, mk40_1, mk56_0, mk56_1, rowsB_len, rowsI_len, r2, r3]; first | done | rfl) rfl (by decide) (by simp only [evOp, opd, constAV, constCell, Ev.get, reduceIte, Nat.reduceEqDiff, reduceCtorEq, evBinN, nilCmp, evBin, evInt, evUn, evConvert, evBuiltin, evLen, evField, evPart, tStr, tInt, tElem, tArr, tBool, tAgg, tField, Try.underlying3, Try.underlying4, Try.underlying5, Try.underlying9, Try.underlying26, Try.underlying29, Try.underlying34, Try.underlying40, Try.underlying45, Try.underlying56, Try.underlying134, List.zipWith, Option.map_some, Option.map_none, List.length_cons, List.length_nil, ne_eq, Int.reduceEq, not_false_eq_true, and_self, and_true, true_and, sz5, sz3, Option.getD_some, isNil, load5, load3, mk40_0, mk40_1, mk56_0, mk56_1, rowsB_len, rowsI_len, evCall, List.size_toArray, List.append_nil, List.nil_append, List.map_cons, List.map_nil, argAV, argCell, List.toList_toArray, fieldTy, r2, r3]; rfl) (fun h => by first | rfl | (simp at h; done)) ?_
          | refine ops_no rfl rfl (by simp only [Ev.get, reduceIte, Nat.reduceEqDiff, sz5, sz3, Option.getD_some, isNil, load5, load3, mk40_0, mk40_1, mk56_0, mk56_1, rowsB_len, rowsI_len, r2, r3]; first | done | rfl) (by decide) rfl (by decide) ?_
          | (refine ops_nil ?_; intro e2 h2; simp only [restr, kp74, List.map_cons, List.map_nil, Ev.get, reduceIte, Nat.reduceEqDiff] at h2; subst h2))
        exact leaves_v rfl (congrArg (fun n => AV.v (.int .i64 n)) (by unfold unfoldOf; rw [if_pos h2]))
      · have h2 : ¬ u % 2 = 0 := by
          intro h2
          rw [r1, h2] at hc
          cases hc
        repeat (first
          | refine runs_seq ?_ | refine runs_block ?_ | refine next_normal ?_ | refine inside_normal ?_ | refine next_exit ?_ | refine inside_exit ?_ | refine inside_other (by decide) ?_ | refine next_ret ?_ | refine inside_ret ?_
          | refine runs_ops_kept ?_ | refine runs_skip ?_ | refine runs_exit ?_ | refine runs_ret ?_
          | refine ops_op rfl rfl (by decide) (by simp only [evOp, opd, constAV, constCell, Ev.get, reduceIte, Nat.reduceEqDiff, reduceCtorEq, evBinN, nilCmp, evBin, evInt, evUn, evConvert, evBuiltin, evLen, evField, evPart, tStr, tInt, tElem, tArr, tBool, tAgg, tField, Try.underlying3, Try.underlying4, Try.underlying5, Try.underlying9, Try.underlying26, Try.underlying29, Try.underlying34, Try.underlying40, Try.underlying45, Try.underlying56, Try.underlying134, List.zipWith, Option.map_some, Option.map_none, List.length_cons, List.length_nil, ne_eq, Int.reduceEq, not_false_eq_true, and_self, and_true, true_and, sz5, sz3, Option.getD_some, isNil, load5, load3, mk40_0, mk40_1, mk56_0, mk56_1, rowsB_len, rowsI_len, evCall, List.size_toArray, List.append_nil, List.nil_append, List.map_cons, List.map_nil, argAV, argCell, List.toList_toArray, fieldTy, r2, r3, r4, r5]; rfl) (fun h => by first | rfl | (simp at h; done)) ?_
          | refine ops_yes rfl rfl (by simp only [Ev.get, reduceIte, Nat.reduceEqDiff, sz5, sz3, Option.getD_some, isNil, load5, load3, mk40_0, mk40_1, mk56_0, mk56_1, rowsB_len, rowsI_len, r2, r3, r4, r5]; first | done | rfl) rfl (by decide) (by simp only [evOp, opd, constAV, constCell, Ev.get, reduceIte, Nat.reduceEqDiff, reduceCtorEq, evBinN, nilCmp, evBin, evInt, evUn, evConvert, evBuiltin, evLen, evField, evPart, tStr, tInt, tElem, tArr, tBool, tAgg, tField, Try.underlying3, Try.underlying4, Try.underlying5, Try.underlying9, Try.underlying26, Try.underlying29, Try.underlying34, Try.underlying40, Try.underlying45, Try.underlying56, Try.underlying134, List.zipWith, Option.map_some, Option.map_none, List.length_cons, List.length_nil, ne_eq, Int.reduceEq, not_false_eq_true, and_self, and_true, true_and, sz5, sz3, Option.getD_some, isNil, load5, load3, mk40_0, mk40_1, mk56_0, mk56_1, rowsB_len, rowsI_len, evCall, List.size_toArray, List.append_nil, List.nil_append, List.map_cons, List.map_nil, argAV, argCell, List.toList_toArray, fieldTy, r2, r3, r4, r5]; rfl) (fun h => by first | rfl | (simp at h; done)) ?_
          | refine ops_no rfl rfl (by simp only [Ev.get, reduceIte, Nat.reduceEqDiff, sz5, sz3, Option.getD_some, isNil, load5, load3, mk40_0, mk40_1, mk56_0, mk56_1, rowsB_len, rowsI_len, r2, r3, r4, r5]; first | done | rfl) (by decide) rfl (by decide) ?_
          | (refine ops_nil ?_; intro e2 h2; simp only [restr, kp74, List.map_cons, List.map_nil, Ev.get, reduceIte, Nat.reduceEqDiff] at h2; subst h2))
        exact leaves_v rfl (congrArg (fun n => AV.v (.int .i64 n)) (by unfold unfoldOf; rw [if_neg h2]; omega))
    · cases h
  · cases h
end Go.Proofs.Ytbehhlbcffbkoaa.Ev
