/- Joined sums. -/
import Derived.Test.YtbehhlbcffbkoaaSeE
namespace Go.Proofs.Ytbehhlbcffbkoaa.Ev
open Go Go.Proofs
set_option maxRecDepth 10000
set_option linter.unusedVariables false
set_option linter.unusedSimpArgs false
attribute [local irreducible] Next Inside Runs Ops table
theorem low_num {n : Nat} (hn : n < 4294967296) : IntKind.u32.wrap (BitVec.ofInt IntKind.u32.bits (n : Int) &&& BitVec.ofInt IntKind.u32.bits 65535).toNat = ((n % 65536 : Nat) : Int) := by
  rw [BitVec.toNat_and]
  have e2 : (BitVec.ofInt IntKind.u32.bits (n : Int)).toNat = n := by
    rw [BitVec.ofInt_natCast, BitVec.toNat_ofNat]
    exact Nat.mod_eq_of_lt (by simpa [IntKind.bits] using hn)
  have e3 : (BitVec.ofInt IntKind.u32.bits 65535).toNat = 65535 := by rfl
  rw [e2, e3, show (65535 : Nat) = 2 ^ 16 - 1 by rfl, Nat.and_two_pow_sub_one_eq_mod]
  exact u32_wrap (by have := Nat.mod_lt n (by decide : 2 ^ 16 > 0); omega)
theorem high_num {n : Nat} : (n : Int).fdiv (2 ^ min (16 : Int).toNat IntKind.u32.bits) = ((n / 65536 : Nat) : Int) := by
  rw [Int.fdiv_eq_ediv_of_nonneg _ (by decide)]
  exact (Int.natCast_ediv n 65536).symm
def halvesG : List AV → Mem → Option (AV × Mem)
  | [.v (.int .u32 n)], m => if 0 ≤ n ∧ n < 4294967296 then some (.tup [.v (.int .u32 (n.toNat % 65536 : Nat)), .v (.int .u32 (n.toNat / 65536 : Nat))], m) else none
  | _, _ => none
theorem halves_eq {n : Nat} {m : Mem} (h : n < 4294967296) : halvesG [.v (.int .u32 n)] m = some (.tup [.v (.int .u32 (n % 65536 : Nat)), .v (.int .u32 (n / 65536 : Nat))], m) := by
  simp only [halvesG]
  rw [if_pos ⟨by omega, by omega⟩, Int.toNat_natCast]
def kp70 : Nat → Option (List Nat) := fun _ => some [0, 2, 3]
theorem halves_ok : FunOk Try.prog 70 halvesG := by
  have hC := table_ok (P := Try.prog) (l := []) (by simp)
  refine fun_ok mixed hC Try.func70 rfl kp70 false rfl fun args m r h => ?_
  unfold halvesG at h
  split at h
  · rename_i n0
    split at h
    · rename_i hs
      simp only [Option.some.injEq] at h
      subst h
      obtain ⟨n, rfl⟩ := Int.eq_ofNat_of_zero_le hs.1
      have hn : n < 4294967296 := by omega
      refine ⟨Nat.le_of_ble_eq_true rfl, ?_⟩
      simp only [entry, List.length_cons, List.length_nil, List.range, List.range.loop, List.zip_cons_cons, List.zip_nil_right]
      rw [Int.toNat_natCast]
      have w1 := low_num hn
      have w2 := high_num (n := n)
      repeat (first
        | refine runs_seq ?_ | refine runs_block ?_ | refine next_normal ?_ | refine inside_normal ?_ | refine next_exit ?_ | refine inside_exit ?_ | refine inside_other (by decide) ?_ | refine next_ret ?_ | refine inside_ret ?_
        | refine runs_ops_kept ?_ | refine runs_skip ?_ | refine runs_exit ?_ | refine runs_ret ?_
        | refine ops_op rfl rfl (by decide) (by simp only [evOp, opd, constAV, constCell, Ev.get, reduceIte, Nat.reduceEqDiff, reduceCtorEq, evBin, evInt, evUn, evConvert, evBuiltin, evLen, evField, evPart, tStr, tInt, tElem, tArr, tBool, tAgg, tField, Try.underlying3, Try.underlying4, Try.underlying5, Try.underlying9, Try.underlying26, Try.underlying29, Try.underlying40, Try.underlying45, Try.underlying134, List.zipWith, Option.map_some, Option.map_none, List.length_cons, List.length_nil, ne_eq, Int.reduceEq, not_false_eq_true, and_self, and_true, true_and]; rfl) (fun h => rfl) ?_
        | refine ops_yes rfl rfl (by simp only [Ev.get, reduceIte, Nat.reduceEqDiff]; first | done | rfl) rfl (by decide) (by simp only [evOp, opd, constAV, constCell, Ev.get, reduceIte, Nat.reduceEqDiff, reduceCtorEq, evBin, evInt, evUn, evConvert, evBuiltin, evLen, evField, evPart, tStr, tInt, tElem, tArr, tBool, tAgg, tField, Try.underlying3, Try.underlying4, Try.underlying5, Try.underlying9, Try.underlying26, Try.underlying29, Try.underlying40, Try.underlying45, Try.underlying134, List.zipWith, Option.map_some, Option.map_none, List.length_cons, List.length_nil, ne_eq, Int.reduceEq, not_false_eq_true, and_self, and_true, true_and]; rfl) (fun h => rfl) ?_
        | refine ops_no rfl rfl (by simp only [Ev.get, reduceIte, Nat.reduceEqDiff]; first | done | rfl) (by decide) rfl (by decide) ?_
        | (refine ops_nil ?_; intro e2 h2; simp only [restr, kp70, List.map_cons, List.map_nil, Ev.get, reduceIte, Nat.reduceEqDiff] at h2; subst h2))
      exact leaves_vv rfl (congrArg (fun n => AV.v (.int .u32 n)) w1) (congrArg (fun n => AV.v (.int .u32 n)) w2)
    · cases h
  · cases h

/-! ### the join of two sums -/
def joinOf (x y : Nat) (n : Int) : Nat :=
  if n < 0 ∨ 65521 ≤ x % 65536 ∨ 65521 ≤ x / 65536 ∨ 65521 ≤ y % 65536 ∨ 65521 ≤ y / 65536 then 0
  else (x / 65536 + y / 65536 + n.toNat % 65521 * (x % 65536 + 65520) % 65521) % 65521 * 65536 + (x % 65536 + y % 65536 + 65520) % 65521
def joinG : List AV → Mem → Option (AV × Mem)
  | [.v (.int .u32 x), .v (.int .u32 y), .v (.int .i64 n)], m => if 0 ≤ x ∧ x < 4294967296 ∧ 0 ≤ y ∧ y < 4294967296 ∧ n ≤ 9223372036854775807 then some (.v (.int .u32 (joinOf x.toNat y.toNat n : Nat)), m) else none
  | _, _ => none
theorem join_eq {x y : Nat} {n : Int} {m : Mem} (hx : x < 4294967296) (hy : y < 4294967296) (hn : n ≤ 9223372036854775807) : joinG [.v (.int .u32 x), .v (.int .u32 y), .v (.int .i64 n)] m = some (.v (.int .u32 (joinOf x y n : Nat)), m) := by
  simp only [joinG]
  rw [if_pos ⟨by omega, by omega, by omega, by omega, hn⟩, Int.toNat_natCast, Int.toNat_natCast]
theorem mx_nat (a b : Nat) : mx (a : Int) (b : Int) = ((max a b : Nat) : Int) := by
  unfold mx
  split <;> omega
theorem joinMore_num {n a : Nat} (ha : a < 65521) :
    IntKind.u32.wrap ((IntKind.u64.wrap (IntKind.u64.wrap ((n : Int).tmod 65521) * IntKind.u64.wrap (IntKind.u32.wrap (IntKind.u32.wrap ((a : Int) + 65521) - 1)))).tmod 65521) = ((n % 65521 * (a + 65520) % 65521 : Nat) : Int) := by
  have h1 : (n : Int).tmod 65521 = ((n % 65521 : Nat) : Int) := tmod_nat n 65521
  have b1 : n % 65521 < 65521 := Nat.mod_lt _ (by decide)
  have e1 : IntKind.u32.wrap ((a : Int) + 65521) = ((a + 65521 : Nat) : Int) := by rw [show (a : Int) + 65521 = ((a + 65521 : Nat) : Int) by simp, u32_wrap (by omega)]
  have e2 : IntKind.u32.wrap (((a + 65521 : Nat) : Int) - 1) = ((a + 65520 : Nat) : Int) := by rw [show ((a + 65521 : Nat) : Int) - 1 = ((a + 65520 : Nat) : Int) by omega, u32_wrap (by omega)]
  have hm : n % 65521 * (a + 65520) ≤ 65521 * 131041 := Nat.mul_le_mul (by omega) (by omega)
  rw [h1, e1, e2, u64_wrap (by omega), u64_wrap (n := a + 65520) (by omega), ← Int.natCast_mul, u64_wrap (by omega)]
  have h3 : ((n % 65521 * (a + 65520) : Nat) : Int).tmod 65521 = ((n % 65521 * (a + 65520) % 65521 : Nat) : Int) := tmod_nat _ 65521
  rw [h3, u32_wrap (by have := Nat.mod_lt (n % 65521 * (a + 65520)) (by decide : 65521 > 0); omega)]
theorem joinA_num {a c : Nat} (ha : a < 65521) (hc : c < 65521) :
    (IntKind.u32.wrap (IntKind.u32.wrap (IntKind.u32.wrap ((a : Int) + (c : Int)) + 65521) - 1)).tmod 65521 = ((a + c + 65520) % 65521 : Nat) := by
  rw [← Int.natCast_add, u32_wrap (by omega), show ((a + c : Nat) : Int) + 65521 = ((a + c + 65521 : Nat) : Int) by simp, u32_wrap (by omega), show ((a + c + 65521 : Nat) : Int) - 1 = ((a + c + 65520 : Nat) : Int) by omega, u32_wrap (by omega)]
  exact tmod_nat _ 65521
theorem joinB_num {b d k : Nat} (hb : b < 65521) (hd : d < 65521) (hk : k < 65521) :
    (IntKind.u32.wrap (IntKind.u32.wrap ((b : Int) + (d : Int)) + (k : Int))).tmod 65521 = ((b + d + k) % 65521 : Nat) := by
  rw [← Int.natCast_add, u32_wrap (by omega), ← Int.natCast_add, u32_wrap (by omega)]
  exact tmod_nat _ 65521
def kp22 : Nat → Option (List Nat) := fun _ => some [0, 1, 2, 6, 7, 8, 9, 10, 11, 31]
theorem join_ok : FunOk Try.prog 22 joinG := by
  have hC := table_ok (P := Try.prog) (l := [(70, halvesG), (69, wholeG)]) (by simp only [List.mem_cons, List.not_mem_nil, or_false, forall_eq_or_imp, forall_eq]; exact ⟨halves_ok, whole_ok (table_ok (l := []) (by simp))⟩)
  refine fun_ok mixed hC Try.func22 rfl kp22 false rfl fun args m r h => ?_
  unfold joinG at h
  split at h
  · rename_i x0 y0 n
    split at h
    · rename_i hs
      simp only [Option.some.injEq] at h
      subst h
      obtain ⟨x, rfl⟩ := Int.eq_ofNat_of_zero_le hs.1
      obtain ⟨y, rfl⟩ := Int.eq_ofNat_of_zero_le hs.2.2.1
      have hx : x < 4294967296 := by omega
      have hy : y < 4294967296 := by omega
      refine ⟨Nat.le_of_ble_eq_true rfl, ?_⟩
      simp only [entry, List.length_cons, List.length_nil, List.range, List.range.loop, List.zip_cons_cons, List.zip_nil_right]
      rw [Int.toNat_natCast, Int.toNat_natCast]
      repeat (first
        | refine runs_seq ?_ | refine runs_block ?_ | refine next_normal ?_ | refine inside_normal ?_ | refine next_exit ?_ | refine inside_exit ?_ | refine inside_other (by decide) ?_ | refine next_ret ?_ | refine inside_ret ?_
        | refine runs_ops_kept ?_ | refine runs_skip ?_ | refine runs_exit ?_ | refine runs_ret ?_
        | refine ops_op rfl rfl (by decide) (by simp only [evOp, opd, constAV, constCell, Ev.get, reduceIte, Nat.reduceEqDiff, reduceCtorEq, evBin, evInt, evUn, evConvert, evBuiltin, evLen, evField, evPart, tStr, tInt, tElem, tArr, tBool, tAgg, tField, Try.underlying3, Try.underlying4, Try.underlying5, Try.underlying9, Try.underlying26, Try.underlying29, Try.underlying40, Try.underlying45, Try.underlying134, List.zipWith, Option.map_some, Option.map_none, List.length_cons, List.length_nil, ne_eq, Int.reduceEq, not_false_eq_true, and_self, and_true, true_and]; rfl) (fun h => rfl) ?_
        | refine ops_yes rfl rfl (by simp only [Ev.get, reduceIte, Nat.reduceEqDiff]; first | done | rfl) rfl (by decide) (by simp only [evOp, opd, constAV, constCell, Ev.get, reduceIte, Nat.reduceEqDiff, reduceCtorEq, evBin, evInt, evUn, evConvert, evBuiltin, evLen, evField, evPart, tStr, tInt, tElem, tArr, tBool, tAgg, tField, Try.underlying3, Try.underlying4, Try.underlying5, Try.underlying9, Try.underlying26, Try.underlying29, Try.underlying40, Try.underlying45, Try.underlying134, List.zipWith, Option.map_some, Option.map_none, List.length_cons, List.length_nil, ne_eq, Int.reduceEq, not_false_eq_true, and_self, and_true, true_and]; rfl) (fun h => rfl) ?_
        | refine ops_no rfl rfl (by simp only [Ev.get, reduceIte, Nat.reduceEqDiff]; first | done | rfl) (by decide) rfl (by decide) ?_
        | (refine ops_nil ?_; intro e2 h2; simp only [restr, kp22, List.map_cons, List.map_nil, Ev.get, reduceIte, Nat.reduceEqDiff] at h2; subst h2))
      refine ops_op rfl rfl (by decide) (by simp only [evOp, opd, constAV, constCell, Ev.get, reduceIte, Nat.reduceEqDiff, reduceCtorEq, evBin, evInt, evUn, evConvert, evBuiltin, evLen, evField, evPart, tStr, tInt, tElem, tArr, tBool, tAgg, tField, Try.underlying3, Try.underlying4, Try.underlying5, Try.underlying9, Try.underlying26, Try.underlying29, Try.underlying40, Try.underlying45, Try.underlying134, List.zipWith, Option.map_some, Option.map_none, List.length_cons, List.length_nil, ne_eq, Int.reduceEq, not_false_eq_true, and_self, and_true, true_and, evCall, List.size_toArray, List.append_nil, List.nil_append, List.map_cons, List.map_nil, argAV, argCell, table_hit]; rw [halves_eq hx]) (fun h => rfl) ?_
      repeat (first
        | refine runs_seq ?_ | refine runs_block ?_ | refine next_normal ?_ | refine inside_normal ?_ | refine next_exit ?_ | refine inside_exit ?_ | refine inside_other (by decide) ?_ | refine next_ret ?_ | refine inside_ret ?_
        | refine runs_ops_kept ?_ | refine runs_skip ?_ | refine runs_exit ?_ | refine runs_ret ?_
        | refine ops_op rfl rfl (by decide) (by simp only [evOp, opd, constAV, constCell, Ev.get, reduceIte, Nat.reduceEqDiff, reduceCtorEq, evBin, evInt, evUn, evConvert, evBuiltin, evLen, evField, evPart, tStr, tInt, tElem, tArr, tBool, tAgg, tField, Try.underlying3, Try.underlying4, Try.underlying5, Try.underlying9, Try.underlying26, Try.underlying29, Try.underlying40, Try.underlying45, Try.underlying134, List.zipWith, Option.map_some, Option.map_none, List.length_cons, List.length_nil, ne_eq, Int.reduceEq, not_false_eq_true, and_self, and_true, true_and]; rfl) (fun h => rfl) ?_
        | refine ops_yes rfl rfl (by simp only [Ev.get, reduceIte, Nat.reduceEqDiff]; first | done | rfl) rfl (by decide) (by simp only [evOp, opd, constAV, constCell, Ev.get, reduceIte, Nat.reduceEqDiff, reduceCtorEq, evBin, evInt, evUn, evConvert, evBuiltin, evLen, evField, evPart, tStr, tInt, tElem, tArr, tBool, tAgg, tField, Try.underlying3, Try.underlying4, Try.underlying5, Try.underlying9, Try.underlying26, Try.underlying29, Try.underlying40, Try.underlying45, Try.underlying134, List.zipWith, Option.map_some, Option.map_none, List.length_cons, List.length_nil, ne_eq, Int.reduceEq, not_false_eq_true, and_self, and_true, true_and]; rfl) (fun h => rfl) ?_
        | refine ops_no rfl rfl (by simp only [Ev.get, reduceIte, Nat.reduceEqDiff]; first | done | rfl) (by decide) rfl (by decide) ?_
        | (refine ops_nil ?_; intro e2 h2; simp only [restr, kp22, List.map_cons, List.map_nil, Ev.get, reduceIte, Nat.reduceEqDiff] at h2; subst h2))
      refine ops_op rfl rfl (by decide) (by simp only [evOp, opd, constAV, constCell, Ev.get, reduceIte, Nat.reduceEqDiff, reduceCtorEq, evBin, evInt, evUn, evConvert, evBuiltin, evLen, evField, evPart, tStr, tInt, tElem, tArr, tBool, tAgg, tField, Try.underlying3, Try.underlying4, Try.underlying5, Try.underlying9, Try.underlying26, Try.underlying29, Try.underlying40, Try.underlying45, Try.underlying134, List.zipWith, Option.map_some, Option.map_none, List.length_cons, List.length_nil, ne_eq, Int.reduceEq, not_false_eq_true, and_self, and_true, true_and, evCall, List.size_toArray, List.append_nil, List.nil_append, List.map_cons, List.map_nil, argAV, argCell, table_hit]; rw [halves_eq hy]) (fun h => rfl) ?_
      by_cases hneg : n < 0
      · have hd : decide (n < 0) = true := decide_eq_true hneg
        have hj : joinOf x y n = 0 := if_pos (.inl hneg)
        rw [hj]
        repeat (first
          | refine runs_seq ?_ | refine runs_block ?_ | refine next_normal ?_ | refine inside_normal ?_ | refine next_exit ?_ | refine inside_exit ?_ | refine inside_other (by decide) ?_ | refine next_ret ?_ | refine inside_ret ?_
          | refine runs_ops_kept ?_ | refine runs_skip ?_ | refine runs_exit ?_ | refine runs_ret ?_
          | refine ops_op rfl rfl (by decide) (by simp only [evOp, opd, constAV, constCell, Ev.get, reduceIte, Nat.reduceEqDiff, reduceCtorEq, evBin, evInt, evUn, evConvert, evBuiltin, evLen, evField, evPart, tStr, tInt, tElem, tArr, tBool, tAgg, tField, Try.underlying3, Try.underlying4, Try.underlying5, Try.underlying9, Try.underlying26, Try.underlying29, Try.underlying40, Try.underlying45, Try.underlying134, List.zipWith, Option.map_some, Option.map_none, List.length_cons, List.length_nil, ne_eq, Int.reduceEq, not_false_eq_true, and_self, and_true, true_and, hd]; rfl) (fun h => rfl) ?_
          | refine ops_yes rfl rfl (by simp only [Ev.get, reduceIte, Nat.reduceEqDiff]; first | done | rfl) rfl (by decide) (by simp only [evOp, opd, constAV, constCell, Ev.get, reduceIte, Nat.reduceEqDiff, reduceCtorEq, evBin, evInt, evUn, evConvert, evBuiltin, evLen, evField, evPart, tStr, tInt, tElem, tArr, tBool, tAgg, tField, Try.underlying3, Try.underlying4, Try.underlying5, Try.underlying9, Try.underlying26, Try.underlying29, Try.underlying40, Try.underlying45, Try.underlying134, List.zipWith, Option.map_some, Option.map_none, List.length_cons, List.length_nil, ne_eq, Int.reduceEq, not_false_eq_true, and_self, and_true, true_and, hd]; rfl) (fun h => rfl) ?_
          | refine ops_no rfl rfl (by simp only [Ev.get, reduceIte, Nat.reduceEqDiff]; first | done | rfl) (by decide) rfl (by decide) ?_
          | (refine ops_nil ?_; intro e2 h2; simp only [restr, kp22, List.map_cons, List.map_nil, Ev.get, reduceIte, Nat.reduceEqDiff] at h2; subst h2))
        refine runs_cond rfl (fun hc => ?_) (fun hc => by cases hc)
        repeat (first
          | refine runs_seq ?_ | refine runs_block ?_ | refine next_normal ?_ | refine inside_normal ?_ | refine next_exit ?_ | refine inside_exit ?_ | refine inside_other (by decide) ?_ | refine next_ret ?_ | refine inside_ret ?_
          | refine runs_ops_kept ?_ | refine runs_skip ?_ | refine runs_exit ?_ | refine runs_ret ?_
          | refine ops_op rfl rfl (by decide) (by simp only [evOp, opd, constAV, constCell, Ev.get, reduceIte, Nat.reduceEqDiff, reduceCtorEq, evBin, evInt, evUn, evConvert, evBuiltin, evLen, evField, evPart, tStr, tInt, tElem, tArr, tBool, tAgg, tField, Try.underlying3, Try.underlying4, Try.underlying5, Try.underlying9, Try.underlying26, Try.underlying29, Try.underlying40, Try.underlying45, Try.underlying134, List.zipWith, Option.map_some, Option.map_none, List.length_cons, List.length_nil, ne_eq, Int.reduceEq, not_false_eq_true, and_self, and_true, true_and]; rfl) (fun h => rfl) ?_
          | refine ops_yes rfl rfl (by simp only [Ev.get, reduceIte, Nat.reduceEqDiff]; first | done | rfl) rfl (by decide) (by simp only [evOp, opd, constAV, constCell, Ev.get, reduceIte, Nat.reduceEqDiff, reduceCtorEq, evBin, evInt, evUn, evConvert, evBuiltin, evLen, evField, evPart, tStr, tInt, tElem, tArr, tBool, tAgg, tField, Try.underlying3, Try.underlying4, Try.underlying5, Try.underlying9, Try.underlying26, Try.underlying29, Try.underlying40, Try.underlying45, Try.underlying134, List.zipWith, Option.map_some, Option.map_none, List.length_cons, List.length_nil, ne_eq, Int.reduceEq, not_false_eq_true, and_self, and_true, true_and]; rfl) (fun h => rfl) ?_
          | refine ops_no rfl rfl (by simp only [Ev.get, reduceIte, Nat.reduceEqDiff]; first | done | rfl) (by decide) rfl (by decide) ?_
          | (refine ops_nil ?_; intro e2 h2; simp only [restr, kp22, List.map_cons, List.map_nil, Ev.get, reduceIte, Nat.reduceEqDiff] at h2; subst h2))
        exact leaves_v rfl rfl
      · have hd : decide (n < 0) = false := decide_eq_false hneg
        obtain ⟨k, rfl⟩ := Int.eq_ofNat_of_zero_le (by omega : 0 ≤ n)
        repeat (first
          | refine runs_seq ?_ | refine runs_block ?_ | refine next_normal ?_ | refine inside_normal ?_ | refine next_exit ?_ | refine inside_exit ?_ | refine inside_other (by decide) ?_ | refine next_ret ?_ | refine inside_ret ?_
          | refine runs_ops_kept ?_ | refine runs_skip ?_ | refine runs_exit ?_ | refine runs_ret ?_
          | refine ops_op rfl rfl (by decide) (by simp only [evOp, opd, constAV, constCell, Ev.get, reduceIte, Nat.reduceEqDiff, reduceCtorEq, evBin, evInt, evUn, evConvert, evBuiltin, evLen, evField, evPart, tStr, tInt, tElem, tArr, tBool, tAgg, tField, Try.underlying3, Try.underlying4, Try.underlying5, Try.underlying9, Try.underlying26, Try.underlying29, Try.underlying40, Try.underlying45, Try.underlying134, List.zipWith, Option.map_some, Option.map_none, List.length_cons, List.length_nil, ne_eq, Int.reduceEq, not_false_eq_true, and_self, and_true, true_and, hd]; rfl) (fun h => rfl) ?_
          | refine ops_yes rfl rfl (by simp only [Ev.get, reduceIte, Nat.reduceEqDiff]; first | done | rfl) rfl (by decide) (by simp only [evOp, opd, constAV, constCell, Ev.get, reduceIte, Nat.reduceEqDiff, reduceCtorEq, evBin, evInt, evUn, evConvert, evBuiltin, evLen, evField, evPart, tStr, tInt, tElem, tArr, tBool, tAgg, tField, Try.underlying3, Try.underlying4, Try.underlying5, Try.underlying9, Try.underlying26, Try.underlying29, Try.underlying40, Try.underlying45, Try.underlying134, List.zipWith, Option.map_some, Option.map_none, List.length_cons, List.length_nil, ne_eq, Int.reduceEq, not_false_eq_true, and_self, and_true, true_and, hd]; rfl) (fun h => rfl) ?_
          | refine ops_no rfl rfl (by simp only [Ev.get, reduceIte, Nat.reduceEqDiff]; first | done | rfl) (by decide) rfl (by decide) ?_
          | (refine ops_nil ?_; intro e2 h2; simp only [restr, kp22, List.map_cons, List.map_nil, Ev.get, reduceIte, Nat.reduceEqDiff] at h2; subst h2))
        refine runs_cond rfl (fun hc => ?_) (fun hc => ?_)
        · have hm := of_decide_eq_true hc
          simp only [mx_nat] at hm
          have hj : joinOf x y k = 0 := if_pos (by omega)
          rw [hj]
          repeat (first
            | refine runs_seq ?_ | refine runs_block ?_ | refine next_normal ?_ | refine inside_normal ?_ | refine next_exit ?_ | refine inside_exit ?_ | refine inside_other (by decide) ?_ | refine next_ret ?_ | refine inside_ret ?_
            | refine runs_ops_kept ?_ | refine runs_skip ?_ | refine runs_exit ?_ | refine runs_ret ?_
            | refine ops_op rfl rfl (by decide) (by simp only [evOp, opd, constAV, constCell, Ev.get, reduceIte, Nat.reduceEqDiff, reduceCtorEq, evBin, evInt, evUn, evConvert, evBuiltin, evLen, evField, evPart, tStr, tInt, tElem, tArr, tBool, tAgg, tField, Try.underlying3, Try.underlying4, Try.underlying5, Try.underlying9, Try.underlying26, Try.underlying29, Try.underlying40, Try.underlying45, Try.underlying134, List.zipWith, Option.map_some, Option.map_none, List.length_cons, List.length_nil, ne_eq, Int.reduceEq, not_false_eq_true, and_self, and_true, true_and]; rfl) (fun h => rfl) ?_
            | refine ops_yes rfl rfl (by simp only [Ev.get, reduceIte, Nat.reduceEqDiff]; first | done | rfl) rfl (by decide) (by simp only [evOp, opd, constAV, constCell, Ev.get, reduceIte, Nat.reduceEqDiff, reduceCtorEq, evBin, evInt, evUn, evConvert, evBuiltin, evLen, evField, evPart, tStr, tInt, tElem, tArr, tBool, tAgg, tField, Try.underlying3, Try.underlying4, Try.underlying5, Try.underlying9, Try.underlying26, Try.underlying29, Try.underlying40, Try.underlying45, Try.underlying134, List.zipWith, Option.map_some, Option.map_none, List.length_cons, List.length_nil, ne_eq, Int.reduceEq, not_false_eq_true, and_self, and_true, true_and]; rfl) (fun h => rfl) ?_
            | refine ops_no rfl rfl (by simp only [Ev.get, reduceIte, Nat.reduceEqDiff]; first | done | rfl) (by decide) rfl (by decide) ?_
            | (refine ops_nil ?_; intro e2 h2; simp only [restr, kp22, List.map_cons, List.map_nil, Ev.get, reduceIte, Nat.reduceEqDiff] at h2; subst h2))
          exact leaves_v rfl rfl
        · have hm := of_decide_eq_false hc
          simp only [mx_nat] at hm
          have b1 : x % 65536 < 65521 := by omega
          have b2 : x / 65536 < 65521 := by omega
          have b3 : y % 65536 < 65521 := by omega
          have b4 : y / 65536 < 65521 := by omega
          have hj : joinOf x y k = (x / 65536 + y / 65536 + k % 65521 * (x % 65536 + 65520) % 65521) % 65521 * 65536 + (x % 65536 + y % 65536 + 65520) % 65521 := by
            unfold joinOf
            rw [if_neg (by omega), Int.toNat_natCast]
          have w1 := joinMore_num (n := k) b1
          have w2 := joinA_num b1 b3
          have w3 := joinB_num b2 b4 (Nat.mod_lt (k % 65521 * (x % 65536 + 65520)) (by decide : 65521 > 0))
          have c1 := Nat.mod_lt (x % 65536 + y % 65536 + 65520) (by decide : 65521 > 0)
          have c2 := Nat.mod_lt (x / 65536 + y / 65536 + k % 65521 * (x % 65536 + 65520) % 65521) (by decide : 65521 > 0)
          rw [hj]
          repeat (first
            | refine runs_seq ?_ | refine runs_block ?_ | refine next_normal ?_ | refine inside_normal ?_ | refine next_exit ?_ | refine inside_exit ?_ | refine inside_other (by decide) ?_ | refine next_ret ?_ | refine inside_ret ?_
            | refine runs_ops_kept ?_ | refine runs_skip ?_ | refine runs_exit ?_ | refine runs_ret ?_
            | refine ops_op rfl rfl (by decide) (by simp only [evOp, opd, constAV, constCell, Ev.get, reduceIte, Nat.reduceEqDiff, reduceCtorEq, evBin, evInt, evUn, evConvert, evBuiltin, evLen, evField, evPart, tStr, tInt, tElem, tArr, tBool, tAgg, tField, Try.underlying3, Try.underlying4, Try.underlying5, Try.underlying9, Try.underlying26, Try.underlying29, Try.underlying40, Try.underlying45, Try.underlying134, List.zipWith, Option.map_some, Option.map_none, List.length_cons, List.length_nil, ne_eq, Int.reduceEq, not_false_eq_true, and_self, and_true, true_and, w1, w2, w3]; rfl) (fun h => rfl) ?_
            | refine ops_yes rfl rfl (by simp only [Ev.get, reduceIte, Nat.reduceEqDiff]; first | done | rfl) rfl (by decide) (by simp only [evOp, opd, constAV, constCell, Ev.get, reduceIte, Nat.reduceEqDiff, reduceCtorEq, evBin, evInt, evUn, evConvert, evBuiltin, evLen, evField, evPart, tStr, tInt, tElem, tArr, tBool, tAgg, tField, Try.underlying3, Try.underlying4, Try.underlying5, Try.underlying9, Try.underlying26, Try.underlying29, Try.underlying40, Try.underlying45, Try.underlying134, List.zipWith, Option.map_some, Option.map_none, List.length_cons, List.length_nil, ne_eq, Int.reduceEq, not_false_eq_true, and_self, and_true, true_and, w1, w2, w3]; rfl) (fun h => rfl) ?_
            | refine ops_no rfl rfl (by simp only [Ev.get, reduceIte, Nat.reduceEqDiff]; first | done | rfl) (by decide) rfl (by decide) ?_
            | (refine ops_nil ?_; intro e2 h2; simp only [restr, kp22, List.map_cons, List.map_nil, Ev.get, reduceIte, Nat.reduceEqDiff] at h2; subst h2))
          refine ops_op rfl rfl (by decide) (by simp only [evOp, opd, constAV, constCell, Ev.get, reduceIte, Nat.reduceEqDiff, reduceCtorEq, evBin, evInt, evUn, evConvert, evBuiltin, evLen, evField, evPart, tStr, tInt, tElem, tArr, tBool, tAgg, tField, Try.underlying3, Try.underlying4, Try.underlying5, Try.underlying9, Try.underlying26, Try.underlying29, Try.underlying40, Try.underlying45, Try.underlying134, List.zipWith, Option.map_some, Option.map_none, List.length_cons, List.length_nil, ne_eq, Int.reduceEq, not_false_eq_true, and_self, and_true, true_and, evCall, List.size_toArray, List.append_nil, List.nil_append, List.map_cons, List.map_nil, argAV, argCell, w2, w3]; rw [table_miss (by decide), table_hit, whole_eq (by omega)]) (fun h => rfl) ?_
          repeat (first
            | refine runs_seq ?_ | refine runs_block ?_ | refine next_normal ?_ | refine inside_normal ?_ | refine next_exit ?_ | refine inside_exit ?_ | refine inside_other (by decide) ?_ | refine next_ret ?_ | refine inside_ret ?_
            | refine runs_ops_kept ?_ | refine runs_skip ?_ | refine runs_exit ?_ | refine runs_ret ?_
            | refine ops_op rfl rfl (by decide) (by simp only [evOp, opd, constAV, constCell, Ev.get, reduceIte, Nat.reduceEqDiff, reduceCtorEq, evBin, evInt, evUn, evConvert, evBuiltin, evLen, evField, evPart, tStr, tInt, tElem, tArr, tBool, tAgg, tField, Try.underlying3, Try.underlying4, Try.underlying5, Try.underlying9, Try.underlying26, Try.underlying29, Try.underlying40, Try.underlying45, Try.underlying134, List.zipWith, Option.map_some, Option.map_none, List.length_cons, List.length_nil, ne_eq, Int.reduceEq, not_false_eq_true, and_self, and_true, true_and]; rfl) (fun h => rfl) ?_
            | refine ops_yes rfl rfl (by simp only [Ev.get, reduceIte, Nat.reduceEqDiff]; first | done | rfl) rfl (by decide) (by simp only [evOp, opd, constAV, constCell, Ev.get, reduceIte, Nat.reduceEqDiff, reduceCtorEq, evBin, evInt, evUn, evConvert, evBuiltin, evLen, evField, evPart, tStr, tInt, tElem, tArr, tBool, tAgg, tField, Try.underlying3, Try.underlying4, Try.underlying5, Try.underlying9, Try.underlying26, Try.underlying29, Try.underlying40, Try.underlying45, Try.underlying134, List.zipWith, Option.map_some, Option.map_none, List.length_cons, List.length_nil, ne_eq, Int.reduceEq, not_false_eq_true, and_self, and_true, true_and]; rfl) (fun h => rfl) ?_
            | refine ops_no rfl rfl (by simp only [Ev.get, reduceIte, Nat.reduceEqDiff]; first | done | rfl) (by decide) rfl (by decide) ?_
            | (refine ops_nil ?_; intro e2 h2; simp only [restr, kp22, List.map_cons, List.map_nil, Ev.get, reduceIte, Nat.reduceEqDiff] at h2; subst h2))
          exact leaves_v rfl (by simp only [Ev.get, reduceIte, Nat.reduceEqDiff]; congr 2)
    · cases h
  · cases h
end Go.Proofs.Ytbehhlbcffbkoaa.Ev
