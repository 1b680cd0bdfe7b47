/- Texts of numbers, and of flaws. -/
import Derived.Test.YtojaokhkbmiidaaMbjai1
namespace Go.Proofs.Ytojaokhkbmiidaa.Ev
open Go Go.Proofs
set_option maxRecDepth 10000
set_option maxHeartbeats 8000000
set_option linter.unusedVariables false
set_option linter.unusedSimpArgs false
attribute [local irreducible] Next Inside Runs Ops table
/-! ### digits -/
def decF : Nat → Nat → List Nat → List Nat
  | 0, _, acc => acc
  | f + 1, n, acc => if n / 10 = 0 then (48 + n % 10) :: acc else decF f (n / 10) ((48 + n % 10) :: acc)
theorem decF_app : ∀ (f n : Nat) (acc : List Nat), decF f n acc = decF f n [] ++ acc
  | 0, n, acc => rfl
  | f + 1, n, acc => by
    unfold decF
    split
    · rfl
    · rw [decF_app f _ (_ :: acc), decF_app f _ [_], List.append_assoc]
      rfl
theorem decF_more : ∀ (f n d : Nat) (acc : List Nat), n < 10 ^ f → 0 < f → decF (f + d) n acc = decF f n acc
  | 0, n, d, acc, h, h0 => by omega
  | 1, n, d, acc, h, _ => by
    have : n / 10 = 0 := by omega
    rw [show 1 + d = d + 1 by omega, decF, decF, if_pos this, if_pos this]
  | f + 2, n, d, acc, h, _ => by
    rw [show f + 2 + d = (f + 1 + d) + 1 by omega, decF, decF]
    split
    · rfl
    · exact decF_more (f + 1) (n / 10) d _ (by rw [Nat.pow_succ] at h; omega) (by omega)
def txt (l : List Nat) : ByteArray := ⟨(l.map UInt8.ofNat).toArray⟩
def dec (n : Nat) : List Nat := decF 20 n []
theorem txt_app (a b : List Nat) : txt a ++ txt b = txt (a ++ b) := by
  unfold txt
  apply ByteArray.ext
  simp
theorem txt_size (l : List Nat) : (txt l).size = l.length := by
  show ((l.map UInt8.ofNat).toArray).size = _
  simp
theorem decF_len : ∀ (f n : Nat) (acc : List Nat), (decF f n acc).length ≤ f + acc.length
  | 0, n, acc => by simp [decF]
  | f + 1, n, acc => by
    unfold decF
    split
    · simp; omega
    · have := decF_len f (n / 10) ((48 + n % 10) :: acc)
      simp at this
      omega
theorem dec_len (n : Nat) : (dec n).length ≤ 20 := by have := decF_len 20 n []; simpa [dec] using this
def ten : ByteArray := ⟨#[48, 49, 50, 51, 52, 53, 54, 55, 56, 57]⟩
theorem ten_at {d : Nat} (h : d < 10) : ten.extract d (d + 1) = txt [48 + d] := by
  rcases (by omega : d = 0 ∨ d = 1 ∨ d = 2 ∨ d = 3 ∨ d = 4 ∨ d = 5 ∨ d = 6 ∨ d = 7 ∨ d = 8 ∨ d = 9) with rfl | rfl | rfl | rfl | rfl | rfl | rfl | rfl | rfl | rfl <;> rfl
def tellL (n : Int) : List Nat := if n < 0 then 45 :: dec n.natAbs else dec n.natAbs
theorem tellL_len (n : Int) : (tellL n).length ≤ 21 := by
  unfold tellL
  have := dec_len n.natAbs
  split <;> simp <;> omega
/-! ### the document's digits -/
def textG : List AV → Mem → Option (AV × Mem)
  | [.v (.int .i64 n)], m => if 0 ≤ n ∧ n ≤ 9223372036854775807 then some (.v (.string (txt (dec n.toNat))), m) else none
  | _, _ => none
theorem textG_eq {n : Nat} {m : Mem} (h : n ≤ 9223372036854775807) : textG [.v (.int .i64 (n : Int))] m = some (.v (.string (txt (dec n))), m) := by
  simp only [textG]
  rw [if_pos ⟨by omega, by omega⟩, Int.toNat_natCast]
theorem tmod10 (n : Nat) : ((n : Int)).tmod 10 = ((n % 10 : Nat) : Int) := rfl
theorem tdiv10 (n : Nat) : ((n : Int)).tdiv 10 = ((n / 10 : Nat) : Int) := rfl
theorem ne10 : (10 : Int) ≠ 0 := by decide
theorem sliceTen {m : Mem} {d : Nat} (h : d < 10) : evSlice Try.prog m 9 (.v (.string ⟨#[48, 49, 50, 51, 52, 53, 54, 55, 56, 57]⟩)) (some (.v (.int .i64 (d : Int)))) (some (.v (.int .i64 ((d + 1 : Nat) : Int)))) none = some (.v (.string (txt [48 + d]))) := by
  rw [slice_str strS (by omega) (show d + 1 ≤ 10 by omega)]
  rw [show (⟨#[48, 49, 50, 51, 52, 53, 54, 55, 56, 57]⟩ : ByteArray).extract d (d + 1) = txt [48 + d] from ten_at h]
def kpText : Nat → Option (List Nat) := fun
  | 0 => some [0]
  | 1 => some [0, 3]
  | 2 => some [0, 3, 4]
  | 3 => some [0, 3, 4, 13]
  | 4 => some [0, 3, 4]
  | 5 => some [0, 3, 4]
  | 6 => some [2]
  | _ => none
theorem text_ok : FunOk Try.prog 44 textG := by
  have hC := table_ok (P := Try.prog) (l := []) table_nil
  refine fun_ok mixed hC Try.func44 rfl kpText false rfl fun args m r h => ?_
  unfold textG at h
  split at h
  · rename_i n
    split at h
    · rename_i hb
      obtain ⟨h0, h1⟩ := hb
      obtain ⟨n, rfl⟩ := Int.eq_ofNat_of_zero_le h0
      rw [Int.toNat_natCast] at h
      simp only [Option.some.injEq] at h
      subst h
      refine ⟨Nat.le_of_ble_eq_true rfl, ?_⟩
      simp only [entry, List.length_cons, List.length_nil, List.range, List.range.loop, List.zip_cons_cons, List.zip_nil_right]
      have w1 : IntKind.i64.wrap (((n % 10 : Nat) : Int) + 1) = ((n % 10 + 1 : Nat) : Int) := next_i64 (by omega)
      have s1 := fun mm => sliceTen (m := mm) (d := n % 10) (by omega)
      repeat (first
        | refine runs_seq ?_ | refine runs_block ?_ | refine next_normal ?_ | refine inside_normal ?_ | refine next_exit ?_ | refine inside_exit ?_ | refine inside_other (by decide) ?_ | refine next_ret ?_ | refine inside_ret ?_
        | refine runs_ops_kept ?_ | refine runs_skip ?_ | refine runs_exit ?_ | refine runs_ret ?_
        | ((first | refine' ops_op rfl rfl (by decide) ?_ ?_ ?_ | refine' ops_yes rfl rfl (by simp only [Ev.get, reduceIte, Nat.reduceEqDiff, szStr, szInt, Option.getD_some, isNil, evStr, tmod10, ne10, w1, s1]; first | done | rfl) rfl (by decide) ?_ ?_ ?_ | refine' ops_op0 rfl rfl ?_ ?_ ?_); rotate_left 2; (focus (simp only [evOp, opd, constAV, constCell, Ev.get, reduceIte, Nat.reduceEqDiff, reduceCtorEq, evBinN, nilCmp, evBin, evInt, evUn, evConvert, evBuiltin, evLen, evField, evPart, tStr, tInt, tElem, tArr, tBool, tAgg, tField, Try.underlying9, Try.underlying3, Try.underlying4, Try.underlying5, Try.underlying21, Try.underlying121, Try.underlying38, Try.underlying25, Try.underlying135, Try.underlying33, Try.underlying2, Try.underlying147, Try.underlying22, Try.underlying56, Try.underlying54, List.zipWith, Option.map_some, Option.map_none, List.length_cons, List.length_nil, ne_eq, Int.reduceEq, not_false_eq_true, and_self, and_true, true_and, szStr, szInt, Option.getD_some, isNil, evStr, evCall, List.size_toArray, List.append_nil, List.nil_append, List.map_cons, List.map_nil, argAV, argCell, List.toList_toArray, fieldTy, tmod10, ne10, w1, s1]; first | done | rfl)); exact (fun h => by first | rfl | (simp at h; done) | exact absurd (Bool.and_eq_true_iff.mp h).2 (by decide)))
        | refine ops_no rfl rfl (by simp only [Ev.get, reduceIte, Nat.reduceEqDiff, szStr, szInt, Option.getD_some, isNil, evStr, tmod10, ne10, w1, s1]; first | done | rfl) (by decide) rfl (by decide) ?_
        | refine ops_off rfl rfl rfl rfl (by decide) ?_
        | (refine ops_nil ?_; intro e2 h2; simp only [restr, kpText, List.map_cons, List.map_nil, Ev.get, reduceIte, Nat.reduceEqDiff] at h2; subst h2))
      refine runs_loop (fun k e m' => ∃ (q f : Nat) (acc : List Nat), q ≤ n ∧ decF (f + 1) q acc = dec n ∧ q < 10 ^ (f + 1) ∧ acc.length + f = 19 ∧ m = m' ∧ k = q ∧
        e = [(0, .v (.int .i64 (q : Int))), (3, .v (.string ⟨#[48, 49, 50, 51, 52, 53, 54, 55, 56, 57]⟩)), (4, .v (.string (txt ((48 + q % 10) :: acc))))]) (k := n) ⟨n, 19, [], Nat.le_refl _, rfl, by omega, rfl, rfl, rfl, rfl⟩ ?_
      rintro k e m' ⟨q, f, acc, hq, hd, hp, hl, rfl, hk, rfl⟩
      repeat (first
        | refine runs_seq ?_ | refine runs_block ?_ | refine next_normal ?_ | refine inside_normal ?_ | refine next_exit ?_ | refine inside_exit ?_ | refine inside_other (by decide) ?_ | refine next_ret ?_ | refine inside_ret ?_
        | refine runs_ops_kept ?_ | refine runs_skip ?_ | refine runs_exit ?_ | refine runs_ret ?_
        | ((first | refine' ops_op rfl rfl (by decide) ?_ ?_ ?_ | refine' ops_yes rfl rfl (by simp only [Ev.get, reduceIte, Nat.reduceEqDiff, szStr, szInt, Option.getD_some, isNil, evStr]; first | done | rfl) rfl (by decide) ?_ ?_ ?_ | refine' ops_op0 rfl rfl ?_ ?_ ?_); rotate_left 2; (focus (simp only [evOp, opd, constAV, constCell, Ev.get, reduceIte, Nat.reduceEqDiff, reduceCtorEq, evBinN, nilCmp, evBin, evInt, evUn, evConvert, evBuiltin, evLen, evField, evPart, tStr, tInt, tElem, tArr, tBool, tAgg, tField, Try.underlying9, Try.underlying3, Try.underlying4, Try.underlying5, Try.underlying21, Try.underlying121, Try.underlying38, Try.underlying25, Try.underlying135, Try.underlying33, Try.underlying2, Try.underlying147, Try.underlying22, Try.underlying56, Try.underlying54, List.zipWith, Option.map_some, Option.map_none, List.length_cons, List.length_nil, ne_eq, Int.reduceEq, not_false_eq_true, and_self, and_true, true_and, szStr, szInt, Option.getD_some, isNil, evStr, evCall, List.size_toArray, List.append_nil, List.nil_append, List.map_cons, List.map_nil, argAV, argCell, List.toList_toArray, fieldTy]; first | done | rfl)); exact (fun h => by first | rfl | (simp at h; done) | exact absurd (Bool.and_eq_true_iff.mp h).2 (by decide)))
        | refine ops_no rfl rfl (by simp only [Ev.get, reduceIte, Nat.reduceEqDiff, szStr, szInt, Option.getD_some, isNil, evStr]; first | done | rfl) (by decide) rfl (by decide) ?_
        | refine ops_off rfl rfl rfl rfl (by decide) ?_
        | (refine ops_nil ?_; intro e2 h2; simp only [restr, kpText, List.map_cons, List.map_nil, Ev.get, reduceIte, Nat.reduceEqDiff] at h2; subst h2))
      refine runs_cond rfl (fun hc => ?_) (fun hc => ?_)
      · have hge := of_decide_eq_true hc
        have h10 : 10 ≤ q := by omega
        cases f with
        | zero => simp at hp; omega
        | succ f =>
          rw [decF, if_neg (by omega)] at hd
          rw [Nat.pow_succ] at hp
          have w0 : IntKind.i64.wrap ((q / 10 : Nat) : Int) = ((q / 10 : Nat) : Int) := i64_wrap (by omega) (by omega)
          have w2 : IntKind.i64.wrap (((q / 10 % 10 : Nat) : Int) + 1) = ((q / 10 % 10 + 1 : Nat) : Int) := next_i64 (by omega)
          have s2 := fun mm => sliceTen (m := mm) (d := q / 10 % 10) (by omega)
          have s3 : (txt [48 + q / 10 % 10]).size + (txt ((48 + q % 10) :: acc)).size ≤ 9223372036854775807 := by rw [txt_size, txt_size]; simp; omega
          have s4 := txt_app [48 + q / 10 % 10] ((48 + q % 10) :: acc)
          repeat (first
            | refine runs_seq ?_ | refine runs_block ?_ | refine next_normal ?_ | refine inside_normal ?_ | refine next_exit ?_ | refine inside_exit ?_ | refine inside_other (by decide) ?_ | refine next_ret ?_ | refine inside_ret ?_
            | refine runs_ops_kept ?_ | refine runs_skip ?_ | refine runs_exit ?_ | refine runs_ret ?_
            | ((first | refine' ops_op rfl rfl (by decide) ?_ ?_ ?_ | refine' ops_yes rfl rfl (by simp only [Ev.get, reduceIte, Nat.reduceEqDiff, szStr, szInt, Option.getD_some, isNil, evStr, tdiv10, tmod10, ne10, w0, w2, s2, s3, s4]; first | done | rfl) rfl (by decide) ?_ ?_ ?_ | refine' ops_op0 rfl rfl ?_ ?_ ?_); rotate_left 2; (focus (simp only [evOp, opd, constAV, constCell, Ev.get, reduceIte, Nat.reduceEqDiff, reduceCtorEq, evBinN, nilCmp, evBin, evInt, evUn, evConvert, evBuiltin, evLen, evField, evPart, tStr, tInt, tElem, tArr, tBool, tAgg, tField, Try.underlying9, Try.underlying3, Try.underlying4, Try.underlying5, Try.underlying21, Try.underlying121, Try.underlying38, Try.underlying25, Try.underlying135, Try.underlying33, Try.underlying2, Try.underlying147, Try.underlying22, Try.underlying56, Try.underlying54, List.zipWith, Option.map_some, Option.map_none, List.length_cons, List.length_nil, ne_eq, Int.reduceEq, not_false_eq_true, and_self, and_true, true_and, szStr, szInt, Option.getD_some, isNil, evStr, evCall, List.size_toArray, List.append_nil, List.nil_append, List.map_cons, List.map_nil, argAV, argCell, List.toList_toArray, fieldTy, tdiv10, tmod10, ne10, w0, w2, s2, s3, s4]; first | done | rfl)); exact (fun h => by first | rfl | (simp at h; done) | exact absurd (Bool.and_eq_true_iff.mp h).2 (by decide)))
            | refine ops_no rfl rfl (by simp only [Ev.get, reduceIte, Nat.reduceEqDiff, szStr, szInt, Option.getD_some, isNil, evStr, tdiv10, tmod10, ne10, w0, w2, s2, s3, s4]; first | done | rfl) (by decide) rfl (by decide) ?_
            | refine ops_off rfl rfl rfl rfl (by decide) ?_
            | (refine ops_nil ?_; intro e2 h2; simp only [restr, kpText, List.map_cons, List.map_nil, Ev.get, reduceIte, Nat.reduceEqDiff] at h2; subst h2))
          exact ⟨q / 10, by omega, q / 10, f, (48 + q % 10) :: acc, by omega, hd, by omega, by simp; omega, rfl, rfl, rfl⟩
      · have hlt := of_decide_eq_false hc
        rw [decF, if_pos (by omega)] at hd
        repeat (first
          | refine runs_seq ?_ | refine runs_block ?_ | refine next_normal ?_ | refine inside_normal ?_ | refine next_exit ?_ | refine inside_exit ?_ | refine inside_other (by decide) ?_ | refine next_ret ?_ | refine inside_ret ?_
          | refine runs_ops_kept ?_ | refine runs_skip ?_ | refine runs_exit ?_ | refine runs_ret ?_
          | ((first | refine' ops_op rfl rfl (by decide) ?_ ?_ ?_ | refine' ops_yes rfl rfl (by simp only [Ev.get, reduceIte, Nat.reduceEqDiff, szStr, szInt, Option.getD_some, isNil, evStr]; first | done | rfl) rfl (by decide) ?_ ?_ ?_ | refine' ops_op0 rfl rfl ?_ ?_ ?_); rotate_left 2; (focus (simp only [evOp, opd, constAV, constCell, Ev.get, reduceIte, Nat.reduceEqDiff, reduceCtorEq, evBinN, nilCmp, evBin, evInt, evUn, evConvert, evBuiltin, evLen, evField, evPart, tStr, tInt, tElem, tArr, tBool, tAgg, tField, Try.underlying9, Try.underlying3, Try.underlying4, Try.underlying5, Try.underlying21, Try.underlying121, Try.underlying38, Try.underlying25, Try.underlying135, Try.underlying33, Try.underlying2, Try.underlying147, Try.underlying22, Try.underlying56, Try.underlying54, List.zipWith, Option.map_some, Option.map_none, List.length_cons, List.length_nil, ne_eq, Int.reduceEq, not_false_eq_true, and_self, and_true, true_and, szStr, szInt, Option.getD_some, isNil, evStr, evCall, List.size_toArray, List.append_nil, List.nil_append, List.map_cons, List.map_nil, argAV, argCell, List.toList_toArray, fieldTy]; first | done | rfl)); exact (fun h => by first | rfl | (simp at h; done) | exact absurd (Bool.and_eq_true_iff.mp h).2 (by decide)))
          | refine ops_no rfl rfl (by simp only [Ev.get, reduceIte, Nat.reduceEqDiff, szStr, szInt, Option.getD_some, isNil, evStr]; first | done | rfl) (by decide) rfl (by decide) ?_
          | refine ops_off rfl rfl rfl rfl (by decide) ?_
          | (refine ops_nil ?_; intro e2 h2; simp only [restr, kpText, List.map_cons, List.map_nil, Ev.get, reduceIte, Nat.reduceEqDiff] at h2; subst h2))
        rw [← hd]
        exact leaves_v rfl rfl
    · cases h
  · cases h
def tellG : List AV → Mem → Option (AV × Mem)
  | [.v (.int .i64 n)], m => if inI n then some (.v (.string (txt (tellL n))), m) else none
  | _, _ => none
theorem tellG_eq {n : Int} {m : Mem} (h : inI n) : tellG [.v (.int .i64 n)] m = some (.v (.string (txt (tellL n))), m) := if_pos h
/-! ### the program's digits -/
def bytesC (l : List Nat) : List AV := l.map fun (b : Nat) => .v (.int .u8 (b : Int))
theorem bytesC_len (l : List Nat) : (bytesC l).length = l.length := List.length_map ..
theorem bytes_of (l : List Nat) : bytesOfCells (bytesC l) = some (l.map UInt8.ofNat) := by
  induction l with
  | nil => rfl
  | cons b l ih =>
    show (bytesOfCells (bytesC l)).map _ = _
    rw [ih]
    rfl
theorem bytesC_refs (l : List Nat) (r : Nat) : (bytesC l).all (refLe r) = true := by
  rw [List.all_eq_true]
  intro x hx
  obtain ⟨b, _, rfl⟩ := List.mem_map.1 hx
  rfl
theorem arrBuf : tArr Try.prog 134 = some (20, 5) := by simp only [tArr, Try.underlying134]
theorem szByte : tSize Try.prog 5 = some 1 := by kernel_rfl
theorem zrBuf : zeroCells Try.prog 134 = some (bytesC (List.replicate 20 0 ++ [])) := by kernel_rfl
theorem zoBuf : (bytesC (List.replicate 20 0 ++ [])).all okCell = true := rfl
theorem znBuf {m : Mem} {l : List Nat} : newVar m m.vars.length (bytesC l) = some (m.push (bytesC l)) := newVar_push (bytesC_refs l _)
theorem putBuf {m : Mem} {p d : Nat} {acc : List Nat} : evStore Try.prog (m.push (bytesC (List.replicate (p + 1) 0 ++ acc))) 5 (.ptr m.vars.length (0 + p * 1)) (.v (.int .u8 (d : Int))) = some (m.push (bytesC (List.replicate p 0 ++ (d :: acc)))) := by
  rw [store_push (cs := [.v (.int .u8 (d : Int))]) rfl szByte (by rw [bytesC_len]; simp <;> omega) rfl]
  have e : splice (bytesC (List.replicate (p + 1) 0 ++ acc)) (0 + p * 1) [.v (.int .u8 (d : Int))] = bytesC (List.replicate p 0 ++ (d :: acc)) := by
    rw [Nat.zero_add, Nat.mul_one]
    simp [splice, bytesC, List.replicate_succ', List.take_append, List.drop_append]
  rw [e]
theorem cutBuf {m : Mem} {p r : Nat} {cs : List AV} (hv : m.var r = some cs) (hl : cs.length = 20) (hp : p < 20) : evSlice Try.prog m 134 (.ptr r 0) (some (.v (.int .i64 (p : Int)))) none none = some (.vs r (0 + p * 1) 1 (20 - p) (20 - p)) := by
  unfold evSlice
  simp only [arrBuf, szByte, evBound, hv]
  rw [if_pos (by omega : (0 : Int) ≤ (p : Int)), Int.toNat_natCast]
  simp only
  by_cases h0 : p = 0
  · subst h0
    rw [if_pos ⟨rfl, by omega, by omega⟩]
  · rw [if_neg (by omega), if_pos ⟨hp, by omega, by omega, by omega⟩]
theorem elBytes' : tElem Try.prog 135 = some 5 := by simp only [tElem, Try.underlying135]
theorem intByte : tInt Try.prog 5 = some .u8 := by simp only [tInt, Try.underlying5]
theorem convBuf {m : Mem} {p : Nat} {acc : List Nat} (h : p + acc.length = 20) : evConvert Try.prog (m.push (bytesC (List.replicate p 0 ++ acc))) 135 9 (.vs m.vars.length (0 + p * 1) 1 (20 - p) (20 - p)) = some (.v (.string (txt acc))) := by
  refine convert_bytes elBytes' strS intByte push_var (by rw [bytesC_len]; simp; omega) ?_
  rw [Nat.zero_add, Nat.mul_one]
  unfold bytesC
  rw [List.map_append, List.drop_append, List.drop_of_length_le (by simp), List.nil_append, List.length_map, List.length_replicate, Nat.sub_self, List.drop_zero, List.take_of_length_le (by simp; omega)]
  exact bytes_of acc
theorem idxBuf {r p : Nat} (h : p < 20) : evIndexAddr Try.prog 134 (.ptr r 0) (.v (.int .i64 (p : Int))) = some (.ptr r (0 + p * 1)) := indexAddr_arr (off := 0) arrBuf szByte h
def digitsG : List AV → Mem → Option (AV × Mem)
  | [.v (.int .u64 n)], m => if 0 ≤ n ∧ n < 18446744073709551616 then some (.v (.string (txt (dec n.toNat))), m) else none
  | _, _ => none
theorem digitsG_eq {n : Nat} {m : Mem} (h : n < 18446744073709551616) : digitsG [.v (.int .u64 (n : Int))] m = some (.v (.string (txt (dec n))), m) := by
  simp only [digitsG]
  rw [if_pos ⟨by omega, by omega⟩, Int.toNat_natCast]
def kpDigits : Nat → Option (List Nat) := fun
  | 0 => some [0]
  | 1 => some [0, 3]
  | 2 => some [0, 3, 4, 16]
  | 6 => some [0, 3, 4, 16]
  | 7 => some [2]
  | _ => some [0, 3, 4]
theorem digits_ok : FunOk Try.prog 97 digitsG := by
  have hC := table_ok (P := Try.prog) (l := []) table_nil
  refine fun_ok mixed hC Try.func97 rfl kpDigits false rfl fun args m r h => ?_
  unfold digitsG at h
  split at h
  · rename_i n
    split at h
    · rename_i hb
      obtain ⟨h0, h1⟩ := hb
      obtain ⟨n, rfl⟩ := Int.eq_ofNat_of_zero_le h0
      rw [Int.toNat_natCast] at h
      simp only [Option.some.injEq] at h
      subst h
      refine ⟨Nat.le_of_ble_eq_true rfl, ?_⟩
      simp only [entry, List.length_cons, List.length_nil, List.range, List.range.loop, List.zip_cons_cons, List.zip_nil_right]
      repeat (first
        | refine runs_seq ?_ | refine runs_block ?_ | refine next_normal ?_ | refine inside_normal ?_ | refine next_exit ?_ | refine inside_exit ?_ | refine inside_other (by decide) ?_ | refine next_ret ?_ | refine inside_ret ?_
        | refine runs_ops_kept ?_ | refine runs_skip ?_ | refine runs_exit ?_ | refine runs_ret ?_
        | ((first | refine' ops_op rfl rfl (by decide) ?_ ?_ ?_ | refine' ops_yes rfl rfl (by simp only [Ev.get, reduceIte, Nat.reduceEqDiff, szStr, szInt, Option.getD_some, isNil, evStr, zrBuf, zoBuf, znBuf]; first | done | rfl) rfl (by decide) ?_ ?_ ?_ | refine' ops_op0 rfl rfl ?_ ?_ ?_); rotate_left 2; (focus (simp only [evOp, opd, constAV, constCell, Ev.get, reduceIte, Nat.reduceEqDiff, reduceCtorEq, evBinN, nilCmp, evBin, evInt, evUn, evConvert, evBuiltin, evLen, evField, evPart, tStr, tInt, tElem, tArr, tBool, tAgg, tField, Try.underlying9, Try.underlying3, Try.underlying4, Try.underlying5, Try.underlying21, Try.underlying121, Try.underlying38, Try.underlying25, Try.underlying135, Try.underlying33, Try.underlying2, Try.underlying147, Try.underlying22, Try.underlying56, Try.underlying54, List.zipWith, Option.map_some, Option.map_none, List.length_cons, List.length_nil, ne_eq, Int.reduceEq, not_false_eq_true, and_self, and_true, true_and, szStr, szInt, Option.getD_some, isNil, evStr, zrBuf, zoBuf, znBuf, evCall, List.size_toArray, List.append_nil, List.nil_append, List.map_cons, List.map_nil, argAV, argCell, List.toList_toArray, fieldTy]; first | done | rfl)); exact (fun h => by first | rfl | (simp at h; done) | exact absurd (Bool.and_eq_true_iff.mp h).2 (by decide)))
        | refine ops_no rfl rfl (by simp only [Ev.get, reduceIte, Nat.reduceEqDiff, szStr, szInt, Option.getD_some, isNil, evStr, zrBuf, zoBuf, znBuf]; first | done | rfl) (by decide) rfl (by decide) ?_
        | refine ops_off rfl rfl rfl rfl (by decide) ?_
        | (refine ops_nil ?_; intro e2 h2; simp only [restr, kpDigits, List.map_cons, List.map_nil, Ev.get, reduceIte, Nat.reduceEqDiff] at h2; subst h2))
      refine runs_loop (fun k e m' => ∃ (p q : Nat) (acc : List Nat) (x16 : AV), p + 1 + acc.length = 20 ∧ decF (p + 1) q acc = dec n ∧ q < 10 ^ (p + 1) ∧ q < 18446744073709551616 ∧ m' = m.push (bytesC (List.replicate (p + 1) 0 ++ acc)) ∧ k = p ∧
        e = [(0, .v (.int .u64 (q : Int))), (3, .ptr m.vars.length 0), (4, .v (.int .i64 ((p + 1 : Nat) : Int))), (16, x16)]) (k := 19) ⟨19, n, [], _, rfl, rfl, by omega, by omega, rfl, rfl, rfl⟩ ?_
      rintro k e m' ⟨p, q, acc, x16, hl, hd, hp, hq, rfl, hk, rfl⟩
      have w1 : IntKind.i64.wrap (((p + 1 : Nat) : Int) - 1) = (p : Int) := by rw [show ((p + 1 : Nat) : Int) - 1 = (p : Int) by omega]; exact i64_wrap (by omega) (by omega)
      have w2 : IntKind.u8.wrap ((q % 10 : Nat) : Int) = ((q % 10 : Nat) : Int) := u8_wrap (by omega)
      have w3 : IntKind.u8.wrap (48 + ((q % 10 : Nat) : Int)) = ((48 + q % 10 : Nat) : Int) := u8_wrap (n := 48 + q % 10) (by omega)
      have w4 : IntKind.u64.wrap ((q / 10 : Nat) : Int) = ((q / 10 : Nat) : Int) := u64_wrap (by omega)
      have s1 := idxBuf (r := m.vars.length) (p := p) (by omega)
      have s2 := putBuf (m := m) (p := p) (d := 48 + q % 10) (acc := acc)
      repeat (first
        | refine runs_seq ?_ | refine runs_block ?_ | refine next_normal ?_ | refine inside_normal ?_ | refine next_exit ?_ | refine inside_exit ?_ | refine inside_other (by decide) ?_ | refine next_ret ?_ | refine inside_ret ?_
        | refine runs_ops_kept ?_ | refine runs_skip ?_ | refine runs_exit ?_ | refine runs_ret ?_
        | ((first | refine' ops_op rfl rfl (by decide) ?_ ?_ ?_ | refine' ops_yes rfl rfl (by simp only [Ev.get, reduceIte, Nat.reduceEqDiff, szStr, szInt, Option.getD_some, isNil, evStr, zrBuf, zoBuf, znBuf, w1, tmod10, ne10, w2, w3, s1, s2, tdiv10, w4]; first | done | rfl) rfl (by decide) ?_ ?_ ?_ | refine' ops_op0 rfl rfl ?_ ?_ ?_); rotate_left 2; (focus (simp only [evOp, opd, constAV, constCell, Ev.get, reduceIte, Nat.reduceEqDiff, reduceCtorEq, evBinN, nilCmp, evBin, evInt, evUn, evConvert, evBuiltin, evLen, evField, evPart, tStr, tInt, tElem, tArr, tBool, tAgg, tField, Try.underlying9, Try.underlying3, Try.underlying4, Try.underlying5, Try.underlying21, Try.underlying121, Try.underlying38, Try.underlying25, Try.underlying135, Try.underlying33, Try.underlying2, Try.underlying147, Try.underlying22, Try.underlying56, Try.underlying54, List.zipWith, Option.map_some, Option.map_none, List.length_cons, List.length_nil, ne_eq, Int.reduceEq, not_false_eq_true, and_self, and_true, true_and, szStr, szInt, Option.getD_some, isNil, evStr, zrBuf, zoBuf, znBuf, evCall, List.size_toArray, List.append_nil, List.nil_append, List.map_cons, List.map_nil, argAV, argCell, List.toList_toArray, fieldTy, w1, tmod10, ne10, w2, w3, s1, s2, tdiv10, w4]; first | done | rfl)); exact (fun h => by first | rfl | (simp at h; done) | exact absurd (Bool.and_eq_true_iff.mp h).2 (by decide)))
        | refine ops_no rfl rfl (by simp only [Ev.get, reduceIte, Nat.reduceEqDiff, szStr, szInt, Option.getD_some, isNil, evStr, zrBuf, zoBuf, znBuf, w1, tmod10, ne10, w2, w3, s1, s2, tdiv10, w4]; first | done | rfl) (by decide) rfl (by decide) ?_
        | refine ops_off rfl rfl rfl rfl (by decide) ?_
        | (refine ops_nil ?_; intro e2 h2; simp only [restr, kpDigits, List.map_cons, List.map_nil, Ev.get, reduceIte, Nat.reduceEqDiff] at h2; subst h2))
      rw [decF] at hd
      refine runs_cond rfl (fun hc => ?_) (fun hc => ?_)
      · have h10 : q / 10 = 0 := by have := eq_of_beq hc; omega
        rw [if_pos h10] at hd
        have s3 := cutBuf (m := m.push (bytesC (List.replicate p 0 ++ ((48 + q % 10) :: acc)))) (p := p) (r := m.vars.length) push_var (by rw [bytesC_len]; simp; omega) (by omega)
        have s4 := convBuf (m := m) (p := p) (acc := (48 + q % 10) :: acc) (by simp; omega)
        repeat (first
          | refine runs_seq ?_ | refine runs_block ?_ | refine next_normal ?_ | refine inside_normal ?_ | refine next_exit ?_ | refine inside_exit ?_ | refine inside_other (by decide) ?_ | refine next_ret ?_ | refine inside_ret ?_
          | refine runs_ops_kept ?_ | refine runs_skip ?_ | refine runs_exit ?_ | refine runs_ret ?_
          | ((first | refine' ops_op rfl rfl (by decide) ?_ ?_ ?_ | refine' ops_yes rfl rfl (by simp only [Ev.get, reduceIte, Nat.reduceEqDiff, szStr, szInt, Option.getD_some, isNil, evStr, zrBuf, zoBuf, znBuf, s3]; first | done | rfl) rfl (by decide) ?_ ?_ ?_ | refine' ops_op0 rfl rfl ?_ ?_ ?_); rotate_left 2; (focus (simp only [evOp, opd, constAV, constCell, Ev.get, reduceIte, Nat.reduceEqDiff, reduceCtorEq, evBinN, nilCmp, evBin, evInt, evUn, evConvert, evBuiltin, evLen, evField, evPart, tStr, tInt, tElem, tArr, tBool, tAgg, tField, Try.underlying9, Try.underlying3, Try.underlying4, Try.underlying5, Try.underlying21, Try.underlying121, Try.underlying38, Try.underlying25, Try.underlying135, Try.underlying33, Try.underlying2, Try.underlying147, Try.underlying22, Try.underlying56, Try.underlying54, List.zipWith, Option.map_some, Option.map_none, List.length_cons, List.length_nil, ne_eq, Int.reduceEq, not_false_eq_true, and_self, and_true, true_and, szStr, szInt, Option.getD_some, isNil, evStr, zrBuf, zoBuf, znBuf, evCall, List.size_toArray, List.append_nil, List.nil_append, List.map_cons, List.map_nil, argAV, argCell, List.toList_toArray, fieldTy, s3]; first | done | rfl)); exact (fun h => by first | rfl | (simp at h; done) | exact absurd (Bool.and_eq_true_iff.mp h).2 (by decide)))
          | refine ops_no rfl rfl (by simp only [Ev.get, reduceIte, Nat.reduceEqDiff, szStr, szInt, Option.getD_some, isNil, evStr, zrBuf, zoBuf, znBuf, s3]; first | done | rfl) (by decide) rfl (by decide) ?_
          | refine ops_off rfl rfl rfl rfl (by decide) ?_
          | (refine ops_nil ?_; intro e2 h2; simp only [restr, kpDigits, List.map_cons, List.map_nil, Ev.get, reduceIte, Nat.reduceEqDiff] at h2; subst h2))
        refine ops_op rfl rfl (by decide) (by simp only [evOp, opd, constAV, constCell, Ev.get, reduceIte, Nat.reduceEqDiff, evBinN, nilCmp]; rw [s4]; rfl) (fun h => by first | rfl | (simp at h; done)) ?_
        repeat (first
          | refine runs_seq ?_ | refine runs_block ?_ | refine next_normal ?_ | refine inside_normal ?_ | refine next_exit ?_ | refine inside_exit ?_ | refine inside_other (by decide) ?_ | refine next_ret ?_ | refine inside_ret ?_
          | refine runs_ops_kept ?_ | refine runs_skip ?_ | refine runs_exit ?_ | refine runs_ret ?_
          | ((first | refine' ops_op rfl rfl (by decide) ?_ ?_ ?_ | refine' ops_yes rfl rfl (by simp only [Ev.get, reduceIte, Nat.reduceEqDiff, szStr, szInt, Option.getD_some, isNil, evStr, zrBuf, zoBuf, znBuf]; first | done | rfl) rfl (by decide) ?_ ?_ ?_ | refine' ops_op0 rfl rfl ?_ ?_ ?_); rotate_left 2; (focus (simp only [evOp, opd, constAV, constCell, Ev.get, reduceIte, Nat.reduceEqDiff, reduceCtorEq, evBinN, nilCmp, evBin, evInt, evUn, evConvert, evBuiltin, evLen, evField, evPart, tStr, tInt, tElem, tArr, tBool, tAgg, tField, Try.underlying9, Try.underlying3, Try.underlying4, Try.underlying5, Try.underlying21, Try.underlying121, Try.underlying38, Try.underlying25, Try.underlying135, Try.underlying33, Try.underlying2, Try.underlying147, Try.underlying22, Try.underlying56, Try.underlying54, List.zipWith, Option.map_some, Option.map_none, List.length_cons, List.length_nil, ne_eq, Int.reduceEq, not_false_eq_true, and_self, and_true, true_and, szStr, szInt, Option.getD_some, isNil, evStr, zrBuf, zoBuf, znBuf, evCall, List.size_toArray, List.append_nil, List.nil_append, List.map_cons, List.map_nil, argAV, argCell, List.toList_toArray, fieldTy]; first | done | rfl)); exact (fun h => by first | rfl | (simp at h; done) | exact absurd (Bool.and_eq_true_iff.mp h).2 (by decide)))
          | refine ops_no rfl rfl (by simp only [Ev.get, reduceIte, Nat.reduceEqDiff, szStr, szInt, Option.getD_some, isNil, evStr, zrBuf, zoBuf, znBuf]; first | done | rfl) (by decide) rfl (by decide) ?_
          | refine ops_off rfl rfl rfl rfl (by decide) ?_
          | (refine ops_nil ?_; intro e2 h2; simp only [restr, kpDigits, List.map_cons, List.map_nil, Ev.get, reduceIte, Nat.reduceEqDiff] at h2; subst h2))
        rw [← hd]
        exact leaves_fin rfl rfl fin_push
      · have h10 : ¬ q / 10 = 0 := fun h => by rw [h] at hc; cases hc
        rw [if_neg h10] at hd
        rw [Nat.pow_succ] at hp
        cases p with
        | zero => simp at hp; omega
        | succ p => 
          repeat (first
            | refine runs_seq ?_ | refine runs_block ?_ | refine next_normal ?_ | refine inside_normal ?_ | refine next_exit ?_ | refine inside_exit ?_ | refine inside_other (by decide) ?_ | refine next_ret ?_ | refine inside_ret ?_
            | refine runs_ops_kept ?_ | refine runs_skip ?_ | refine runs_exit ?_ | refine runs_ret ?_
            | ((first | refine' ops_op rfl rfl (by decide) ?_ ?_ ?_ | refine' ops_yes rfl rfl (by simp only [Ev.get, reduceIte, Nat.reduceEqDiff, szStr, szInt, Option.getD_some, isNil, evStr, zrBuf, zoBuf, znBuf]; first | done | rfl) rfl (by decide) ?_ ?_ ?_ | refine' ops_op0 rfl rfl ?_ ?_ ?_); rotate_left 2; (focus (simp only [evOp, opd, constAV, constCell, Ev.get, reduceIte, Nat.reduceEqDiff, reduceCtorEq, evBinN, nilCmp, evBin, evInt, evUn, evConvert, evBuiltin, evLen, evField, evPart, tStr, tInt, tElem, tArr, tBool, tAgg, tField, Try.underlying9, Try.underlying3, Try.underlying4, Try.underlying5, Try.underlying21, Try.underlying121, Try.underlying38, Try.underlying25, Try.underlying135, Try.underlying33, Try.underlying2, Try.underlying147, Try.underlying22, Try.underlying56, Try.underlying54, List.zipWith, Option.map_some, Option.map_none, List.length_cons, List.length_nil, ne_eq, Int.reduceEq, not_false_eq_true, and_self, and_true, true_and, szStr, szInt, Option.getD_some, isNil, evStr, zrBuf, zoBuf, znBuf, evCall, List.size_toArray, List.append_nil, List.nil_append, List.map_cons, List.map_nil, argAV, argCell, List.toList_toArray, fieldTy]; first | done | rfl)); exact (fun h => by first | rfl | (simp at h; done) | exact absurd (Bool.and_eq_true_iff.mp h).2 (by decide)))
            | refine ops_no rfl rfl (by simp only [Ev.get, reduceIte, Nat.reduceEqDiff, szStr, szInt, Option.getD_some, isNil, evStr, zrBuf, zoBuf, znBuf]; first | done | rfl) (by decide) rfl (by decide) ?_
            | refine ops_off rfl rfl rfl rfl (by decide) ?_
            | (refine ops_nil ?_; intro e2 h2; simp only [restr, kpDigits, List.map_cons, List.map_nil, Ev.get, reduceIte, Nat.reduceEqDiff] at h2; subst h2))
          exact ⟨p, by omega, p, q / 10, _, _, by simp; omega, hd, by omega, by omega, rfl, rfl, rfl⟩
    · cases h
  · cases h
def kpTell : Nat → Option (List Nat) := fun
  | 0 => some [0]
  | 1 => some [0, 4]
  | 2 => some [2]
  | 3 => some [2]
  | _ => none
def tab_tell_ok : List (FuncId × (List AV → Mem → Option (AV × Mem))) := [(97, digitsG)]
theorem tell_ok : FunOk Try.prog 62 tellG := by
  have hC := table_ok (P := Try.prog) (l := tab_tell_ok) (table_more digits_ok table_nil)
  have t1 := fun args mm => table_at (l := tab_tell_ok) (f := 97) (args := args) (m := mm) rfl
  refine fun_ok mixed hC Try.func62 rfl kpTell false rfl fun args m r h => ?_
  unfold tellG at h
  split at h
  · rename_i n
    split at h
    · rename_i hb
      simp only [Option.some.injEq] at h
      subst h
      unfold inI at hb
      refine ⟨Nat.le_of_ble_eq_true rfl, ?_⟩
      simp only [entry, List.length_cons, List.length_nil, List.range, List.range.loop, List.zip_cons_cons, List.zip_nil_right]
      by_cases hn : n < 0
      · have b0 : decide (n < 0) = true := decide_eq_true hn
        have w2 : IntKind.u64.wrap (0 - IntKind.u64.wrap n) = ((n.natAbs : Nat) : Int) := by
          simp only [IntKind.wrap, IntKind.bits, IntKind.signed, IntKind.max]
          simp
          omega
        have f1 := fun mm => digitsG_eq (n := n.natAbs) (m := mm) (by omega)
        have hl := dec_len n.natAbs
        have s3 : ByteArray.size ⟨#[45]⟩ + (txt (dec n.natAbs)).size ≤ 9223372036854775807 := by rw [txt_size]; show 1 + _ ≤ _; omega
        have s4 : (⟨#[45]⟩ : ByteArray) ++ txt (dec n.natAbs) = txt (tellL n) := by
          rw [show (⟨#[45]⟩ : ByteArray) = txt [45] from rfl, txt_app]
          unfold tellL
          rw [if_pos hn]
          rfl
        repeat (first
          | refine runs_seq ?_ | refine runs_block ?_ | refine next_normal ?_ | refine inside_normal ?_ | refine next_exit ?_ | refine inside_exit ?_ | refine inside_other (by decide) ?_ | refine next_ret ?_ | refine inside_ret ?_
          | refine runs_ops_kept ?_ | refine runs_skip ?_ | refine runs_exit ?_ | refine runs_ret ?_
          | ((first | refine' ops_op rfl rfl (by decide) ?_ ?_ ?_ | refine' ops_yes rfl rfl (by simp only [Ev.get, reduceIte, Nat.reduceEqDiff, szStr, szInt, Option.getD_some, isNil, evStr, b0]; first | done | rfl) rfl (by decide) ?_ ?_ ?_ | refine' ops_op0 rfl rfl ?_ ?_ ?_); rotate_left 2; (focus (simp only [evOp, opd, constAV, constCell, Ev.get, reduceIte, Nat.reduceEqDiff, reduceCtorEq, evBinN, nilCmp, evBin, evInt, evUn, evConvert, evBuiltin, evLen, evField, evPart, tStr, tInt, tElem, tArr, tBool, tAgg, tField, Try.underlying9, Try.underlying3, Try.underlying4, Try.underlying5, Try.underlying21, Try.underlying121, Try.underlying38, Try.underlying25, Try.underlying135, Try.underlying33, Try.underlying2, Try.underlying147, Try.underlying22, Try.underlying56, Try.underlying54, List.zipWith, Option.map_some, Option.map_none, List.length_cons, List.length_nil, ne_eq, Int.reduceEq, not_false_eq_true, and_self, and_true, true_and, szStr, szInt, Option.getD_some, isNil, evStr, evCall, List.size_toArray, List.append_nil, List.nil_append, List.map_cons, List.map_nil, argAV, argCell, List.toList_toArray, fieldTy, b0]; first | done | rfl)); exact (fun h => by first | rfl | (simp at h; done) | exact absurd (Bool.and_eq_true_iff.mp h).2 (by decide)))
          | refine ops_no rfl rfl (by simp only [Ev.get, reduceIte, Nat.reduceEqDiff, szStr, szInt, Option.getD_some, isNil, evStr, b0]; first | done | rfl) (by decide) rfl (by decide) ?_
          | refine ops_off rfl rfl rfl rfl (by decide) ?_
          | (refine ops_nil ?_; intro e2 h2; simp only [restr, kpTell, List.map_cons, List.map_nil, Ev.get, reduceIte, Nat.reduceEqDiff] at h2; subst h2))
        refine runs_cond rfl (fun hc => ?_) (fun hc => by cases hc)
        repeat (first
          | refine runs_seq ?_ | refine runs_block ?_ | refine next_normal ?_ | refine inside_normal ?_ | refine next_exit ?_ | refine inside_exit ?_ | refine inside_other (by decide) ?_ | refine next_ret ?_ | refine inside_ret ?_
          | refine runs_ops_kept ?_ | refine runs_skip ?_ | refine runs_exit ?_ | refine runs_ret ?_
          | ((first | refine' ops_op rfl rfl (by decide) ?_ ?_ ?_ | refine' ops_yes rfl rfl (by simp only [Ev.get, reduceIte, Nat.reduceEqDiff, szStr, szInt, Option.getD_some, isNil, evStr, w2, t1, f1, s3, s4]; first | done | rfl) rfl (by decide) ?_ ?_ ?_ | refine' ops_op0 rfl rfl ?_ ?_ ?_); rotate_left 2; (focus (simp only [evOp, opd, constAV, constCell, Ev.get, reduceIte, Nat.reduceEqDiff, reduceCtorEq, evBinN, nilCmp, evBin, evInt, evUn, evConvert, evBuiltin, evLen, evField, evPart, tStr, tInt, tElem, tArr, tBool, tAgg, tField, Try.underlying9, Try.underlying3, Try.underlying4, Try.underlying5, Try.underlying21, Try.underlying121, Try.underlying38, Try.underlying25, Try.underlying135, Try.underlying33, Try.underlying2, Try.underlying147, Try.underlying22, Try.underlying56, Try.underlying54, List.zipWith, Option.map_some, Option.map_none, List.length_cons, List.length_nil, ne_eq, Int.reduceEq, not_false_eq_true, and_self, and_true, true_and, szStr, szInt, Option.getD_some, isNil, evStr, evCall, List.size_toArray, List.append_nil, List.nil_append, List.map_cons, List.map_nil, argAV, argCell, List.toList_toArray, fieldTy, w2, t1, f1, s3, s4]; first | done | rfl)); exact (fun h => by first | rfl | (simp at h; done) | exact absurd (Bool.and_eq_true_iff.mp h).2 (by decide)))
          | refine ops_no rfl rfl (by simp only [Ev.get, reduceIte, Nat.reduceEqDiff, szStr, szInt, Option.getD_some, isNil, evStr, w2, t1, f1, s3, s4]; first | done | rfl) (by decide) rfl (by decide) ?_
          | refine ops_off rfl rfl rfl rfl (by decide) ?_
          | (refine ops_nil ?_; intro e2 h2; simp only [restr, kpTell, List.map_cons, List.map_nil, Ev.get, reduceIte, Nat.reduceEqDiff] at h2; subst h2))
        exact leaves_v rfl rfl
      · have b0 : decide (n < 0) = false := decide_eq_false hn
        obtain ⟨n, rfl⟩ := Int.eq_ofNat_of_zero_le (by omega : 0 ≤ n)
        have w2 : IntKind.u64.wrap (n : Int) = ((n : Nat) : Int) := u64_wrap (by omega)
        have f1 := fun mm => digitsG_eq (n := n) (m := mm) (by omega)
        have e1 : tellL (n : Int) = dec n := by unfold tellL; rw [if_neg hn]; rfl
        rw [e1]
        repeat (first
          | refine runs_seq ?_ | refine runs_block ?_ | refine next_normal ?_ | refine inside_normal ?_ | refine next_exit ?_ | refine inside_exit ?_ | refine inside_other (by decide) ?_ | refine next_ret ?_ | refine inside_ret ?_
          | refine runs_ops_kept ?_ | refine runs_skip ?_ | refine runs_exit ?_ | refine runs_ret ?_
          | ((first | refine' ops_op rfl rfl (by decide) ?_ ?_ ?_ | refine' ops_yes rfl rfl (by simp only [Ev.get, reduceIte, Nat.reduceEqDiff, szStr, szInt, Option.getD_some, isNil, evStr, b0]; first | done | rfl) rfl (by decide) ?_ ?_ ?_ | refine' ops_op0 rfl rfl ?_ ?_ ?_); rotate_left 2; (focus (simp only [evOp, opd, constAV, constCell, Ev.get, reduceIte, Nat.reduceEqDiff, reduceCtorEq, evBinN, nilCmp, evBin, evInt, evUn, evConvert, evBuiltin, evLen, evField, evPart, tStr, tInt, tElem, tArr, tBool, tAgg, tField, Try.underlying9, Try.underlying3, Try.underlying4, Try.underlying5, Try.underlying21, Try.underlying121, Try.underlying38, Try.underlying25, Try.underlying135, Try.underlying33, Try.underlying2, Try.underlying147, Try.underlying22, Try.underlying56, Try.underlying54, List.zipWith, Option.map_some, Option.map_none, List.length_cons, List.length_nil, ne_eq, Int.reduceEq, not_false_eq_true, and_self, and_true, true_and, szStr, szInt, Option.getD_some, isNil, evStr, evCall, List.size_toArray, List.append_nil, List.nil_append, List.map_cons, List.map_nil, argAV, argCell, List.toList_toArray, fieldTy, b0]; first | done | rfl)); exact (fun h => by first | rfl | (simp at h; done) | exact absurd (Bool.and_eq_true_iff.mp h).2 (by decide)))
          | refine ops_no rfl rfl (by simp only [Ev.get, reduceIte, Nat.reduceEqDiff, szStr, szInt, Option.getD_some, isNil, evStr, b0]; first | done | rfl) (by decide) rfl (by decide) ?_
          | refine ops_off rfl rfl rfl rfl (by decide) ?_
          | (refine ops_nil ?_; intro e2 h2; simp only [restr, kpTell, List.map_cons, List.map_nil, Ev.get, reduceIte, Nat.reduceEqDiff] at h2; subst h2))
        refine runs_cond rfl (fun hc => by cases hc) (fun hc => ?_)
        repeat (first
          | refine runs_seq ?_ | refine runs_block ?_ | refine next_normal ?_ | refine inside_normal ?_ | refine next_exit ?_ | refine inside_exit ?_ | refine inside_other (by decide) ?_ | refine next_ret ?_ | refine inside_ret ?_
          | refine runs_ops_kept ?_ | refine runs_skip ?_ | refine runs_exit ?_ | refine runs_ret ?_
          | ((first | refine' ops_op rfl rfl (by decide) ?_ ?_ ?_ | refine' ops_yes rfl rfl (by simp only [Ev.get, reduceIte, Nat.reduceEqDiff, szStr, szInt, Option.getD_some, isNil, evStr, w2, t1, f1]; first | done | rfl) rfl (by decide) ?_ ?_ ?_ | refine' ops_op0 rfl rfl ?_ ?_ ?_); rotate_left 2; (focus (simp only [evOp, opd, constAV, constCell, Ev.get, reduceIte, Nat.reduceEqDiff, reduceCtorEq, evBinN, nilCmp, evBin, evInt, evUn, evConvert, evBuiltin, evLen, evField, evPart, tStr, tInt, tElem, tArr, tBool, tAgg, tField, Try.underlying9, Try.underlying3, Try.underlying4, Try.underlying5, Try.underlying21, Try.underlying121, Try.underlying38, Try.underlying25, Try.underlying135, Try.underlying33, Try.underlying2, Try.underlying147, Try.underlying22, Try.underlying56, Try.underlying54, List.zipWith, Option.map_some, Option.map_none, List.length_cons, List.length_nil, ne_eq, Int.reduceEq, not_false_eq_true, and_self, and_true, true_and, szStr, szInt, Option.getD_some, isNil, evStr, evCall, List.size_toArray, List.append_nil, List.nil_append, List.map_cons, List.map_nil, argAV, argCell, List.toList_toArray, fieldTy, w2, t1, f1]; first | done | rfl)); exact (fun h => by first | rfl | (simp at h; done) | exact absurd (Bool.and_eq_true_iff.mp h).2 (by decide)))
          | refine ops_no rfl rfl (by simp only [Ev.get, reduceIte, Nat.reduceEqDiff, szStr, szInt, Option.getD_some, isNil, evStr, w2, t1, f1]; first | done | rfl) (by decide) rfl (by decide) ?_
          | refine ops_off rfl rfl rfl rfl (by decide) ?_
          | (refine ops_nil ?_; intro e2 h2; simp only [restr, kpTell, List.map_cons, List.map_nil, Ev.get, reduceIte, Nat.reduceEqDiff] at h2; subst h2))
        exact leaves_v rfl rfl
    · cases h
  · cases h
end Go.Proofs.Ytojaokhkbmiidaa.Ev

namespace Go.Proofs.Ytojaokhkbmiidaa.Ev
open Go Go.Proofs
set_option maxRecDepth 10000
set_option maxHeartbeats 8000000
set_option linter.unusedVariables false
set_option linter.unusedSimpArgs false
attribute [local irreducible] Next Inside Runs Ops table
def rwords : List ByteArray := [⟨#[]⟩, ⟨#[115, 116, 101, 112, 115]⟩, ⟨#[101, 112, 111, 99, 104]⟩, ⟨#[119, 101, 105, 103, 104, 116, 115]⟩, ⟨#[109, 101, 116, 114, 105, 99]⟩, ⟨#[103, 114, 111, 117, 112]⟩, ⟨#[112, 104, 97, 115, 101, 115]⟩, ⟨#[110, 97, 109, 101]⟩, ⟨#[108, 101, 110]⟩, ⟨#[115, 117, 109]⟩, ⟨#[102, 114, 111, 122, 101, 110]⟩, ⟨#[115, 101, 116]⟩, ⟨#[99, 117, 114, 118, 101]⟩, ⟨#[117, 110, 105, 116]⟩, ⟨#[115, 116, 111, 112]⟩, ⟨#[112, 108, 97, 116, 101, 97, 117]⟩, ⟨#[107, 101, 101, 112]⟩, ⟨#[101, 109, 97]⟩, ⟨#[115, 119, 97]⟩, ⟨#[101, 118, 97, 108]⟩]
theorem mkRw : evBuild Try.prog 80 [(0, .v (.string ⟨#[]⟩)), (1, .v (.string ⟨#[115, 116, 101, 112, 115]⟩)), (2, .v (.string ⟨#[101, 112, 111, 99, 104]⟩)), (3, .v (.string ⟨#[119, 101, 105, 103, 104, 116, 115]⟩)), (4, .v (.string ⟨#[109, 101, 116, 114, 105, 99]⟩)), (5, .v (.string ⟨#[103, 114, 111, 117, 112]⟩)), (6, .v (.string ⟨#[112, 104, 97, 115, 101, 115]⟩)), (7, .v (.string ⟨#[110, 97, 109, 101]⟩)), (8, .v (.string ⟨#[108, 101, 110]⟩)), (9, .v (.string ⟨#[115, 117, 109]⟩)), (10, .v (.string ⟨#[102, 114, 111, 122, 101, 110]⟩)), (11, .v (.string ⟨#[115, 101, 116]⟩)), (12, .v (.string ⟨#[99, 117, 114, 118, 101]⟩)), (13, .v (.string ⟨#[117, 110, 105, 116]⟩)), (14, .v (.string ⟨#[115, 116, 111, 112]⟩)), (15, .v (.string ⟨#[112, 108, 97, 116, 101, 97, 117]⟩)), (16, .v (.string ⟨#[107, 101, 101, 112]⟩)), (17, .v (.string ⟨#[101, 109, 97]⟩)), (18, .v (.string ⟨#[115, 119, 97]⟩)), (19, .v (.string ⟨#[101, 118, 97, 108]⟩))] = some (.agg (strCells rwords)) := by kernel_rfl
theorem mkRwL : evBuildSlice Try.prog 38 20 [(0, .v (.string ⟨#[]⟩)), (1, .v (.string ⟨#[115, 116, 101, 112, 115]⟩)), (2, .v (.string ⟨#[101, 112, 111, 99, 104]⟩)), (3, .v (.string ⟨#[119, 101, 105, 103, 104, 116, 115]⟩)), (4, .v (.string ⟨#[109, 101, 116, 114, 105, 99]⟩)), (5, .v (.string ⟨#[103, 114, 111, 117, 112]⟩)), (6, .v (.string ⟨#[112, 104, 97, 115, 101, 115]⟩)), (7, .v (.string ⟨#[110, 97, 109, 101]⟩)), (8, .v (.string ⟨#[108, 101, 110]⟩)), (9, .v (.string ⟨#[115, 117, 109]⟩)), (10, .v (.string ⟨#[102, 114, 111, 122, 101, 110]⟩)), (11, .v (.string ⟨#[115, 101, 116]⟩)), (12, .v (.string ⟨#[99, 117, 114, 118, 101]⟩)), (13, .v (.string ⟨#[117, 110, 105, 116]⟩)), (14, .v (.string ⟨#[115, 116, 111, 112]⟩)), (15, .v (.string ⟨#[112, 108, 97, 116, 101, 97, 117]⟩)), (16, .v (.string ⟨#[107, 101, 101, 112]⟩)), (17, .v (.string ⟨#[101, 109, 97]⟩)), (18, .v (.string ⟨#[115, 119, 97]⟩)), (19, .v (.string ⟨#[101, 118, 97, 108]⟩))] = some (.lst .full 1 (rowsS rwords)) := build_rows appStrs rfl rfl (by decide)
def noWords : List ByteArray := [⟨#[]⟩, ⟨#[]⟩, ⟨#[]⟩, ⟨#[]⟩, ⟨#[]⟩, ⟨#[]⟩, ⟨#[]⟩, ⟨#[]⟩, ⟨#[]⟩, ⟨#[]⟩, ⟨#[]⟩, ⟨#[]⟩, ⟨#[]⟩, ⟨#[]⟩, ⟨#[]⟩, ⟨#[]⟩, ⟨#[]⟩, ⟨#[]⟩, ⟨#[]⟩, ⟨#[]⟩]
theorem zrRw : zeroCells Try.prog 80 = some (strCells noWords) := by kernel_rfl
theorem zoRw : (strCells noWords).all okCell = true := rfl
theorem szRw : tSize Try.prog 80 = some 20 := by kernel_rfl
theorem arrRw : tArr Try.prog 80 = some (20, 9) := by simp only [tArr, Try.underlying80]
theorem znRw {m : Mem} : newVar m m.vars.length (strCells noWords) = some (m.push (strCells noWords)) := newVar_push rfl
theorem putRw {m : Mem} : evStore Try.prog (m.push (strCells noWords)) 80 (.ptr m.vars.length 0) (.agg (strCells rwords)) = some (m.push (strCells rwords)) := by
  rw [store_push (cs := strCells rwords) rfl szRw (by decide) rfl]
  rfl
def rword (n : Int) : ByteArray := if 0 ≤ n ∧ n < 20 then rwords.getD n.toNat ⟨#[]⟩ else ⟨#[]⟩
theorem rword_nat {i : Nat} (h : i < 20) : rword (i : Int) = rwords.getD i ⟨#[]⟩ := if_pos ⟨by omega, by omega⟩
theorem rword_size (n : Int) : (rword n).size ≤ 10 := by
  unfold rword
  split
  · rename_i h
    obtain ⟨i, rfl⟩ := Int.eq_ofNat_of_zero_le h.1
    rw [Int.toNat_natCast]
    have : i < 20 := by omega
    clear h
    revert i
    decide
  · decide
theorem cells_at : ∀ {i : Nat}, i < 20 → ((strCells rwords).drop (0 + i * 1)).head? = some (.v (.string (rwords.getD i ⟨#[]⟩))) := by
  intro i hi
  rw [Nat.zero_add, Nat.mul_one]
  unfold strCells
  rw [List.head?_drop, List.getElem?_map, List.getElem?_eq_getElem (show i < rwords.length from hi)]
  simp [List.getD, List.getElem?_eq_getElem (show i < rwords.length from hi)]
def rwordG : List AV → Mem → Option (AV × Mem)
  | [.v (.int .i64 n)], m => some (.v (.string (rword n)), m)
  | _, _ => none
def kpRWord : Nat → Option (List Nat) := fun
  | 0 => some [0]
  | 1 => some [0, 3]
  | 2 => some [0, 3, 10]
  | 3 => some [2]
  | 4 => some [2]
  | _ => none
theorem rword_ok : FunOk Try.prog 27 rwordG := by
  have hC := table_ok (P := Try.prog) (l := []) table_nil
  refine fun_ok mixed hC Try.func27 rfl kpRWord false rfl fun args m r h => ?_
  unfold rwordG at h
  split at h
  · rename_i n
    simp only [Option.some.injEq] at h
    subst h
    refine ⟨Nat.le_of_ble_eq_true rfl, ?_⟩
    simp only [entry, List.length_cons, List.length_nil, List.range, List.range.loop, List.zip_cons_cons, List.zip_nil_right]
    by_cases h0 : n < 0
    · have b0 : decide (n < 0) = true := decide_eq_true h0
      rw [show rword n = ⟨#[]⟩ from if_neg (by omega)]
      repeat (first
        | refine runs_seq ?_ | refine runs_block ?_ | refine next_normal ?_ | refine inside_normal ?_ | refine next_exit ?_ | refine inside_exit ?_ | refine inside_other (by decide) ?_ | refine next_ret ?_ | refine inside_ret ?_
        | refine runs_ops_kept ?_ | refine runs_skip ?_ | refine runs_exit ?_ | refine runs_ret ?_
        | ((first | refine' ops_op rfl rfl (by decide) ?_ ?_ ?_ | refine' ops_yes rfl rfl (by simp only [Ev.get, reduceIte, Nat.reduceEqDiff, szStr, szInt, Option.getD_some, isNil, evStr, mkRw, zrRw, zoRw, znRw, putRw, b0]; first | done | rfl) rfl (by decide) ?_ ?_ ?_ | refine' ops_op0 rfl rfl ?_ ?_ ?_); rotate_left 2; (focus (simp only [evOp, opd, constAV, constCell, Ev.get, reduceIte, Nat.reduceEqDiff, reduceCtorEq, evBinN, nilCmp, evBin, evInt, evUn, evConvert, evBuiltin, evLen, evField, evPart, tStr, tInt, tElem, tArr, tBool, tAgg, tField, Try.underlying9, Try.underlying3, Try.underlying4, Try.underlying5, Try.underlying21, Try.underlying121, Try.underlying38, Try.underlying25, Try.underlying135, Try.underlying33, Try.underlying2, Try.underlying147, Try.underlying22, Try.underlying56, Try.underlying54, List.zipWith, Option.map_some, Option.map_none, List.length_cons, List.length_nil, ne_eq, Int.reduceEq, not_false_eq_true, and_self, and_true, true_and, szStr, szInt, Option.getD_some, isNil, evStr, mkRw, zrRw, zoRw, znRw, putRw, evCall, List.size_toArray, List.append_nil, List.nil_append, List.map_cons, List.map_nil, argAV, argCell, List.toList_toArray, fieldTy, b0]; first | done | rfl)); exact (fun h => by first | rfl | (simp at h; done) | exact absurd (Bool.and_eq_true_iff.mp h).2 (by decide)))
        | refine ops_no rfl rfl (by simp only [Ev.get, reduceIte, Nat.reduceEqDiff, szStr, szInt, Option.getD_some, isNil, evStr, mkRw, zrRw, zoRw, znRw, putRw, b0]; first | done | rfl) (by decide) rfl (by decide) ?_
        | refine ops_off rfl rfl rfl rfl (by decide) ?_
        | (refine ops_nil ?_; intro e2 h2; simp only [restr, kpRWord, List.map_cons, List.map_nil, Ev.get, reduceIte, Nat.reduceEqDiff] at h2; subst h2))
      refine runs_cond rfl (fun hc => ?_) (fun hc => by cases hc)
      repeat (first
        | refine runs_seq ?_ | refine runs_block ?_ | refine next_normal ?_ | refine inside_normal ?_ | refine next_exit ?_ | refine inside_exit ?_ | refine inside_other (by decide) ?_ | refine next_ret ?_ | refine inside_ret ?_
        | refine runs_ops_kept ?_ | refine runs_skip ?_ | refine runs_exit ?_ | refine runs_ret ?_
        | ((first | refine' ops_op rfl rfl (by decide) ?_ ?_ ?_ | refine' ops_yes rfl rfl (by simp only [Ev.get, reduceIte, Nat.reduceEqDiff, szStr, szInt, Option.getD_some, isNil, evStr, mkRw, zrRw, zoRw, znRw, putRw]; first | done | rfl) rfl (by decide) ?_ ?_ ?_ | refine' ops_op0 rfl rfl ?_ ?_ ?_); rotate_left 2; (focus (simp only [evOp, opd, constAV, constCell, Ev.get, reduceIte, Nat.reduceEqDiff, reduceCtorEq, evBinN, nilCmp, evBin, evInt, evUn, evConvert, evBuiltin, evLen, evField, evPart, tStr, tInt, tElem, tArr, tBool, tAgg, tField, Try.underlying9, Try.underlying3, Try.underlying4, Try.underlying5, Try.underlying21, Try.underlying121, Try.underlying38, Try.underlying25, Try.underlying135, Try.underlying33, Try.underlying2, Try.underlying147, Try.underlying22, Try.underlying56, Try.underlying54, List.zipWith, Option.map_some, Option.map_none, List.length_cons, List.length_nil, ne_eq, Int.reduceEq, not_false_eq_true, and_self, and_true, true_and, szStr, szInt, Option.getD_some, isNil, evStr, mkRw, zrRw, zoRw, znRw, putRw, evCall, List.size_toArray, List.append_nil, List.nil_append, List.map_cons, List.map_nil, argAV, argCell, List.toList_toArray, fieldTy]; first | done | rfl)); exact (fun h => by first | rfl | (simp at h; done) | exact absurd (Bool.and_eq_true_iff.mp h).2 (by decide)))
        | refine ops_no rfl rfl (by simp only [Ev.get, reduceIte, Nat.reduceEqDiff, szStr, szInt, Option.getD_some, isNil, evStr, mkRw, zrRw, zoRw, znRw, putRw]; first | done | rfl) (by decide) rfl (by decide) ?_
        | refine ops_off rfl rfl rfl rfl (by decide) ?_
        | (refine ops_nil ?_; intro e2 h2; simp only [restr, kpRWord, List.map_cons, List.map_nil, Ev.get, reduceIte, Nat.reduceEqDiff] at h2; subst h2))
      exact leaves_fin rfl rfl fin_push
    · have b0 : decide (n < 0) = false := decide_eq_false h0
      repeat (first
        | refine runs_seq ?_ | refine runs_block ?_ | refine next_normal ?_ | refine inside_normal ?_ | refine next_exit ?_ | refine inside_exit ?_ | refine inside_other (by decide) ?_ | refine next_ret ?_ | refine inside_ret ?_
        | refine runs_ops_kept ?_ | refine runs_skip ?_ | refine runs_exit ?_ | refine runs_ret ?_
        | ((first | refine' ops_op rfl rfl (by decide) ?_ ?_ ?_ | refine' ops_yes rfl rfl (by simp only [Ev.get, reduceIte, Nat.reduceEqDiff, szStr, szInt, Option.getD_some, isNil, evStr, mkRw, zrRw, zoRw, znRw, putRw, b0]; first | done | rfl) rfl (by decide) ?_ ?_ ?_ | refine' ops_op0 rfl rfl ?_ ?_ ?_); rotate_left 2; (focus (simp only [evOp, opd, constAV, constCell, Ev.get, reduceIte, Nat.reduceEqDiff, reduceCtorEq, evBinN, nilCmp, evBin, evInt, evUn, evConvert, evBuiltin, evLen, evField, evPart, tStr, tInt, tElem, tArr, tBool, tAgg, tField, Try.underlying9, Try.underlying3, Try.underlying4, Try.underlying5, Try.underlying21, Try.underlying121, Try.underlying38, Try.underlying25, Try.underlying135, Try.underlying33, Try.underlying2, Try.underlying147, Try.underlying22, Try.underlying56, Try.underlying54, List.zipWith, Option.map_some, Option.map_none, List.length_cons, List.length_nil, ne_eq, Int.reduceEq, not_false_eq_true, and_self, and_true, true_and, szStr, szInt, Option.getD_some, isNil, evStr, mkRw, zrRw, zoRw, znRw, putRw, evCall, List.size_toArray, List.append_nil, List.nil_append, List.map_cons, List.map_nil, argAV, argCell, List.toList_toArray, fieldTy, b0]; first | done | rfl)); exact (fun h => by first | rfl | (simp at h; done) | exact absurd (Bool.and_eq_true_iff.mp h).2 (by decide)))
        | refine ops_no rfl rfl (by simp only [Ev.get, reduceIte, Nat.reduceEqDiff, szStr, szInt, Option.getD_some, isNil, evStr, mkRw, zrRw, zoRw, znRw, putRw, b0]; first | done | rfl) (by decide) rfl (by decide) ?_
        | refine ops_off rfl rfl rfl rfl (by decide) ?_
        | (refine ops_nil ?_; intro e2 h2; simp only [restr, kpRWord, List.map_cons, List.map_nil, Ev.get, reduceIte, Nat.reduceEqDiff] at h2; subst h2))
      refine runs_cond rfl (fun hc => ?_) (fun hc => ?_)
      · have := of_decide_eq_true hc
        rw [show rword n = ⟨#[]⟩ from if_neg (by omega)]
        repeat (first
          | refine runs_seq ?_ | refine runs_block ?_ | refine next_normal ?_ | refine inside_normal ?_ | refine next_exit ?_ | refine inside_exit ?_ | refine inside_other (by decide) ?_ | refine next_ret ?_ | refine inside_ret ?_
          | refine runs_ops_kept ?_ | refine runs_skip ?_ | refine runs_exit ?_ | refine runs_ret ?_
          | ((first | refine' ops_op rfl rfl (by decide) ?_ ?_ ?_ | refine' ops_yes rfl rfl (by simp only [Ev.get, reduceIte, Nat.reduceEqDiff, szStr, szInt, Option.getD_some, isNil, evStr, mkRw, zrRw, zoRw, znRw, putRw]; first | done | rfl) rfl (by decide) ?_ ?_ ?_ | refine' ops_op0 rfl rfl ?_ ?_ ?_); rotate_left 2; (focus (simp only [evOp, opd, constAV, constCell, Ev.get, reduceIte, Nat.reduceEqDiff, reduceCtorEq, evBinN, nilCmp, evBin, evInt, evUn, evConvert, evBuiltin, evLen, evField, evPart, tStr, tInt, tElem, tArr, tBool, tAgg, tField, Try.underlying9, Try.underlying3, Try.underlying4, Try.underlying5, Try.underlying21, Try.underlying121, Try.underlying38, Try.underlying25, Try.underlying135, Try.underlying33, Try.underlying2, Try.underlying147, Try.underlying22, Try.underlying56, Try.underlying54, List.zipWith, Option.map_some, Option.map_none, List.length_cons, List.length_nil, ne_eq, Int.reduceEq, not_false_eq_true, and_self, and_true, true_and, szStr, szInt, Option.getD_some, isNil, evStr, mkRw, zrRw, zoRw, znRw, putRw, evCall, List.size_toArray, List.append_nil, List.nil_append, List.map_cons, List.map_nil, argAV, argCell, List.toList_toArray, fieldTy]; first | done | rfl)); exact (fun h => by first | rfl | (simp at h; done) | exact absurd (Bool.and_eq_true_iff.mp h).2 (by decide)))
          | refine ops_no rfl rfl (by simp only [Ev.get, reduceIte, Nat.reduceEqDiff, szStr, szInt, Option.getD_some, isNil, evStr, mkRw, zrRw, zoRw, znRw, putRw]; first | done | rfl) (by decide) rfl (by decide) ?_
          | refine ops_off rfl rfl rfl rfl (by decide) ?_
          | (refine ops_nil ?_; intro e2 h2; simp only [restr, kpRWord, List.map_cons, List.map_nil, Ev.get, reduceIte, Nat.reduceEqDiff] at h2; subst h2))
        exact leaves_fin rfl rfl fin_push
      · have h6 := of_decide_eq_false hc
        obtain ⟨i, rfl⟩ := Int.eq_ofNat_of_zero_le (by omega : 0 ≤ n)
        have f1 := indexAddr_arr (P := Try.prog) (kk := .i64) (r := m.vars.length) (off := 0) arrRw szStr (by omega : i < 20)
        have f2 := loadVarS (m := m) (cs := strCells rwords) (off := 0 + i * 1)
        rw [cells_at (by omega : i < 20), ← rword_nat (by omega)] at f2
        repeat (first
          | refine runs_seq ?_ | refine runs_block ?_ | refine next_normal ?_ | refine inside_normal ?_ | refine next_exit ?_ | refine inside_exit ?_ | refine inside_other (by decide) ?_ | refine next_ret ?_ | refine inside_ret ?_
          | refine runs_ops_kept ?_ | refine runs_skip ?_ | refine runs_exit ?_ | refine runs_ret ?_
          | ((first | refine' ops_op rfl rfl (by decide) ?_ ?_ ?_ | refine' ops_yes rfl rfl (by simp only [Ev.get, reduceIte, Nat.reduceEqDiff, szStr, szInt, Option.getD_some, isNil, evStr, mkRw, zrRw, zoRw, znRw, putRw, f1, f2]; first | done | rfl) rfl (by decide) ?_ ?_ ?_ | refine' ops_op0 rfl rfl ?_ ?_ ?_); rotate_left 2; (focus (simp only [evOp, opd, constAV, constCell, Ev.get, reduceIte, Nat.reduceEqDiff, reduceCtorEq, evBinN, nilCmp, evBin, evInt, evUn, evConvert, evBuiltin, evLen, evField, evPart, tStr, tInt, tElem, tArr, tBool, tAgg, tField, Try.underlying9, Try.underlying3, Try.underlying4, Try.underlying5, Try.underlying21, Try.underlying121, Try.underlying38, Try.underlying25, Try.underlying135, Try.underlying33, Try.underlying2, Try.underlying147, Try.underlying22, Try.underlying56, Try.underlying54, List.zipWith, Option.map_some, Option.map_none, List.length_cons, List.length_nil, ne_eq, Int.reduceEq, not_false_eq_true, and_self, and_true, true_and, szStr, szInt, Option.getD_some, isNil, evStr, mkRw, zrRw, zoRw, znRw, putRw, evCall, List.size_toArray, List.append_nil, List.nil_append, List.map_cons, List.map_nil, argAV, argCell, List.toList_toArray, fieldTy, f1, f2]; first | done | rfl)); exact (fun h => by first | rfl | (simp at h; done) | exact absurd (Bool.and_eq_true_iff.mp h).2 (by decide)))
          | refine ops_no rfl rfl (by simp only [Ev.get, reduceIte, Nat.reduceEqDiff, szStr, szInt, Option.getD_some, isNil, evStr, mkRw, zrRw, zoRw, znRw, putRw, f1, f2]; first | done | rfl) (by decide) rfl (by decide) ?_
          | refine ops_off rfl rfl rfl rfl (by decide) ?_
          | (refine ops_nil ?_; intro e2 h2; simp only [restr, kpRWord, List.map_cons, List.map_nil, Ev.get, reduceIte, Nat.reduceEqDiff] at h2; subst h2))
        exact leaves_fin rfl rfl fin_push
  · cases h
def rwordsG : List AV → Mem → Option (AV × Mem)
  | [], m => some (.lst .no 1 (rowsS rwords), m)
  | _, _ => none
def kpRWords : Nat → Option (List Nat) := fun
  | 0 => some []
  | 1 => some [0]
  | _ => none
theorem rwords_ok : FunOk Try.prog 25 rwordsG := by
  have hC := table_ok (P := Try.prog) (l := []) table_nil
  refine fun_ok mixed hC Try.func25 rfl kpRWords false rfl fun args m r h => ?_
  unfold rwordsG at h
  split at h
  · simp only [Option.some.injEq] at h
    subst h
    refine ⟨Nat.le_of_ble_eq_true rfl, ?_⟩
    simp only [entry, List.length_cons, List.length_nil, List.range, List.range.loop, List.zip_cons_cons, List.zip_nil_right]
    repeat (first
      | refine runs_seq ?_ | refine runs_block ?_ | refine next_normal ?_ | refine inside_normal ?_ | refine next_exit ?_ | refine inside_exit ?_ | refine inside_other (by decide) ?_ | refine next_ret ?_ | refine inside_ret ?_
      | refine runs_ops_kept ?_ | refine runs_skip ?_ | refine runs_exit ?_ | refine runs_ret ?_
      | ((first | refine' ops_op rfl rfl (by decide) ?_ ?_ ?_ | refine' ops_yes rfl rfl (by simp only [Ev.get, reduceIte, Nat.reduceEqDiff, szStr, szInt, Option.getD_some, isNil, evStr, mkRwL]; first | done | rfl) rfl (by decide) ?_ ?_ ?_ | refine' ops_op0 rfl rfl ?_ ?_ ?_); rotate_left 2; (focus (simp only [evOp, opd, constAV, constCell, Ev.get, reduceIte, Nat.reduceEqDiff, reduceCtorEq, evBinN, nilCmp, evBin, evInt, evUn, evConvert, evBuiltin, evLen, evField, evPart, tStr, tInt, tElem, tArr, tBool, tAgg, tField, Try.underlying9, Try.underlying3, Try.underlying4, Try.underlying5, Try.underlying21, Try.underlying121, Try.underlying38, Try.underlying25, Try.underlying135, Try.underlying33, Try.underlying2, Try.underlying147, Try.underlying22, Try.underlying56, Try.underlying54, List.zipWith, Option.map_some, Option.map_none, List.length_cons, List.length_nil, ne_eq, Int.reduceEq, not_false_eq_true, and_self, and_true, true_and, szStr, szInt, Option.getD_some, isNil, evStr, mkRwL, evCall, List.size_toArray, List.append_nil, List.nil_append, List.map_cons, List.map_nil, argAV, argCell, List.toList_toArray, fieldTy]; first | done | rfl)); exact (fun h => by first | rfl | (simp at h; done) | exact absurd (Bool.and_eq_true_iff.mp h).2 (by decide)))
      | refine ops_no rfl rfl (by simp only [Ev.get, reduceIte, Nat.reduceEqDiff, szStr, szInt, Option.getD_some, isNil, evStr, mkRwL]; first | done | rfl) (by decide) rfl (by decide) ?_
      | refine ops_off rfl rfl rfl rfl (by decide) ?_
      | (refine ops_nil ?_; intro e2 h2; simp only [restr, kpRWords, List.map_cons, List.map_nil, Ev.get, reduceIte, Nat.reduceEqDiff] at h2; subst h2))
    exact leaves_lst rfl rfl (finMem_self m)
  · cases h
/-! ### the document's texts of numbers -/
theorem dec_split (n : Nat) (h : n < 10 ^ 19) (h10 : n / 10 ≠ 0) : dec n = dec (n / 10) ++ [48 + n % 10] := by
  unfold dec
  have e : decF 20 n [] = decF 19 (n / 10) [48 + n % 10] := by
    rw [show 20 = 19 + 1 from rfl, decF, if_neg h10]
  rw [e, decF_app]
  congr 1
  exact (decF_more 19 (n / 10) 1 [] (by omega) (by omega)).symm
theorem dec_one (n : Nat) (h10 : n / 10 = 0) : dec n = [48 + n % 10] := by
  unfold dec
  rw [show 20 = 19 + 1 from rfl, decF, if_pos h10]
theorem negmod (n : Nat) : (-(n : Int)).tmod 10 = -((n % 10 : Nat) : Int) := by rw [Int.neg_tmod]; rfl
theorem negdiv (n : Nat) : (-(n : Int)).tdiv 10 = -((n / 10 : Nat) : Int) := by rw [Int.neg_tdiv]; rfl
def kpRTell : Nat → Option (List Nat) := fun
  | 0 => some [0]
  | 1 => some [0, 7]
  | 2 => some [2]
  | 3 => some [0, 3]
  | 4 => some [0, 3, 4]
  | 5 => some [0, 5]
  | 6 => some [0, 5, 20]
  | 7 => some [5]
  | 8 => some [2]
  | _ => none
def tab_refTell_ok : List (FuncId × (List AV → Mem → Option (AV × Mem))) := [(44, textG)]
theorem refTell_ok : FunOk Try.prog 28 tellG := by
  have hC := table_ok (P := Try.prog) (l := tab_refTell_ok) (table_more text_ok table_nil)
  have t1 := fun args mm => table_at (l := tab_refTell_ok) (f := 44) (args := args) (m := mm) rfl
  refine fun_ok mixed hC Try.func28 rfl kpRTell false rfl fun args m r h => ?_
  unfold tellG at h
  split at h
  · rename_i n
    split at h
    · rename_i hb
      simp only [Option.some.injEq] at h
      subst h
      unfold inI at hb
      refine ⟨Nat.le_of_ble_eq_true rfl, ?_⟩
      simp only [entry, List.length_cons, List.length_nil, List.range, List.range.loop, List.zip_cons_cons, List.zip_nil_right]
      by_cases hn : n < 0
      · have b0 : decide (n ≥ 0) = false := decide_eq_false (by omega)
        obtain ⟨q, rfl⟩ : ∃ q : Nat, n = -(q : Int) := ⟨n.natAbs, by omega⟩
        have hq : 0 < q := by omega
        have hq2 : q ≤ 9223372036854775808 := by omega
        have e1 : tellL (-(q : Int)) = 45 :: dec q := by unfold tellL; rw [if_pos hn, Int.natAbs_neg, Int.natAbs_natCast]
        rw [e1]
        have w1 : IntKind.i64.wrap (0 - -((q % 10 : Nat) : Int)) = ((q % 10 : Nat) : Int) := by rw [show (0 : Int) - -((q % 10 : Nat) : Int) = ((q % 10 : Nat) : Int) by omega]; exact i64_wrap (by omega) (by omega)
        have w2 : IntKind.i64.wrap (((q % 10 : Nat) : Int) + 1) = ((q % 10 + 1 : Nat) : Int) := next_i64 (by omega)
        have w3 : IntKind.i64.wrap (-((q / 10 : Nat) : Int)) = -((q / 10 : Nat) : Int) := i64_wrap (by omega) (by omega)
        have w4 : IntKind.i64.wrap (0 - -((q / 10 : Nat) : Int)) = ((q / 10 : Nat) : Int) := by rw [show (0 : Int) - -((q / 10 : Nat) : Int) = ((q / 10 : Nat) : Int) by omega]; exact i64_wrap (by omega) (by omega)
        have s1 := fun mm => sliceTen (m := mm) (d := q % 10) (by omega)
        repeat (first
          | refine runs_seq ?_ | refine runs_block ?_ | refine next_normal ?_ | refine inside_normal ?_ | refine next_exit ?_ | refine inside_exit ?_ | refine inside_other (by decide) ?_ | refine next_ret ?_ | refine inside_ret ?_
          | refine runs_ops_kept ?_ | refine runs_skip ?_ | refine runs_exit ?_ | refine runs_ret ?_
          | ((first | refine' ops_op rfl rfl (by decide) ?_ ?_ ?_ | refine' ops_yes rfl rfl (by simp only [Ev.get, reduceIte, Nat.reduceEqDiff, szStr, szInt, Option.getD_some, isNil, evStr, b0]; first | done | rfl) rfl (by decide) ?_ ?_ ?_ | refine' ops_op0 rfl rfl ?_ ?_ ?_); rotate_left 2; (focus (simp only [evOp, opd, constAV, constCell, Ev.get, reduceIte, Nat.reduceEqDiff, reduceCtorEq, evBinN, nilCmp, evBin, evInt, evUn, evConvert, evBuiltin, evLen, evField, evPart, tStr, tInt, tElem, tArr, tBool, tAgg, tField, Try.underlying9, Try.underlying3, Try.underlying4, Try.underlying5, Try.underlying21, Try.underlying121, Try.underlying38, Try.underlying25, Try.underlying135, Try.underlying33, Try.underlying2, Try.underlying147, Try.underlying22, Try.underlying56, Try.underlying54, List.zipWith, Option.map_some, Option.map_none, List.length_cons, List.length_nil, ne_eq, Int.reduceEq, not_false_eq_true, and_self, and_true, true_and, szStr, szInt, Option.getD_some, isNil, evStr, evCall, List.size_toArray, List.append_nil, List.nil_append, List.map_cons, List.map_nil, argAV, argCell, List.toList_toArray, fieldTy, b0]; first | done | rfl)); exact (fun h => by first | rfl | (simp at h; done) | exact absurd (Bool.and_eq_true_iff.mp h).2 (by decide)))
          | refine ops_no rfl rfl (by simp only [Ev.get, reduceIte, Nat.reduceEqDiff, szStr, szInt, Option.getD_some, isNil, evStr, b0]; first | done | rfl) (by decide) rfl (by decide) ?_
          | refine ops_off rfl rfl rfl rfl (by decide) ?_
          | (refine ops_nil ?_; intro e2 h2; simp only [restr, kpRTell, List.map_cons, List.map_nil, Ev.get, reduceIte, Nat.reduceEqDiff] at h2; subst h2))
        refine runs_cond rfl (fun hc => by cases hc) (fun hc => ?_)
        by_cases h10 : q / 10 = 0
        · have b1 : (-((q / 10 : Nat) : Int) != 0) = false := by rw [h10]; rfl
          have s3 : ByteArray.size ⟨#[45]⟩ + (txt [48 + q % 10]).size ≤ 9223372036854775807 := by rw [txt_size]; show 1 + 1 ≤ 9223372036854775807; omega
          have s4 : (⟨#[45]⟩ : ByteArray) ++ txt [48 + q % 10] = txt (45 :: dec q) := by
            rw [show (⟨#[45]⟩ : ByteArray) = txt [45] from rfl, txt_app, dec_one q h10]
            rfl
          repeat (first
            | refine runs_seq ?_ | refine runs_block ?_ | refine next_normal ?_ | refine inside_normal ?_ | refine next_exit ?_ | refine inside_exit ?_ | refine inside_other (by decide) ?_ | refine next_ret ?_ | refine inside_ret ?_
            | refine runs_ops_kept ?_ | refine runs_skip ?_ | refine runs_exit ?_ | refine runs_ret ?_
            | ((first | refine' ops_op rfl rfl (by decide) ?_ ?_ ?_ | refine' ops_yes rfl rfl (by simp only [Ev.get, reduceIte, Nat.reduceEqDiff, szStr, szInt, Option.getD_some, isNil, evStr, negmod, ne10, w1, w2, s1, negdiv, w3, b1]; first | done | rfl) rfl (by decide) ?_ ?_ ?_ | refine' ops_op0 rfl rfl ?_ ?_ ?_); rotate_left 2; (focus (simp only [evOp, opd, constAV, constCell, Ev.get, reduceIte, Nat.reduceEqDiff, reduceCtorEq, evBinN, nilCmp, evBin, evInt, evUn, evConvert, evBuiltin, evLen, evField, evPart, tStr, tInt, tElem, tArr, tBool, tAgg, tField, Try.underlying9, Try.underlying3, Try.underlying4, Try.underlying5, Try.underlying21, Try.underlying121, Try.underlying38, Try.underlying25, Try.underlying135, Try.underlying33, Try.underlying2, Try.underlying147, Try.underlying22, Try.underlying56, Try.underlying54, List.zipWith, Option.map_some, Option.map_none, List.length_cons, List.length_nil, ne_eq, Int.reduceEq, not_false_eq_true, and_self, and_true, true_and, szStr, szInt, Option.getD_some, isNil, evStr, evCall, List.size_toArray, List.append_nil, List.nil_append, List.map_cons, List.map_nil, argAV, argCell, List.toList_toArray, fieldTy, negmod, ne10, w1, w2, s1, negdiv, w3, b1]; first | done | rfl)); exact (fun h => by first | rfl | (simp at h; done) | exact absurd (Bool.and_eq_true_iff.mp h).2 (by decide)))
            | refine ops_no rfl rfl (by simp only [Ev.get, reduceIte, Nat.reduceEqDiff, szStr, szInt, Option.getD_some, isNil, evStr, negmod, ne10, w1, w2, s1, negdiv, w3, b1]; first | done | rfl) (by decide) rfl (by decide) ?_
            | refine ops_off rfl rfl rfl rfl (by decide) ?_
            | (refine ops_nil ?_; intro e2 h2; simp only [restr, kpRTell, List.map_cons, List.map_nil, Ev.get, reduceIte, Nat.reduceEqDiff] at h2; subst h2))
          refine runs_cond rfl (fun hc => by cases hc) (fun hc => ?_)
          repeat (first
            | refine runs_seq ?_ | refine runs_block ?_ | refine next_normal ?_ | refine inside_normal ?_ | refine next_exit ?_ | refine inside_exit ?_ | refine inside_other (by decide) ?_ | refine next_ret ?_ | refine inside_ret ?_
            | refine runs_ops_kept ?_ | refine runs_skip ?_ | refine runs_exit ?_ | refine runs_ret ?_
            | ((first | refine' ops_op rfl rfl (by decide) ?_ ?_ ?_ | refine' ops_yes rfl rfl (by simp only [Ev.get, reduceIte, Nat.reduceEqDiff, szStr, szInt, Option.getD_some, isNil, evStr, s3, s4]; first | done | rfl) rfl (by decide) ?_ ?_ ?_ | refine' ops_op0 rfl rfl ?_ ?_ ?_); rotate_left 2; (focus (simp only [evOp, opd, constAV, constCell, Ev.get, reduceIte, Nat.reduceEqDiff, reduceCtorEq, evBinN, nilCmp, evBin, evInt, evUn, evConvert, evBuiltin, evLen, evField, evPart, tStr, tInt, tElem, tArr, tBool, tAgg, tField, Try.underlying9, Try.underlying3, Try.underlying4, Try.underlying5, Try.underlying21, Try.underlying121, Try.underlying38, Try.underlying25, Try.underlying135, Try.underlying33, Try.underlying2, Try.underlying147, Try.underlying22, Try.underlying56, Try.underlying54, List.zipWith, Option.map_some, Option.map_none, List.length_cons, List.length_nil, ne_eq, Int.reduceEq, not_false_eq_true, and_self, and_true, true_and, szStr, szInt, Option.getD_some, isNil, evStr, evCall, List.size_toArray, List.append_nil, List.nil_append, List.map_cons, List.map_nil, argAV, argCell, List.toList_toArray, fieldTy, s3, s4]; first | done | rfl)); exact (fun h => by first | rfl | (simp at h; done) | exact absurd (Bool.and_eq_true_iff.mp h).2 (by decide)))
            | refine ops_no rfl rfl (by simp only [Ev.get, reduceIte, Nat.reduceEqDiff, szStr, szInt, Option.getD_some, isNil, evStr, s3, s4]; first | done | rfl) (by decide) rfl (by decide) ?_
            | refine ops_off rfl rfl rfl rfl (by decide) ?_
            | (refine ops_nil ?_; intro e2 h2; simp only [restr, kpRTell, List.map_cons, List.map_nil, Ev.get, reduceIte, Nat.reduceEqDiff] at h2; subst h2))
          exact leaves_v rfl rfl
        · have b1 : (-((q / 10 : Nat) : Int) != 0) = true := bne_iff_ne.2 (by omega)
          have f1 := fun mm => textG_eq (n := q / 10) (m := mm) (by omega)
          have hl := dec_len (q / 10)
          have s5 : (txt (dec (q / 10))).size + (txt [48 + q % 10]).size ≤ 9223372036854775807 := by rw [txt_size, txt_size]; simp; omega
          have s6 : txt (dec (q / 10)) ++ txt [48 + q % 10] = txt (dec q) := by rw [txt_app, dec_split q (by omega) h10]
          have hl2 := dec_len q
          have s3 : ByteArray.size ⟨#[45]⟩ + (txt (dec q)).size ≤ 9223372036854775807 := by rw [txt_size]; show 1 + _ ≤ _; omega
          have s4 : (⟨#[45]⟩ : ByteArray) ++ txt (dec q) = txt (45 :: dec q) := by
            rw [show (⟨#[45]⟩ : ByteArray) = txt [45] from rfl, txt_app]
            rfl
          repeat (first
            | refine runs_seq ?_ | refine runs_block ?_ | refine next_normal ?_ | refine inside_normal ?_ | refine next_exit ?_ | refine inside_exit ?_ | refine inside_other (by decide) ?_ | refine next_ret ?_ | refine inside_ret ?_
            | refine runs_ops_kept ?_ | refine runs_skip ?_ | refine runs_exit ?_ | refine runs_ret ?_
            | ((first | refine' ops_op rfl rfl (by decide) ?_ ?_ ?_ | refine' ops_yes rfl rfl (by simp only [Ev.get, reduceIte, Nat.reduceEqDiff, szStr, szInt, Option.getD_some, isNil, evStr, negmod, ne10, w1, w2, s1, negdiv, w3, b1]; first | done | rfl) rfl (by decide) ?_ ?_ ?_ | refine' ops_op0 rfl rfl ?_ ?_ ?_); rotate_left 2; (focus (simp only [evOp, opd, constAV, constCell, Ev.get, reduceIte, Nat.reduceEqDiff, reduceCtorEq, evBinN, nilCmp, evBin, evInt, evUn, evConvert, evBuiltin, evLen, evField, evPart, tStr, tInt, tElem, tArr, tBool, tAgg, tField, Try.underlying9, Try.underlying3, Try.underlying4, Try.underlying5, Try.underlying21, Try.underlying121, Try.underlying38, Try.underlying25, Try.underlying135, Try.underlying33, Try.underlying2, Try.underlying147, Try.underlying22, Try.underlying56, Try.underlying54, List.zipWith, Option.map_some, Option.map_none, List.length_cons, List.length_nil, ne_eq, Int.reduceEq, not_false_eq_true, and_self, and_true, true_and, szStr, szInt, Option.getD_some, isNil, evStr, evCall, List.size_toArray, List.append_nil, List.nil_append, List.map_cons, List.map_nil, argAV, argCell, List.toList_toArray, fieldTy, negmod, ne10, w1, w2, s1, negdiv, w3, b1]; first | done | rfl)); exact (fun h => by first | rfl | (simp at h; done) | exact absurd (Bool.and_eq_true_iff.mp h).2 (by decide)))
            | refine ops_no rfl rfl (by simp only [Ev.get, reduceIte, Nat.reduceEqDiff, szStr, szInt, Option.getD_some, isNil, evStr, negmod, ne10, w1, w2, s1, negdiv, w3, b1]; first | done | rfl) (by decide) rfl (by decide) ?_
            | refine ops_off rfl rfl rfl rfl (by decide) ?_
            | (refine ops_nil ?_; intro e2 h2; simp only [restr, kpRTell, List.map_cons, List.map_nil, Ev.get, reduceIte, Nat.reduceEqDiff] at h2; subst h2))
          refine runs_cond rfl (fun hc => ?_) (fun hc => by cases hc)
          repeat (first
            | refine runs_seq ?_ | refine runs_block ?_ | refine next_normal ?_ | refine inside_normal ?_ | refine next_exit ?_ | refine inside_exit ?_ | refine inside_other (by decide) ?_ | refine next_ret ?_ | refine inside_ret ?_
            | refine runs_ops_kept ?_ | refine runs_skip ?_ | refine runs_exit ?_ | refine runs_ret ?_
            | ((first | refine' ops_op rfl rfl (by decide) ?_ ?_ ?_ | refine' ops_yes rfl rfl (by simp only [Ev.get, reduceIte, Nat.reduceEqDiff, szStr, szInt, Option.getD_some, isNil, evStr, negdiv, ne10, w3, w4, t1, f1, s5, s6, s3, s4]; first | done | rfl) rfl (by decide) ?_ ?_ ?_ | refine' ops_op0 rfl rfl ?_ ?_ ?_); rotate_left 2; (focus (simp only [evOp, opd, constAV, constCell, Ev.get, reduceIte, Nat.reduceEqDiff, reduceCtorEq, evBinN, nilCmp, evBin, evInt, evUn, evConvert, evBuiltin, evLen, evField, evPart, tStr, tInt, tElem, tArr, tBool, tAgg, tField, Try.underlying9, Try.underlying3, Try.underlying4, Try.underlying5, Try.underlying21, Try.underlying121, Try.underlying38, Try.underlying25, Try.underlying135, Try.underlying33, Try.underlying2, Try.underlying147, Try.underlying22, Try.underlying56, Try.underlying54, List.zipWith, Option.map_some, Option.map_none, List.length_cons, List.length_nil, ne_eq, Int.reduceEq, not_false_eq_true, and_self, and_true, true_and, szStr, szInt, Option.getD_some, isNil, evStr, evCall, List.size_toArray, List.append_nil, List.nil_append, List.map_cons, List.map_nil, argAV, argCell, List.toList_toArray, fieldTy, negdiv, ne10, w3, w4, t1, f1, s5, s6, s3, s4]; first | done | rfl)); exact (fun h => by first | rfl | (simp at h; done) | exact absurd (Bool.and_eq_true_iff.mp h).2 (by decide)))
            | refine ops_no rfl rfl (by simp only [Ev.get, reduceIte, Nat.reduceEqDiff, szStr, szInt, Option.getD_some, isNil, evStr, negdiv, ne10, w3, w4, t1, f1, s5, s6, s3, s4]; first | done | rfl) (by decide) rfl (by decide) ?_
            | refine ops_off rfl rfl rfl rfl (by decide) ?_
            | (refine ops_nil ?_; intro e2 h2; simp only [restr, kpRTell, List.map_cons, List.map_nil, Ev.get, reduceIte, Nat.reduceEqDiff] at h2; subst h2))
          exact leaves_v rfl rfl
      · have b0 : decide (n ≥ 0) = true := decide_eq_true (by omega)
        obtain ⟨n, rfl⟩ := Int.eq_ofNat_of_zero_le (by omega : 0 ≤ n)
        have f1 := fun mm => textG_eq (n := n) (m := mm) (by omega)
        have e1 : tellL (n : Int) = dec n := by unfold tellL; rw [if_neg hn]; rfl
        rw [e1]
        repeat (first
          | refine runs_seq ?_ | refine runs_block ?_ | refine next_normal ?_ | refine inside_normal ?_ | refine next_exit ?_ | refine inside_exit ?_ | refine inside_other (by decide) ?_ | refine next_ret ?_ | refine inside_ret ?_
          | refine runs_ops_kept ?_ | refine runs_skip ?_ | refine runs_exit ?_ | refine runs_ret ?_
          | ((first | refine' ops_op rfl rfl (by decide) ?_ ?_ ?_ | refine' ops_yes rfl rfl (by simp only [Ev.get, reduceIte, Nat.reduceEqDiff, szStr, szInt, Option.getD_some, isNil, evStr, b0]; first | done | rfl) rfl (by decide) ?_ ?_ ?_ | refine' ops_op0 rfl rfl ?_ ?_ ?_); rotate_left 2; (focus (simp only [evOp, opd, constAV, constCell, Ev.get, reduceIte, Nat.reduceEqDiff, reduceCtorEq, evBinN, nilCmp, evBin, evInt, evUn, evConvert, evBuiltin, evLen, evField, evPart, tStr, tInt, tElem, tArr, tBool, tAgg, tField, Try.underlying9, Try.underlying3, Try.underlying4, Try.underlying5, Try.underlying21, Try.underlying121, Try.underlying38, Try.underlying25, Try.underlying135, Try.underlying33, Try.underlying2, Try.underlying147, Try.underlying22, Try.underlying56, Try.underlying54, List.zipWith, Option.map_some, Option.map_none, List.length_cons, List.length_nil, ne_eq, Int.reduceEq, not_false_eq_true, and_self, and_true, true_and, szStr, szInt, Option.getD_some, isNil, evStr, evCall, List.size_toArray, List.append_nil, List.nil_append, List.map_cons, List.map_nil, argAV, argCell, List.toList_toArray, fieldTy, b0]; first | done | rfl)); exact (fun h => by first | rfl | (simp at h; done) | exact absurd (Bool.and_eq_true_iff.mp h).2 (by decide)))
          | refine ops_no rfl rfl (by simp only [Ev.get, reduceIte, Nat.reduceEqDiff, szStr, szInt, Option.getD_some, isNil, evStr, b0]; first | done | rfl) (by decide) rfl (by decide) ?_
          | refine ops_off rfl rfl rfl rfl (by decide) ?_
          | (refine ops_nil ?_; intro e2 h2; simp only [restr, kpRTell, List.map_cons, List.map_nil, Ev.get, reduceIte, Nat.reduceEqDiff] at h2; subst h2))
        refine runs_cond rfl (fun hc => ?_) (fun hc => by cases hc)
        repeat (first
          | refine runs_seq ?_ | refine runs_block ?_ | refine next_normal ?_ | refine inside_normal ?_ | refine next_exit ?_ | refine inside_exit ?_ | refine inside_other (by decide) ?_ | refine next_ret ?_ | refine inside_ret ?_
          | refine runs_ops_kept ?_ | refine runs_skip ?_ | refine runs_exit ?_ | refine runs_ret ?_
          | ((first | refine' ops_op rfl rfl (by decide) ?_ ?_ ?_ | refine' ops_yes rfl rfl (by simp only [Ev.get, reduceIte, Nat.reduceEqDiff, szStr, szInt, Option.getD_some, isNil, evStr, t1, f1]; first | done | rfl) rfl (by decide) ?_ ?_ ?_ | refine' ops_op0 rfl rfl ?_ ?_ ?_); rotate_left 2; (focus (simp only [evOp, opd, constAV, constCell, Ev.get, reduceIte, Nat.reduceEqDiff, reduceCtorEq, evBinN, nilCmp, evBin, evInt, evUn, evConvert, evBuiltin, evLen, evField, evPart, tStr, tInt, tElem, tArr, tBool, tAgg, tField, Try.underlying9, Try.underlying3, Try.underlying4, Try.underlying5, Try.underlying21, Try.underlying121, Try.underlying38, Try.underlying25, Try.underlying135, Try.underlying33, Try.underlying2, Try.underlying147, Try.underlying22, Try.underlying56, Try.underlying54, List.zipWith, Option.map_some, Option.map_none, List.length_cons, List.length_nil, ne_eq, Int.reduceEq, not_false_eq_true, and_self, and_true, true_and, szStr, szInt, Option.getD_some, isNil, evStr, evCall, List.size_toArray, List.append_nil, List.nil_append, List.map_cons, List.map_nil, argAV, argCell, List.toList_toArray, fieldTy, t1, f1]; first | done | rfl)); exact (fun h => by first | rfl | (simp at h; done) | exact absurd (Bool.and_eq_true_iff.mp h).2 (by decide)))
          | refine ops_no rfl rfl (by simp only [Ev.get, reduceIte, Nat.reduceEqDiff, szStr, szInt, Option.getD_some, isNil, evStr, t1, f1]; first | done | rfl) (by decide) rfl (by decide) ?_
          | refine ops_off rfl rfl rfl rfl (by decide) ?_
          | (refine ops_nil ?_; intro e2 h2; simp only [restr, kpRTell, List.map_cons, List.map_nil, Ev.get, reduceIte, Nat.reduceEqDiff] at h2; subst h2))
        exact leaves_v rfl rfl
    · cases h
  · cases h
/-! ### lines -/
def lineB (f : Fl) : ByteArray := (if rword f.rule = ⟨#[]⟩ then ⟨#[63]⟩ else rword f.rule) ++ ⟨#[32]⟩ ++ txt (tellL f.item) ++ ⟨#[32]⟩ ++ txt (tellL f.part)
def Fl.ok (f : Fl) : Prop := inI f.rule ∧ inI f.item ∧ inI f.part
instance (f : Fl) : Decidable f.ok := by unfold Fl.ok; exact inferInstance
def lineG : List AV → Mem → Option (AV × Mem)
  | [.agg cs], m =>
    match unFl cs with
    | some f => if f.ok then some (.v (.string (lineB f)), m) else none
    | none => none
  | _, _ => none
theorem lineG_eq {f : Fl} {m : Mem} (h : f.ok) : lineG [.agg f.row] m = some (.v (.string (lineB f)), m) := by
  simp only [lineG, unFl_row]
  rw [if_pos h]
theorem size_app (a b : ByteArray) : (a ++ b).size = a.size + b.size := ByteArray.size_append
def kpLine : Nat → Option (List Nat) := fun
  | 0 => some [1]
  | 1 => some [1, 3]
  | 2 => some [1, 3, 8]
  | 3 => some [1, 3]
  | 4 => some [2]
  | _ => none
def tab_line_ok : List (FuncId × (List AV → Mem → Option (AV × Mem))) := [(27, rwordG), (62, tellG)]
theorem line_ok : FunOk Try.prog 43 lineG := by
  have hC := table_ok (P := Try.prog) (l := tab_line_ok) (table_more rword_ok (table_more tell_ok table_nil))
  have t1 := fun args mm => table_at (l := tab_line_ok) (f := 27) (args := args) (m := mm) rfl
  have t2 := fun args mm => table_at (l := tab_line_ok) (f := 62) (args := args) (m := mm) rfl
  refine fun_ok mixed hC Try.func43 rfl kpLine false rfl fun args m r h => ?_
  unfold lineG at h
  split at h
  · rename_i cs
    split at h
    · rename_i f hf
      obtain rfl := unFl_some hf
      split at h
      · rename_i hok
        simp only [Option.some.injEq] at h
        subst h
        refine ⟨Nat.le_of_ble_eq_true rfl, ?_⟩
        simp only [entry, List.length_cons, List.length_nil, List.range, List.range.loop, List.zip_cons_cons, List.zip_nil_right]
        have hv : (m.push f.row).var m.vars.length = some f.row := push_var
        have a1 := lpFlRule hv
        have a2 := lpFlItem hv
        have a3 := lpFlPart hv
        have c1 : ∀ mm, rwordG [.v (.int .i64 f.rule)] mm = some (.v (.string (rword f.rule)), mm) := fun _ => rfl
        have c2 := fun mm => tellG_eq (m := mm) hok.2.1
        have c3 := fun mm => tellG_eq (m := mm) hok.2.2
        have z1 := rword_size f.rule
        have z2 := tellL_len f.item
        have z3 := tellL_len f.part
        have two : ∀ (w : ByteArray), w.size ≤ 10 → w ++ ⟨#[32]⟩ ++ txt (tellL f.item) ++ ⟨#[32]⟩ ++ txt (tellL f.part) = lineB f →
            w.size + ByteArray.size ⟨#[32]⟩ ≤ 9223372036854775807 ∧ (w ++ ⟨#[32]⟩).size + (txt (tellL f.item)).size ≤ 9223372036854775807 ∧ (w ++ ⟨#[32]⟩ ++ txt (tellL f.item)).size + ByteArray.size ⟨#[32]⟩ ≤ 9223372036854775807 ∧ (w ++ ⟨#[32]⟩ ++ txt (tellL f.item) ++ ⟨#[32]⟩).size + (txt (tellL f.part)).size ≤ 9223372036854775807 := fun w hw _ => by
          simp only [size_app, txt_size]
          have : ByteArray.size ⟨#[32]⟩ = 1 := rfl
          omega
        by_cases he : rword f.rule = ⟨#[]⟩
        · have b1 : (rword f.rule == ⟨#[]⟩) = true := bytes_same.2 he
          have hL : (⟨#[63]⟩ : ByteArray) ++ ⟨#[32]⟩ ++ txt (tellL f.item) ++ ⟨#[32]⟩ ++ txt (tellL f.part) = lineB f := by unfold lineB; rw [if_pos he]
          obtain ⟨s1, s2, s3, s4⟩ := two ⟨#[63]⟩ (by decide) hL
          repeat (first
            | refine runs_seq ?_ | refine runs_block ?_ | refine next_normal ?_ | refine inside_normal ?_ | refine next_exit ?_ | refine inside_exit ?_ | refine inside_other (by decide) ?_ | refine next_ret ?_ | refine inside_ret ?_
            | refine runs_ops_kept ?_ | refine runs_skip ?_ | refine runs_exit ?_ | refine runs_ret ?_
            | ((first | refine' ops_op rfl rfl (by decide) ?_ ?_ ?_ | refine' ops_yes rfl rfl (by simp only [Ev.get, reduceIte, Nat.reduceEqDiff, szStr, szInt, Option.getD_some, isNil, evStr, iv, fpFlRule, fpFlItem, fpFlPart, cellsFl, newFl, mapFl, a1, t1, c1, b1]; first | done | rfl) rfl (by decide) ?_ ?_ ?_ | refine' ops_op0 rfl rfl ?_ ?_ ?_); rotate_left 2; (focus (simp only [evOp, opd, constAV, constCell, Ev.get, reduceIte, Nat.reduceEqDiff, reduceCtorEq, evBinN, nilCmp, evBin, evInt, evUn, evConvert, evBuiltin, evLen, evField, evPart, tStr, tInt, tElem, tArr, tBool, tAgg, tField, Try.underlying9, Try.underlying3, Try.underlying4, Try.underlying5, Try.underlying21, Try.underlying121, Try.underlying38, Try.underlying25, Try.underlying135, Try.underlying33, Try.underlying2, Try.underlying147, Try.underlying22, Try.underlying56, Try.underlying54, List.zipWith, Option.map_some, Option.map_none, List.length_cons, List.length_nil, ne_eq, Int.reduceEq, not_false_eq_true, and_self, and_true, true_and, szStr, szInt, Option.getD_some, isNil, evStr, iv, fpFlRule, fpFlItem, fpFlPart, cellsFl, newFl, mapFl, evCall, List.size_toArray, List.append_nil, List.nil_append, List.map_cons, List.map_nil, argAV, argCell, List.toList_toArray, fieldTy, a1, t1, c1, b1]; first | done | rfl)); exact (fun h => by first | rfl | (simp at h; done) | exact absurd (Bool.and_eq_true_iff.mp h).2 (by decide)))
            | refine ops_no rfl rfl (by simp only [Ev.get, reduceIte, Nat.reduceEqDiff, szStr, szInt, Option.getD_some, isNil, evStr, iv, fpFlRule, fpFlItem, fpFlPart, cellsFl, newFl, mapFl, a1, t1, c1, b1]; first | done | rfl) (by decide) rfl (by decide) ?_
            | refine ops_off rfl rfl rfl rfl (by decide) ?_
            | (refine ops_nil ?_; intro e2 h2; simp only [restr, kpLine, List.map_cons, List.map_nil, Ev.get, reduceIte, Nat.reduceEqDiff] at h2; subst h2))
          refine runs_cond rfl (fun hc => ?_) (fun hc => by cases hc)
          repeat (first
            | refine runs_seq ?_ | refine runs_block ?_ | refine next_normal ?_ | refine inside_normal ?_ | refine next_exit ?_ | refine inside_exit ?_ | refine inside_other (by decide) ?_ | refine next_ret ?_ | refine inside_ret ?_
            | refine runs_ops_kept ?_ | refine runs_skip ?_ | refine runs_exit ?_ | refine runs_ret ?_
            | ((first | refine' ops_op rfl rfl (by decide) ?_ ?_ ?_ | refine' ops_yes rfl rfl (by simp only [Ev.get, reduceIte, Nat.reduceEqDiff, szStr, szInt, Option.getD_some, isNil, evStr, iv, fpFlRule, fpFlItem, fpFlPart, cellsFl, newFl, mapFl]; first | done | rfl) rfl (by decide) ?_ ?_ ?_ | refine' ops_op0 rfl rfl ?_ ?_ ?_); rotate_left 2; (focus (simp only [evOp, opd, constAV, constCell, Ev.get, reduceIte, Nat.reduceEqDiff, reduceCtorEq, evBinN, nilCmp, evBin, evInt, evUn, evConvert, evBuiltin, evLen, evField, evPart, tStr, tInt, tElem, tArr, tBool, tAgg, tField, Try.underlying9, Try.underlying3, Try.underlying4, Try.underlying5, Try.underlying21, Try.underlying121, Try.underlying38, Try.underlying25, Try.underlying135, Try.underlying33, Try.underlying2, Try.underlying147, Try.underlying22, Try.underlying56, Try.underlying54, List.zipWith, Option.map_some, Option.map_none, List.length_cons, List.length_nil, ne_eq, Int.reduceEq, not_false_eq_true, and_self, and_true, true_and, szStr, szInt, Option.getD_some, isNil, evStr, iv, fpFlRule, fpFlItem, fpFlPart, cellsFl, newFl, mapFl, evCall, List.size_toArray, List.append_nil, List.nil_append, List.map_cons, List.map_nil, argAV, argCell, List.toList_toArray, fieldTy]; first | done | rfl)); exact (fun h => by first | rfl | (simp at h; done) | exact absurd (Bool.and_eq_true_iff.mp h).2 (by decide)))
            | refine ops_no rfl rfl (by simp only [Ev.get, reduceIte, Nat.reduceEqDiff, szStr, szInt, Option.getD_some, isNil, evStr, iv, fpFlRule, fpFlItem, fpFlPart, cellsFl, newFl, mapFl]; first | done | rfl) (by decide) rfl (by decide) ?_
            | refine ops_off rfl rfl rfl rfl (by decide) ?_
            | (refine ops_nil ?_; intro e2 h2; simp only [restr, kpLine, List.map_cons, List.map_nil, Ev.get, reduceIte, Nat.reduceEqDiff] at h2; subst h2))
          refine runs_ops_drawn_kept (by kernel_rfl) ?_
          repeat (first
            | refine runs_seq ?_ | refine runs_block ?_ | refine next_normal ?_ | refine inside_normal ?_ | refine next_exit ?_ | refine inside_exit ?_ | refine inside_other (by decide) ?_ | refine next_ret ?_ | refine inside_ret ?_
            | refine runs_ops_kept ?_ | refine runs_skip ?_ | refine runs_exit ?_ | refine runs_ret ?_
            | ((first | refine' ops_op rfl rfl (by decide) ?_ ?_ ?_ | refine' ops_yes rfl rfl (by simp only [Ev.get, reduceIte, Nat.reduceEqDiff, szStr, szInt, Option.getD_some, isNil, evStr, iv, fpFlRule, fpFlItem, fpFlPart, cellsFl, newFl, mapFl, a2, a3, t2, c2, c3, s1, s2, s3, s4, hL]; first | done | rfl) rfl (by decide) ?_ ?_ ?_ | refine' ops_op0 rfl rfl ?_ ?_ ?_); rotate_left 2; (focus (simp only [evOp, opd, constAV, constCell, Ev.get, reduceIte, Nat.reduceEqDiff, reduceCtorEq, evBinN, nilCmp, evBin, evInt, evUn, evConvert, evBuiltin, evLen, evField, evPart, tStr, tInt, tElem, tArr, tBool, tAgg, tField, Try.underlying9, Try.underlying3, Try.underlying4, Try.underlying5, Try.underlying21, Try.underlying121, Try.underlying38, Try.underlying25, Try.underlying135, Try.underlying33, Try.underlying2, Try.underlying147, Try.underlying22, Try.underlying56, Try.underlying54, List.zipWith, Option.map_some, Option.map_none, List.length_cons, List.length_nil, ne_eq, Int.reduceEq, not_false_eq_true, and_self, and_true, true_and, szStr, szInt, Option.getD_some, isNil, evStr, iv, fpFlRule, fpFlItem, fpFlPart, cellsFl, newFl, mapFl, evCall, List.size_toArray, List.append_nil, List.nil_append, List.map_cons, List.map_nil, argAV, argCell, List.toList_toArray, fieldTy, a2, a3, t2, c2, c3, s1, s2, s3, s4, hL]; first | done | rfl)); exact (fun h => by first | rfl | (simp at h; done) | exact absurd (Bool.and_eq_true_iff.mp h).2 (by decide)))
            | refine ops_no rfl rfl (by simp only [Ev.get, reduceIte, Nat.reduceEqDiff, szStr, szInt, Option.getD_some, isNil, evStr, iv, fpFlRule, fpFlItem, fpFlPart, cellsFl, newFl, mapFl, a2, a3, t2, c2, c3, s1, s2, s3, s4, hL]; first | done | rfl) (by decide) rfl (by decide) ?_
            | refine ops_off rfl rfl rfl rfl (by decide) ?_
            | (refine ops_nil ?_; intro e2 h2; simp only [restr, kpLine, List.map_cons, List.map_nil, Ev.get, reduceIte, Nat.reduceEqDiff] at h2; subst h2))
          exact leaves_fin rfl rfl fin_push
        · have b1 : (rword f.rule == ⟨#[]⟩) = false := bytes_not.2 he
          have hL : rword f.rule ++ ⟨#[32]⟩ ++ txt (tellL f.item) ++ ⟨#[32]⟩ ++ txt (tellL f.part) = lineB f := by unfold lineB; rw [if_neg he]
          obtain ⟨s1, s2, s3, s4⟩ := two (rword f.rule) z1 hL
          repeat (first
            | refine runs_seq ?_ | refine runs_block ?_ | refine next_normal ?_ | refine inside_normal ?_ | refine next_exit ?_ | refine inside_exit ?_ | refine inside_other (by decide) ?_ | refine next_ret ?_ | refine inside_ret ?_
            | refine runs_ops_kept ?_ | refine runs_skip ?_ | refine runs_exit ?_ | refine runs_ret ?_
            | ((first | refine' ops_op rfl rfl (by decide) ?_ ?_ ?_ | refine' ops_yes rfl rfl (by simp only [Ev.get, reduceIte, Nat.reduceEqDiff, szStr, szInt, Option.getD_some, isNil, evStr, iv, fpFlRule, fpFlItem, fpFlPart, cellsFl, newFl, mapFl, a1, t1, c1, b1]; first | done | rfl) rfl (by decide) ?_ ?_ ?_ | refine' ops_op0 rfl rfl ?_ ?_ ?_); rotate_left 2; (focus (simp only [evOp, opd, constAV, constCell, Ev.get, reduceIte, Nat.reduceEqDiff, reduceCtorEq, evBinN, nilCmp, evBin, evInt, evUn, evConvert, evBuiltin, evLen, evField, evPart, tStr, tInt, tElem, tArr, tBool, tAgg, tField, Try.underlying9, Try.underlying3, Try.underlying4, Try.underlying5, Try.underlying21, Try.underlying121, Try.underlying38, Try.underlying25, Try.underlying135, Try.underlying33, Try.underlying2, Try.underlying147, Try.underlying22, Try.underlying56, Try.underlying54, List.zipWith, Option.map_some, Option.map_none, List.length_cons, List.length_nil, ne_eq, Int.reduceEq, not_false_eq_true, and_self, and_true, true_and, szStr, szInt, Option.getD_some, isNil, evStr, iv, fpFlRule, fpFlItem, fpFlPart, cellsFl, newFl, mapFl, evCall, List.size_toArray, List.append_nil, List.nil_append, List.map_cons, List.map_nil, argAV, argCell, List.toList_toArray, fieldTy, a1, t1, c1, b1]; first | done | rfl)); exact (fun h => by first | rfl | (simp at h; done) | exact absurd (Bool.and_eq_true_iff.mp h).2 (by decide)))
            | refine ops_no rfl rfl (by simp only [Ev.get, reduceIte, Nat.reduceEqDiff, szStr, szInt, Option.getD_some, isNil, evStr, iv, fpFlRule, fpFlItem, fpFlPart, cellsFl, newFl, mapFl, a1, t1, c1, b1]; first | done | rfl) (by decide) rfl (by decide) ?_
            | refine ops_off rfl rfl rfl rfl (by decide) ?_
            | (refine ops_nil ?_; intro e2 h2; simp only [restr, kpLine, List.map_cons, List.map_nil, Ev.get, reduceIte, Nat.reduceEqDiff] at h2; subst h2))
          refine runs_cond rfl (fun hc => by cases hc) (fun hc => ?_)
          repeat (first
            | refine runs_seq ?_ | refine runs_block ?_ | refine next_normal ?_ | refine inside_normal ?_ | refine next_exit ?_ | refine inside_exit ?_ | refine inside_other (by decide) ?_ | refine next_ret ?_ | refine inside_ret ?_
            | refine runs_ops_kept ?_ | refine runs_skip ?_ | refine runs_exit ?_ | refine runs_ret ?_
            | ((first | refine' ops_op rfl rfl (by decide) ?_ ?_ ?_ | refine' ops_yes rfl rfl (by simp only [Ev.get, reduceIte, Nat.reduceEqDiff, szStr, szInt, Option.getD_some, isNil, evStr, iv, fpFlRule, fpFlItem, fpFlPart, cellsFl, newFl, mapFl]; first | done | rfl) rfl (by decide) ?_ ?_ ?_ | refine' ops_op0 rfl rfl ?_ ?_ ?_); rotate_left 2; (focus (simp only [evOp, opd, constAV, constCell, Ev.get, reduceIte, Nat.reduceEqDiff, reduceCtorEq, evBinN, nilCmp, evBin, evInt, evUn, evConvert, evBuiltin, evLen, evField, evPart, tStr, tInt, tElem, tArr, tBool, tAgg, tField, Try.underlying9, Try.underlying3, Try.underlying4, Try.underlying5, Try.underlying21, Try.underlying121, Try.underlying38, Try.underlying25, Try.underlying135, Try.underlying33, Try.underlying2, Try.underlying147, Try.underlying22, Try.underlying56, Try.underlying54, List.zipWith, Option.map_some, Option.map_none, List.length_cons, List.length_nil, ne_eq, Int.reduceEq, not_false_eq_true, and_self, and_true, true_and, szStr, szInt, Option.getD_some, isNil, evStr, iv, fpFlRule, fpFlItem, fpFlPart, cellsFl, newFl, mapFl, evCall, List.size_toArray, List.append_nil, List.nil_append, List.map_cons, List.map_nil, argAV, argCell, List.toList_toArray, fieldTy]; first | done | rfl)); exact (fun h => by first | rfl | (simp at h; done) | exact absurd (Bool.and_eq_true_iff.mp h).2 (by decide)))
            | refine ops_no rfl rfl (by simp only [Ev.get, reduceIte, Nat.reduceEqDiff, szStr, szInt, Option.getD_some, isNil, evStr, iv, fpFlRule, fpFlItem, fpFlPart, cellsFl, newFl, mapFl]; first | done | rfl) (by decide) rfl (by decide) ?_
            | refine ops_off rfl rfl rfl rfl (by decide) ?_
            | (refine ops_nil ?_; intro e2 h2; simp only [restr, kpLine, List.map_cons, List.map_nil, Ev.get, reduceIte, Nat.reduceEqDiff] at h2; subst h2))
          refine runs_ops_drawn_kept (by kernel_rfl) ?_
          repeat (first
            | refine runs_seq ?_ | refine runs_block ?_ | refine next_normal ?_ | refine inside_normal ?_ | refine next_exit ?_ | refine inside_exit ?_ | refine inside_other (by decide) ?_ | refine next_ret ?_ | refine inside_ret ?_
            | refine runs_ops_kept ?_ | refine runs_skip ?_ | refine runs_exit ?_ | refine runs_ret ?_
            | ((first | refine' ops_op rfl rfl (by decide) ?_ ?_ ?_ | refine' ops_yes rfl rfl (by simp only [Ev.get, reduceIte, Nat.reduceEqDiff, szStr, szInt, Option.getD_some, isNil, evStr, iv, fpFlRule, fpFlItem, fpFlPart, cellsFl, newFl, mapFl, a2, a3, t2, c2, c3, s1, s2, s3, s4, hL]; first | done | rfl) rfl (by decide) ?_ ?_ ?_ | refine' ops_op0 rfl rfl ?_ ?_ ?_); rotate_left 2; (focus (simp only [evOp, opd, constAV, constCell, Ev.get, reduceIte, Nat.reduceEqDiff, reduceCtorEq, evBinN, nilCmp, evBin, evInt, evUn, evConvert, evBuiltin, evLen, evField, evPart, tStr, tInt, tElem, tArr, tBool, tAgg, tField, Try.underlying9, Try.underlying3, Try.underlying4, Try.underlying5, Try.underlying21, Try.underlying121, Try.underlying38, Try.underlying25, Try.underlying135, Try.underlying33, Try.underlying2, Try.underlying147, Try.underlying22, Try.underlying56, Try.underlying54, List.zipWith, Option.map_some, Option.map_none, List.length_cons, List.length_nil, ne_eq, Int.reduceEq, not_false_eq_true, and_self, and_true, true_and, szStr, szInt, Option.getD_some, isNil, evStr, iv, fpFlRule, fpFlItem, fpFlPart, cellsFl, newFl, mapFl, evCall, List.size_toArray, List.append_nil, List.nil_append, List.map_cons, List.map_nil, argAV, argCell, List.toList_toArray, fieldTy, a2, a3, t2, c2, c3, s1, s2, s3, s4, hL]; first | done | rfl)); exact (fun h => by first | rfl | (simp at h; done) | exact absurd (Bool.and_eq_true_iff.mp h).2 (by decide)))
            | refine ops_no rfl rfl (by simp only [Ev.get, reduceIte, Nat.reduceEqDiff, szStr, szInt, Option.getD_some, isNil, evStr, iv, fpFlRule, fpFlItem, fpFlPart, cellsFl, newFl, mapFl, a2, a3, t2, c2, c3, s1, s2, s3, s4, hL]; first | done | rfl) (by decide) rfl (by decide) ?_
            | refine ops_off rfl rfl rfl rfl (by decide) ?_
            | (refine ops_nil ?_; intro e2 h2; simp only [restr, kpLine, List.map_cons, List.map_nil, Ev.get, reduceIte, Nat.reduceEqDiff] at h2; subst h2))
          exact leaves_fin rfl rfl fin_push
      · cases h
    · cases h
  · cases h
end Go.Proofs.Ytojaokhkbmiidaa.Ev
