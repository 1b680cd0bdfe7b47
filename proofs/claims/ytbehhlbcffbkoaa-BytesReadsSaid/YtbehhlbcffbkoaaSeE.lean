/- Opened lines; whether all is awake. -/
import Derived.Test.YtbehhlbcffbkoaaSeD
namespace Go.Proofs.Ytbehhlbcffbkoaa.Ev
open Go Go.Proofs
set_option maxRecDepth 10000
set_option linter.unusedVariables false
set_option linter.unusedSimpArgs false
attribute [local irreducible] Next Inside Runs Ops table
theorem bytes_ne {a b : ByteArray} : (a != b) = true ↔ a ≠ b := by
  obtain ⟨a⟩ := a
  obtain ⟨b⟩ := b
  have e : ((⟨a⟩ : ByteArray) == ⟨b⟩) = (a == b) := rfl
  simp [bne, e]
theorem bytes_same {a b : ByteArray} : (a == b) = true ↔ a = b := by
  obtain ⟨a⟩ := a
  obtain ⟨b⟩ := b
  have e : ((⟨a⟩ : ByteArray) == ⟨b⟩) = (a == b) := rfl
  simp [e]
theorem bytes_self (a : ByteArray) : (a == a) = true := bytes_same.mpr rfl
def openOf (l : ByteArray) : ByteArray × Bool := if 9 ≤ l.size ∧ lineOf (l.extract 0 (l.size - 9)) = l then (l.extract 0 (l.size - 9), true) else (⟨#[]⟩, false)
def openG : List AV → Mem → Option (AV × Mem)
  | [.v (.string l)], m => if l.size < 65536 then some (.tup [.v (.string (openOf l).1), .v (.bool (openOf l).2)], m) else none
  | _, _ => none
theorem open_eq {l : ByteArray} {m : Mem} (h : l.size < 65536) : openG [.v (.string l)] m = some (.tup [.v (.string (openOf l).1), .v (.bool (openOf l).2)], m) := by
  simp only [openG]
  rw [if_pos h]
def kp17 : Nat → Option (List Nat) := fun _ => some [0, 2, 3, 4, 17]
theorem open_ok : FunOk Try.prog 17 openG := by
  have hC := table_ok (P := Try.prog) (l := [(18, lineG)]) (by simp only [List.mem_singleton, forall_eq]; exact line_ok)
  refine fun_ok mixed hC Try.func17 rfl kp17 false rfl fun args m r h => ?_
  unfold openG at h
  split at h
  · rename_i l
    split at h
    · rename_i hs
      simp only [Option.some.injEq] at h
      subst h
      refine ⟨Nat.le_of_ble_eq_true rfl, ?_⟩
      simp only [entry, List.length_cons, List.length_nil, List.range, List.range.loop, List.zip_cons_cons, List.zip_nil_right]
      by_cases hl : l.size < 9
      · have w : IntKind.i64.wrap ((l.size : Int) - 9) = (l.size : Int) - 9 := i64_wrap (by omega) (by omega)
        have hd : decide ((l.size : Int) - 9 < 0) = true := decide_eq_true (by omega)
        have ho : openOf l = (⟨#[]⟩, false) := if_neg (by omega)
        rw [ho]
        repeat (first
          | refine runs_seq ?_ | refine runs_block ?_ | refine next_normal ?_ | refine inside_normal ?_ | refine next_exit ?_ | refine inside_exit ?_ | refine inside_other (by decide) ?_ | refine next_ret ?_ | refine inside_ret ?_
          | refine runs_ops_kept ?_ | refine runs_skip ?_ | refine runs_exit ?_ | refine runs_ret ?_
          | refine ops_op rfl rfl (by decide) (by simp only [evOp, opd, constAV, constCell, Ev.get, reduceIte, Nat.reduceEqDiff, reduceCtorEq, evBinN, nilCmp, evBin, evInt, evUn, evConvert, evBuiltin, evLen, evField, evPart, tStr, tInt, tElem, tArr, tBool, tAgg, tField, Try.underlying3, Try.underlying4, Try.underlying5, Try.underlying9, Try.underlying26, Try.underlying29, Try.underlying34, Try.underlying40, Try.underlying45, Try.underlying56, Try.underlying134, List.zipWith, Option.map_some, Option.map_none, List.length_cons, List.length_nil, ne_eq, Int.reduceEq, not_false_eq_true, and_self, and_true, true_and, w, hd]; rfl) (fun h => rfl) ?_
          | refine ops_yes rfl rfl (by simp only [Ev.get, reduceIte, Nat.reduceEqDiff, w, hd]; first | done | rfl) rfl (by decide) (by simp only [evOp, opd, constAV, constCell, Ev.get, reduceIte, Nat.reduceEqDiff, reduceCtorEq, evBinN, nilCmp, evBin, evInt, evUn, evConvert, evBuiltin, evLen, evField, evPart, tStr, tInt, tElem, tArr, tBool, tAgg, tField, Try.underlying3, Try.underlying4, Try.underlying5, Try.underlying9, Try.underlying26, Try.underlying29, Try.underlying34, Try.underlying40, Try.underlying45, Try.underlying56, Try.underlying134, List.zipWith, Option.map_some, Option.map_none, List.length_cons, List.length_nil, ne_eq, Int.reduceEq, not_false_eq_true, and_self, and_true, true_and, w, hd]; rfl) (fun h => rfl) ?_
          | refine ops_no rfl rfl (by simp only [Ev.get, reduceIte, Nat.reduceEqDiff, w, hd]; first | done | rfl) (by decide) rfl (by decide) ?_
          | (refine ops_nil ?_; intro e2 h2; simp only [restr, kp17, List.map_cons, List.map_nil, Ev.get, reduceIte, Nat.reduceEqDiff] at h2; subst h2))
        refine runs_cond rfl (fun hc => ?_) (fun hc => by cases hc)
        repeat (first
          | refine runs_seq ?_ | refine runs_block ?_ | refine next_normal ?_ | refine inside_normal ?_ | refine next_exit ?_ | refine inside_exit ?_ | refine inside_other (by decide) ?_ | refine next_ret ?_ | refine inside_ret ?_
          | refine runs_ops_kept ?_ | refine runs_skip ?_ | refine runs_exit ?_ | refine runs_ret ?_
          | refine ops_op rfl rfl (by decide) (by simp only [evOp, opd, constAV, constCell, Ev.get, reduceIte, Nat.reduceEqDiff, reduceCtorEq, evBinN, nilCmp, evBin, evInt, evUn, evConvert, evBuiltin, evLen, evField, evPart, tStr, tInt, tElem, tArr, tBool, tAgg, tField, Try.underlying3, Try.underlying4, Try.underlying5, Try.underlying9, Try.underlying26, Try.underlying29, Try.underlying34, Try.underlying40, Try.underlying45, Try.underlying56, Try.underlying134, List.zipWith, Option.map_some, Option.map_none, List.length_cons, List.length_nil, ne_eq, Int.reduceEq, not_false_eq_true, and_self, and_true, true_and]; rfl) (fun h => rfl) ?_
          | refine ops_yes rfl rfl (by simp only [Ev.get, reduceIte, Nat.reduceEqDiff]; first | done | rfl) rfl (by decide) (by simp only [evOp, opd, constAV, constCell, Ev.get, reduceIte, Nat.reduceEqDiff, reduceCtorEq, evBinN, nilCmp, evBin, evInt, evUn, evConvert, evBuiltin, evLen, evField, evPart, tStr, tInt, tElem, tArr, tBool, tAgg, tField, Try.underlying3, Try.underlying4, Try.underlying5, Try.underlying9, Try.underlying26, Try.underlying29, Try.underlying34, Try.underlying40, Try.underlying45, Try.underlying56, Try.underlying134, List.zipWith, Option.map_some, Option.map_none, List.length_cons, List.length_nil, ne_eq, Int.reduceEq, not_false_eq_true, and_self, and_true, true_and]; rfl) (fun h => rfl) ?_
          | refine ops_no rfl rfl (by simp only [Ev.get, reduceIte, Nat.reduceEqDiff]; first | done | rfl) (by decide) rfl (by decide) ?_
          | (refine ops_nil ?_; intro e2 h2; simp only [restr, kp17, List.map_cons, List.map_nil, Ev.get, reduceIte, Nat.reduceEqDiff] at h2; subst h2))
        exact leaves_vv rfl rfl rfl
      · have w : IntKind.i64.wrap ((l.size : Int) - 9) = ((l.size - 9 : Nat) : Int) := by rw [i64_wrap (by omega) (by omega)]; omega
        have hd : decide (((l.size - 9 : Nat) : Int) < 0) = false := decide_eq_false (by omega)
        repeat (first
          | refine runs_seq ?_ | refine runs_block ?_ | refine next_normal ?_ | refine inside_normal ?_ | refine next_exit ?_ | refine inside_exit ?_ | refine inside_other (by decide) ?_ | refine next_ret ?_ | refine inside_ret ?_
          | refine runs_ops_kept ?_ | refine runs_skip ?_ | refine runs_exit ?_ | refine runs_ret ?_
          | refine ops_op rfl rfl (by decide) (by simp only [evOp, opd, constAV, constCell, Ev.get, reduceIte, Nat.reduceEqDiff, reduceCtorEq, evBinN, nilCmp, evBin, evInt, evUn, evConvert, evBuiltin, evLen, evField, evPart, tStr, tInt, tElem, tArr, tBool, tAgg, tField, Try.underlying3, Try.underlying4, Try.underlying5, Try.underlying9, Try.underlying26, Try.underlying29, Try.underlying34, Try.underlying40, Try.underlying45, Try.underlying56, Try.underlying134, List.zipWith, Option.map_some, Option.map_none, List.length_cons, List.length_nil, ne_eq, Int.reduceEq, not_false_eq_true, and_self, and_true, true_and, w, hd]; rfl) (fun h => rfl) ?_
          | refine ops_yes rfl rfl (by simp only [Ev.get, reduceIte, Nat.reduceEqDiff, w, hd]; first | done | rfl) rfl (by decide) (by simp only [evOp, opd, constAV, constCell, Ev.get, reduceIte, Nat.reduceEqDiff, reduceCtorEq, evBinN, nilCmp, evBin, evInt, evUn, evConvert, evBuiltin, evLen, evField, evPart, tStr, tInt, tElem, tArr, tBool, tAgg, tField, Try.underlying3, Try.underlying4, Try.underlying5, Try.underlying9, Try.underlying26, Try.underlying29, Try.underlying34, Try.underlying40, Try.underlying45, Try.underlying56, Try.underlying134, List.zipWith, Option.map_some, Option.map_none, List.length_cons, List.length_nil, ne_eq, Int.reduceEq, not_false_eq_true, and_self, and_true, true_and, w, hd]; rfl) (fun h => rfl) ?_
          | refine ops_no rfl rfl (by simp only [Ev.get, reduceIte, Nat.reduceEqDiff, w, hd]; first | done | rfl) (by decide) rfl (by decide) ?_
          | (refine ops_nil ?_; intro e2 h2; simp only [restr, kp17, List.map_cons, List.map_nil, Ev.get, reduceIte, Nat.reduceEqDiff] at h2; subst h2))
        refine ops_yes rfl rfl rfl rfl (by decide) (by simp only [evOp, opd, constAV, constCell, Ev.get, reduceIte, Nat.reduceEqDiff, evBinN, nilCmp, Option.map_some, Option.map_none]; rw [slice_str_to str9 (by omega)]; rfl) (fun h => rfl) ?_
        refine ops_yes rfl rfl rfl rfl (by decide) (by simp only [evOp, opd, constAV, constCell, Ev.get, reduceIte, Nat.reduceEqDiff, reduceCtorEq, evBinN, nilCmp, evBin, evInt, evUn, evConvert, evBuiltin, evLen, evField, evPart, tStr, tInt, tElem, tArr, tBool, tAgg, tField, Try.underlying3, Try.underlying4, Try.underlying5, Try.underlying9, Try.underlying26, Try.underlying29, Try.underlying34, Try.underlying40, Try.underlying45, Try.underlying56, Try.underlying134, List.zipWith, Option.map_some, Option.map_none, List.length_cons, List.length_nil, ne_eq, Int.reduceEq, not_false_eq_true, and_self, and_true, true_and, evCall, List.size_toArray, List.append_nil, List.nil_append, List.map_cons, List.map_nil, argAV, argCell, table_hit]; rw [line_eq (by rw [ByteArray.size_extract]; omega)]) (fun h => rfl) ?_
        repeat (first
          | refine runs_seq ?_ | refine runs_block ?_ | refine next_normal ?_ | refine inside_normal ?_ | refine next_exit ?_ | refine inside_exit ?_ | refine inside_other (by decide) ?_ | refine next_ret ?_ | refine inside_ret ?_
          | refine runs_ops_kept ?_ | refine runs_skip ?_ | refine runs_exit ?_ | refine runs_ret ?_
          | refine ops_op rfl rfl (by decide) (by simp only [evOp, opd, constAV, constCell, Ev.get, reduceIte, Nat.reduceEqDiff, reduceCtorEq, evBinN, nilCmp, evBin, evInt, evUn, evConvert, evBuiltin, evLen, evField, evPart, tStr, tInt, tElem, tArr, tBool, tAgg, tField, Try.underlying3, Try.underlying4, Try.underlying5, Try.underlying9, Try.underlying26, Try.underlying29, Try.underlying34, Try.underlying40, Try.underlying45, Try.underlying56, Try.underlying134, List.zipWith, Option.map_some, Option.map_none, List.length_cons, List.length_nil, ne_eq, Int.reduceEq, not_false_eq_true, and_self, and_true, true_and]; rfl) (fun h => rfl) ?_
          | refine ops_yes rfl rfl (by simp only [Ev.get, reduceIte, Nat.reduceEqDiff]; first | done | rfl) rfl (by decide) (by simp only [evOp, opd, constAV, constCell, Ev.get, reduceIte, Nat.reduceEqDiff, reduceCtorEq, evBinN, nilCmp, evBin, evInt, evUn, evConvert, evBuiltin, evLen, evField, evPart, tStr, tInt, tElem, tArr, tBool, tAgg, tField, Try.underlying3, Try.underlying4, Try.underlying5, Try.underlying9, Try.underlying26, Try.underlying29, Try.underlying34, Try.underlying40, Try.underlying45, Try.underlying56, Try.underlying134, List.zipWith, Option.map_some, Option.map_none, List.length_cons, List.length_nil, ne_eq, Int.reduceEq, not_false_eq_true, and_self, and_true, true_and]; rfl) (fun h => rfl) ?_
          | refine ops_no rfl rfl (by simp only [Ev.get, reduceIte, Nat.reduceEqDiff]; first | done | rfl) (by decide) rfl (by decide) ?_
          | (refine ops_nil ?_; intro e2 h2; simp only [restr, kp17, List.map_cons, List.map_nil, Ev.get, reduceIte, Nat.reduceEqDiff] at h2; subst h2))
        refine runs_cond rfl (fun hc => ?_) (fun hc => ?_)
        · have ho : openOf l = (⟨#[]⟩, false) := if_neg (fun h => bytes_ne.mp hc h.2)
          rw [ho]
          repeat (first
            | refine runs_seq ?_ | refine runs_block ?_ | refine next_normal ?_ | refine inside_normal ?_ | refine next_exit ?_ | refine inside_exit ?_ | refine inside_other (by decide) ?_ | refine next_ret ?_ | refine inside_ret ?_
            | refine runs_ops_kept ?_ | refine runs_skip ?_ | refine runs_exit ?_ | refine runs_ret ?_
            | refine ops_op rfl rfl (by decide) (by simp only [evOp, opd, constAV, constCell, Ev.get, reduceIte, Nat.reduceEqDiff, reduceCtorEq, evBinN, nilCmp, evBin, evInt, evUn, evConvert, evBuiltin, evLen, evField, evPart, tStr, tInt, tElem, tArr, tBool, tAgg, tField, Try.underlying3, Try.underlying4, Try.underlying5, Try.underlying9, Try.underlying26, Try.underlying29, Try.underlying34, Try.underlying40, Try.underlying45, Try.underlying56, Try.underlying134, List.zipWith, Option.map_some, Option.map_none, List.length_cons, List.length_nil, ne_eq, Int.reduceEq, not_false_eq_true, and_self, and_true, true_and]; rfl) (fun h => rfl) ?_
            | refine ops_yes rfl rfl (by simp only [Ev.get, reduceIte, Nat.reduceEqDiff]; first | done | rfl) rfl (by decide) (by simp only [evOp, opd, constAV, constCell, Ev.get, reduceIte, Nat.reduceEqDiff, reduceCtorEq, evBinN, nilCmp, evBin, evInt, evUn, evConvert, evBuiltin, evLen, evField, evPart, tStr, tInt, tElem, tArr, tBool, tAgg, tField, Try.underlying3, Try.underlying4, Try.underlying5, Try.underlying9, Try.underlying26, Try.underlying29, Try.underlying34, Try.underlying40, Try.underlying45, Try.underlying56, Try.underlying134, List.zipWith, Option.map_some, Option.map_none, List.length_cons, List.length_nil, ne_eq, Int.reduceEq, not_false_eq_true, and_self, and_true, true_and]; rfl) (fun h => rfl) ?_
            | refine ops_no rfl rfl (by simp only [Ev.get, reduceIte, Nat.reduceEqDiff]; first | done | rfl) (by decide) rfl (by decide) ?_
            | (refine ops_nil ?_; intro e2 h2; simp only [restr, kp17, List.map_cons, List.map_nil, Ev.get, reduceIte, Nat.reduceEqDiff] at h2; subst h2))
          exact leaves_vv rfl rfl rfl
        · have ho : openOf l = (l.extract 0 (l.size - 9), true) := if_pos ⟨by omega, Decidable.byContradiction fun h => by rw [bytes_ne.mpr h] at hc; cases hc⟩
          rw [ho]
          repeat (first
            | refine runs_seq ?_ | refine runs_block ?_ | refine next_normal ?_ | refine inside_normal ?_ | refine next_exit ?_ | refine inside_exit ?_ | refine inside_other (by decide) ?_ | refine next_ret ?_ | refine inside_ret ?_
            | refine runs_ops_kept ?_ | refine runs_skip ?_ | refine runs_exit ?_ | refine runs_ret ?_
            | refine ops_op rfl rfl (by decide) (by simp only [evOp, opd, constAV, constCell, Ev.get, reduceIte, Nat.reduceEqDiff, reduceCtorEq, evBinN, nilCmp, evBin, evInt, evUn, evConvert, evBuiltin, evLen, evField, evPart, tStr, tInt, tElem, tArr, tBool, tAgg, tField, Try.underlying3, Try.underlying4, Try.underlying5, Try.underlying9, Try.underlying26, Try.underlying29, Try.underlying34, Try.underlying40, Try.underlying45, Try.underlying56, Try.underlying134, List.zipWith, Option.map_some, Option.map_none, List.length_cons, List.length_nil, ne_eq, Int.reduceEq, not_false_eq_true, and_self, and_true, true_and]; rfl) (fun h => rfl) ?_
            | refine ops_yes rfl rfl (by simp only [Ev.get, reduceIte, Nat.reduceEqDiff]; first | done | rfl) rfl (by decide) (by simp only [evOp, opd, constAV, constCell, Ev.get, reduceIte, Nat.reduceEqDiff, reduceCtorEq, evBinN, nilCmp, evBin, evInt, evUn, evConvert, evBuiltin, evLen, evField, evPart, tStr, tInt, tElem, tArr, tBool, tAgg, tField, Try.underlying3, Try.underlying4, Try.underlying5, Try.underlying9, Try.underlying26, Try.underlying29, Try.underlying34, Try.underlying40, Try.underlying45, Try.underlying56, Try.underlying134, List.zipWith, Option.map_some, Option.map_none, List.length_cons, List.length_nil, ne_eq, Int.reduceEq, not_false_eq_true, and_self, and_true, true_and]; rfl) (fun h => rfl) ?_
            | refine ops_no rfl rfl (by simp only [Ev.get, reduceIte, Nat.reduceEqDiff]; first | done | rfl) (by decide) rfl (by decide) ?_
            | (refine ops_nil ?_; intro e2 h2; simp only [restr, kp17, List.map_cons, List.map_nil, Ev.get, reduceIte, Nat.reduceEqDiff] at h2; subst h2))
          refine ops_op rfl rfl (by decide) (by simp only [evOp, opd, constAV, constCell, Ev.get, reduceIte, Nat.reduceEqDiff, evBinN, nilCmp, Option.map_some, Option.map_none]; rw [slice_str_to str9 (by omega)]; rfl) (fun h => rfl) ?_
          repeat (first
            | refine runs_seq ?_ | refine runs_block ?_ | refine next_normal ?_ | refine inside_normal ?_ | refine next_exit ?_ | refine inside_exit ?_ | refine inside_other (by decide) ?_ | refine next_ret ?_ | refine inside_ret ?_
            | refine runs_ops_kept ?_ | refine runs_skip ?_ | refine runs_exit ?_ | refine runs_ret ?_
            | refine ops_op rfl rfl (by decide) (by simp only [evOp, opd, constAV, constCell, Ev.get, reduceIte, Nat.reduceEqDiff, reduceCtorEq, evBinN, nilCmp, evBin, evInt, evUn, evConvert, evBuiltin, evLen, evField, evPart, tStr, tInt, tElem, tArr, tBool, tAgg, tField, Try.underlying3, Try.underlying4, Try.underlying5, Try.underlying9, Try.underlying26, Try.underlying29, Try.underlying34, Try.underlying40, Try.underlying45, Try.underlying56, Try.underlying134, List.zipWith, Option.map_some, Option.map_none, List.length_cons, List.length_nil, ne_eq, Int.reduceEq, not_false_eq_true, and_self, and_true, true_and]; rfl) (fun h => rfl) ?_
            | refine ops_yes rfl rfl (by simp only [Ev.get, reduceIte, Nat.reduceEqDiff]; first | done | rfl) rfl (by decide) (by simp only [evOp, opd, constAV, constCell, Ev.get, reduceIte, Nat.reduceEqDiff, reduceCtorEq, evBinN, nilCmp, evBin, evInt, evUn, evConvert, evBuiltin, evLen, evField, evPart, tStr, tInt, tElem, tArr, tBool, tAgg, tField, Try.underlying3, Try.underlying4, Try.underlying5, Try.underlying9, Try.underlying26, Try.underlying29, Try.underlying34, Try.underlying40, Try.underlying45, Try.underlying56, Try.underlying134, List.zipWith, Option.map_some, Option.map_none, List.length_cons, List.length_nil, ne_eq, Int.reduceEq, not_false_eq_true, and_self, and_true, true_and]; rfl) (fun h => rfl) ?_
            | refine ops_no rfl rfl (by simp only [Ev.get, reduceIte, Nat.reduceEqDiff]; first | done | rfl) (by decide) rfl (by decide) ?_
            | (refine ops_nil ?_; intro e2 h2; simp only [restr, kp17, List.map_cons, List.map_nil, Ev.get, reduceIte, Nat.reduceEqDiff] at h2; subst h2))
          exact leaves_vv rfl rfl rfl
    · cases h
  · cases h

/-! ### awake -/
theorem open_a : openOf ⟨#[97, 32, 48, 48, 54, 50, 48, 48, 54, 50]⟩ = (⟨#[97]⟩, true) := by kernel_rfl
theorem open_b : openOf ⟨#[97, 32, 48, 48, 54, 50, 48, 48, 54, 51]⟩ = (⟨#[]⟩, false) := by kernel_rfl
theorem sum_0 : sumOf ⟨#[]⟩ = 1 := by kernel_rfl
theorem sum_a : sumOf ⟨#[97]⟩ = 6422626 := by kernel_rfl
def trueG : List AV → Mem → Option (AV × Mem)
  | [], m => some (.v (.bool true), m)
  | _, _ => none
def kp16 : Nat → Option (List Nat) := fun _ => some [0, 1, 2, 4]
theorem sum_eq0 (m : Mem) : sumG [.v (.string ⟨#[]⟩)] m = some (.v (.int .u32 1), m) := by rw [sum_eq (by decide), sum_0]; rfl
theorem sum_eqa (m : Mem) : sumG [.v (.string ⟨#[97]⟩)] m = some (.v (.int .u32 6422626), m) := by rw [sum_eq (by decide), sum_a]; rfl
theorem open_eqa (m : Mem) : openG [.v (.string ⟨#[97, 32, 48, 48, 54, 50, 48, 48, 54, 50]⟩)] m = some (.tup [.v (.string ⟨#[97]⟩), .v (.bool true)], m) := by rw [open_eq (by decide), open_a]
theorem open_eqb (m : Mem) : openG [.v (.string ⟨#[97, 32, 48, 48, 54, 50, 48, 48, 54, 51]⟩)] m = some (.tup [.v (.string ⟨#[]⟩), .v (.bool false)], m) := by rw [open_eq (by decide), open_b]
theorem awake_ok : FunOk Try.prog 16 trueG := by
  have hC := table_ok (P := Try.prog) (l := [(17, openG), (19, sumG)]) (by simp only [List.mem_cons, List.not_mem_nil, or_false, forall_eq_or_imp, forall_eq]; exact ⟨open_ok, sum_ok⟩)
  refine fun_ok mixed hC Try.func16 rfl kp16 false rfl fun args m r h => ?_
  unfold trueG at h
  split at h
  · simp only [Option.some.injEq] at h
    subst h
    refine ⟨Nat.le_of_ble_eq_true rfl, ?_⟩
    simp only [entry, List.length_cons, List.length_nil, List.range, List.range.loop, List.zip_cons_cons, List.zip_nil_right]
    repeat (first
      | refine runs_seq ?_ | refine runs_block ?_ | refine next_normal ?_ | refine inside_normal ?_ | refine next_exit ?_ | refine inside_exit ?_ | refine inside_other (by decide) ?_ | refine next_ret ?_ | refine inside_ret ?_
      | refine runs_ops_kept ?_ | refine runs_skip ?_ | refine runs_exit ?_ | refine runs_ret ?_
      | refine ops_op rfl rfl (by decide) (by simp only [evOp, opd, constAV, constCell, Ev.get, reduceIte, Nat.reduceEqDiff, reduceCtorEq, evBinN, nilCmp, evBin, evInt, evUn, evConvert, evBuiltin, evLen, evField, evPart, tStr, tInt, tElem, tArr, tBool, tAgg, tField, Try.underlying3, Try.underlying4, Try.underlying5, Try.underlying9, Try.underlying26, Try.underlying29, Try.underlying34, Try.underlying40, Try.underlying45, Try.underlying56, Try.underlying134, List.zipWith, Option.map_some, Option.map_none, List.length_cons, List.length_nil, ne_eq, Int.reduceEq, not_false_eq_true, and_self, and_true, true_and]; rfl) (fun h => rfl) ?_
      | refine ops_yes rfl rfl (by simp only [Ev.get, reduceIte, Nat.reduceEqDiff]; first | done | rfl) rfl (by decide) (by simp only [evOp, opd, constAV, constCell, Ev.get, reduceIte, Nat.reduceEqDiff, reduceCtorEq, evBinN, nilCmp, evBin, evInt, evUn, evConvert, evBuiltin, evLen, evField, evPart, tStr, tInt, tElem, tArr, tBool, tAgg, tField, Try.underlying3, Try.underlying4, Try.underlying5, Try.underlying9, Try.underlying26, Try.underlying29, Try.underlying34, Try.underlying40, Try.underlying45, Try.underlying56, Try.underlying134, List.zipWith, Option.map_some, Option.map_none, List.length_cons, List.length_nil, ne_eq, Int.reduceEq, not_false_eq_true, and_self, and_true, true_and]; rfl) (fun h => rfl) ?_
      | refine ops_no rfl rfl (by simp only [Ev.get, reduceIte, Nat.reduceEqDiff]; first | done | rfl) (by decide) rfl (by decide) ?_
      | (refine ops_nil ?_; intro e2 h2; simp only [restr, kp16, List.map_cons, List.map_nil, Ev.get, reduceIte, Nat.reduceEqDiff] at h2; subst h2))
    refine ops_op rfl rfl (by decide) (by simp only [evOp, opd, constAV, constCell, Ev.get, reduceIte, Nat.reduceEqDiff, reduceCtorEq, evBinN, nilCmp, evBin, evInt, evUn, evConvert, evBuiltin, evLen, evField, evPart, tStr, tInt, tElem, tArr, tBool, tAgg, tField, Try.underlying3, Try.underlying4, Try.underlying5, Try.underlying9, Try.underlying26, Try.underlying29, Try.underlying34, Try.underlying40, Try.underlying45, Try.underlying56, Try.underlying134, List.zipWith, Option.map_some, Option.map_none, List.length_cons, List.length_nil, ne_eq, Int.reduceEq, not_false_eq_true, and_self, and_true, true_and, evCall, List.size_toArray, List.append_nil, List.nil_append, List.map_cons, List.map_nil, argAV, argCell, table_hit]; rw [open_eqa]) (fun h => rfl) ?_
    repeat (first
      | refine runs_seq ?_ | refine runs_block ?_ | refine next_normal ?_ | refine inside_normal ?_ | refine next_exit ?_ | refine inside_exit ?_ | refine inside_other (by decide) ?_ | refine next_ret ?_ | refine inside_ret ?_
      | refine runs_ops_kept ?_ | refine runs_skip ?_ | refine runs_exit ?_ | refine runs_ret ?_
      | refine ops_op rfl rfl (by decide) (by simp only [evOp, opd, constAV, constCell, Ev.get, reduceIte, Nat.reduceEqDiff, reduceCtorEq, evBinN, nilCmp, evBin, evInt, evUn, evConvert, evBuiltin, evLen, evField, evPart, tStr, tInt, tElem, tArr, tBool, tAgg, tField, Try.underlying3, Try.underlying4, Try.underlying5, Try.underlying9, Try.underlying26, Try.underlying29, Try.underlying34, Try.underlying40, Try.underlying45, Try.underlying56, Try.underlying134, List.zipWith, Option.map_some, Option.map_none, List.length_cons, List.length_nil, ne_eq, Int.reduceEq, not_false_eq_true, and_self, and_true, true_and]; rfl) (fun h => rfl) ?_
      | refine ops_yes rfl rfl (by simp only [Ev.get, reduceIte, Nat.reduceEqDiff]; first | done | rfl) rfl (by decide) (by simp only [evOp, opd, constAV, constCell, Ev.get, reduceIte, Nat.reduceEqDiff, reduceCtorEq, evBinN, nilCmp, evBin, evInt, evUn, evConvert, evBuiltin, evLen, evField, evPart, tStr, tInt, tElem, tArr, tBool, tAgg, tField, Try.underlying3, Try.underlying4, Try.underlying5, Try.underlying9, Try.underlying26, Try.underlying29, Try.underlying34, Try.underlying40, Try.underlying45, Try.underlying56, Try.underlying134, List.zipWith, Option.map_some, Option.map_none, List.length_cons, List.length_nil, ne_eq, Int.reduceEq, not_false_eq_true, and_self, and_true, true_and]; rfl) (fun h => rfl) ?_
      | refine ops_no rfl rfl (by simp only [Ev.get, reduceIte, Nat.reduceEqDiff]; first | done | rfl) (by decide) rfl (by decide) ?_
      | (refine ops_nil ?_; intro e2 h2; simp only [restr, kp16, List.map_cons, List.map_nil, Ev.get, reduceIte, Nat.reduceEqDiff] at h2; subst h2))
    refine ops_op rfl rfl (by decide) (by simp only [evOp, opd, constAV, constCell, Ev.get, reduceIte, Nat.reduceEqDiff, reduceCtorEq, evBinN, nilCmp, evBin, evInt, evUn, evConvert, evBuiltin, evLen, evField, evPart, tStr, tInt, tElem, tArr, tBool, tAgg, tField, Try.underlying3, Try.underlying4, Try.underlying5, Try.underlying9, Try.underlying26, Try.underlying29, Try.underlying34, Try.underlying40, Try.underlying45, Try.underlying56, Try.underlying134, List.zipWith, Option.map_some, Option.map_none, List.length_cons, List.length_nil, ne_eq, Int.reduceEq, not_false_eq_true, and_self, and_true, true_and, evCall, List.size_toArray, List.append_nil, List.nil_append, List.map_cons, List.map_nil, argAV, argCell, table_hit]; rw [open_eqb]) (fun h => rfl) ?_
    repeat (first
      | refine runs_seq ?_ | refine runs_block ?_ | refine next_normal ?_ | refine inside_normal ?_ | refine next_exit ?_ | refine inside_exit ?_ | refine inside_other (by decide) ?_ | refine next_ret ?_ | refine inside_ret ?_
      | refine runs_ops_kept ?_ | refine runs_skip ?_ | refine runs_exit ?_ | refine runs_ret ?_
      | refine ops_op rfl rfl (by decide) (by simp only [evOp, opd, constAV, constCell, Ev.get, reduceIte, Nat.reduceEqDiff, reduceCtorEq, evBinN, nilCmp, evBin, evInt, evUn, evConvert, evBuiltin, evLen, evField, evPart, tStr, tInt, tElem, tArr, tBool, tAgg, tField, Try.underlying3, Try.underlying4, Try.underlying5, Try.underlying9, Try.underlying26, Try.underlying29, Try.underlying34, Try.underlying40, Try.underlying45, Try.underlying56, Try.underlying134, List.zipWith, Option.map_some, Option.map_none, List.length_cons, List.length_nil, ne_eq, Int.reduceEq, not_false_eq_true, and_self, and_true, true_and]; rfl) (fun h => rfl) ?_
      | refine ops_yes rfl rfl (by simp only [Ev.get, reduceIte, Nat.reduceEqDiff]; first | done | rfl) rfl (by decide) (by simp only [evOp, opd, constAV, constCell, Ev.get, reduceIte, Nat.reduceEqDiff, reduceCtorEq, evBinN, nilCmp, evBin, evInt, evUn, evConvert, evBuiltin, evLen, evField, evPart, tStr, tInt, tElem, tArr, tBool, tAgg, tField, Try.underlying3, Try.underlying4, Try.underlying5, Try.underlying9, Try.underlying26, Try.underlying29, Try.underlying34, Try.underlying40, Try.underlying45, Try.underlying56, Try.underlying134, List.zipWith, Option.map_some, Option.map_none, List.length_cons, List.length_nil, ne_eq, Int.reduceEq, not_false_eq_true, and_self, and_true, true_and]; rfl) (fun h => rfl) ?_
      | refine ops_no rfl rfl (by simp only [Ev.get, reduceIte, Nat.reduceEqDiff]; first | done | rfl) (by decide) rfl (by decide) ?_
      | (refine ops_nil ?_; intro e2 h2; simp only [restr, kp16, List.map_cons, List.map_nil, Ev.get, reduceIte, Nat.reduceEqDiff] at h2; subst h2))
    refine ops_op rfl rfl (by decide) (by simp only [evOp, opd, constAV, constCell, Ev.get, reduceIte, Nat.reduceEqDiff, reduceCtorEq, evBinN, nilCmp, evBin, evInt, evUn, evConvert, evBuiltin, evLen, evField, evPart, tStr, tInt, tElem, tArr, tBool, tAgg, tField, Try.underlying3, Try.underlying4, Try.underlying5, Try.underlying9, Try.underlying26, Try.underlying29, Try.underlying34, Try.underlying40, Try.underlying45, Try.underlying56, Try.underlying134, List.zipWith, Option.map_some, Option.map_none, List.length_cons, List.length_nil, ne_eq, Int.reduceEq, not_false_eq_true, and_self, and_true, true_and, evCall, List.size_toArray, List.append_nil, List.nil_append, List.map_cons, List.map_nil, argAV, argCell]; rw [table_miss (by decide), table_hit, sum_eq0]) (fun h => rfl) ?_
    repeat (first
      | refine runs_seq ?_ | refine runs_block ?_ | refine next_normal ?_ | refine inside_normal ?_ | refine next_exit ?_ | refine inside_exit ?_ | refine inside_other (by decide) ?_ | refine next_ret ?_ | refine inside_ret ?_
      | refine runs_ops_kept ?_ | refine runs_skip ?_ | refine runs_exit ?_ | refine runs_ret ?_
      | refine ops_op rfl rfl (by decide) (by simp only [evOp, opd, constAV, constCell, Ev.get, reduceIte, Nat.reduceEqDiff, reduceCtorEq, evBinN, nilCmp, evBin, evInt, evUn, evConvert, evBuiltin, evLen, evField, evPart, tStr, tInt, tElem, tArr, tBool, tAgg, tField, Try.underlying3, Try.underlying4, Try.underlying5, Try.underlying9, Try.underlying26, Try.underlying29, Try.underlying34, Try.underlying40, Try.underlying45, Try.underlying56, Try.underlying134, List.zipWith, Option.map_some, Option.map_none, List.length_cons, List.length_nil, ne_eq, Int.reduceEq, not_false_eq_true, and_self, and_true, true_and, beq_self_eq_true]; rfl) (fun h => rfl) ?_
      | refine ops_yes rfl rfl (by simp only [Ev.get, reduceIte, Nat.reduceEqDiff, beq_self_eq_true]; first | done | rfl) rfl (by decide) (by simp only [evOp, opd, constAV, constCell, Ev.get, reduceIte, Nat.reduceEqDiff, reduceCtorEq, evBinN, nilCmp, evBin, evInt, evUn, evConvert, evBuiltin, evLen, evField, evPart, tStr, tInt, tElem, tArr, tBool, tAgg, tField, Try.underlying3, Try.underlying4, Try.underlying5, Try.underlying9, Try.underlying26, Try.underlying29, Try.underlying34, Try.underlying40, Try.underlying45, Try.underlying56, Try.underlying134, List.zipWith, Option.map_some, Option.map_none, List.length_cons, List.length_nil, ne_eq, Int.reduceEq, not_false_eq_true, and_self, and_true, true_and, beq_self_eq_true]; rfl) (fun h => rfl) ?_
      | refine ops_no rfl rfl (by simp only [Ev.get, reduceIte, Nat.reduceEqDiff, beq_self_eq_true]; first | done | rfl) (by decide) rfl (by decide) ?_
      | (refine ops_nil ?_; intro e2 h2; simp only [restr, kp16, List.map_cons, List.map_nil, Ev.get, reduceIte, Nat.reduceEqDiff] at h2; subst h2))
    refine ops_yes rfl rfl rfl rfl (by decide) (by simp only [evOp, opd, constAV, constCell, Ev.get, reduceIte, Nat.reduceEqDiff, reduceCtorEq, evBinN, nilCmp, evBin, evInt, evUn, evConvert, evBuiltin, evLen, evField, evPart, tStr, tInt, tElem, tArr, tBool, tAgg, tField, Try.underlying3, Try.underlying4, Try.underlying5, Try.underlying9, Try.underlying26, Try.underlying29, Try.underlying34, Try.underlying40, Try.underlying45, Try.underlying56, Try.underlying134, List.zipWith, Option.map_some, Option.map_none, List.length_cons, List.length_nil, ne_eq, Int.reduceEq, not_false_eq_true, and_self, and_true, true_and, evCall, List.size_toArray, List.append_nil, List.nil_append, List.map_cons, List.map_nil, argAV, argCell]; rw [table_miss (by decide), table_hit, sum_eqa]) (fun h => rfl) ?_
    repeat (first
      | refine runs_seq ?_ | refine runs_block ?_ | refine next_normal ?_ | refine inside_normal ?_ | refine next_exit ?_ | refine inside_exit ?_ | refine inside_other (by decide) ?_ | refine next_ret ?_ | refine inside_ret ?_
      | refine runs_ops_kept ?_ | refine runs_skip ?_ | refine runs_exit ?_ | refine runs_ret ?_
      | refine ops_op rfl rfl (by decide) (by simp only [evOp, opd, constAV, constCell, Ev.get, reduceIte, Nat.reduceEqDiff, reduceCtorEq, evBinN, nilCmp, evBin, evInt, evUn, evConvert, evBuiltin, evLen, evField, evPart, tStr, tInt, tElem, tArr, tBool, tAgg, tField, Try.underlying3, Try.underlying4, Try.underlying5, Try.underlying9, Try.underlying26, Try.underlying29, Try.underlying34, Try.underlying40, Try.underlying45, Try.underlying56, Try.underlying134, List.zipWith, Option.map_some, Option.map_none, List.length_cons, List.length_nil, ne_eq, Int.reduceEq, not_false_eq_true, and_self, and_true, true_and, beq_self_eq_true]; rfl) (fun h => rfl) ?_
      | refine ops_yes rfl rfl (by simp only [Ev.get, reduceIte, Nat.reduceEqDiff, beq_self_eq_true]; first | done | rfl) rfl (by decide) (by simp only [evOp, opd, constAV, constCell, Ev.get, reduceIte, Nat.reduceEqDiff, reduceCtorEq, evBinN, nilCmp, evBin, evInt, evUn, evConvert, evBuiltin, evLen, evField, evPart, tStr, tInt, tElem, tArr, tBool, tAgg, tField, Try.underlying3, Try.underlying4, Try.underlying5, Try.underlying9, Try.underlying26, Try.underlying29, Try.underlying34, Try.underlying40, Try.underlying45, Try.underlying56, Try.underlying134, List.zipWith, Option.map_some, Option.map_none, List.length_cons, List.length_nil, ne_eq, Int.reduceEq, not_false_eq_true, and_self, and_true, true_and, beq_self_eq_true]; rfl) (fun h => rfl) ?_
      | refine ops_no rfl rfl (by simp only [Ev.get, reduceIte, Nat.reduceEqDiff, beq_self_eq_true]; first | done | rfl) (by decide) rfl (by decide) ?_
      | (refine ops_nil ?_; intro e2 h2; simp only [restr, kp16, List.map_cons, List.map_nil, Ev.get, reduceIte, Nat.reduceEqDiff] at h2; subst h2))
    exact leaves_v rfl rfl
  · cases h
end Go.Proofs.Ytbehhlbcffbkoaa.Ev
