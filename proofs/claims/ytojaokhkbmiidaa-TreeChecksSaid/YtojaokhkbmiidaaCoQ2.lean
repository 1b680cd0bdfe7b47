/- Trees: the least and the greatest number of a list of nodes; all numbers. -/
import Derived.Test.YtojaokhkbmiidaaCoQ
namespace Go.Proofs.Ytojaokhkbmiidaa.Ev
open Go Go.Proofs
set_option maxRecDepth 10000
set_option maxHeartbeats 8000000
set_option linter.unusedVariables false
set_option linter.unusedSimpArgs false
attribute [local irreducible] Next Inside Runs Ops table
theorem mapRow {x : Nd} : List.map argCell x.row = x.row := rfl
theorem putRow {m : Mem} {x : Nd} : evStore Try.prog (m.push (nrow 0 0 0 0 0 0 0)) 56 (.ptr m.vars.length 0) (.agg x.row) = some (m.push x.row) := putNode (op2 := x.op) (a2 := x.a) (b2 := x.b) (c2 := x.c) (k2 := x.k) (u2 := x.u) (n2 := x.n)
theorem topRow {m : Mem} {x : Nd} : evLoad Try.prog (m.push x.row) 56 (.ptr m.vars.length 0) = some (.agg x.row) := topNode (op := x.op) (a := x.a) (b := x.b) (c := x.c) (k := x.k) (u := x.u) (n := x.n)
/-- Variables of one's own, above. -/
def Above (m m' : Mem) : Prop := ∃ L, m' = { vars := m.vars ++ L, toks := m.toks }
theorem above_self (m : Mem) : Above m m := ⟨[], by simp⟩
theorem above_push {m m' : Mem} {cs : List AV} (h : Above m m') : Above m (m'.push cs) := by
  obtain ⟨L, rfl⟩ := h
  exact ⟨L ++ [some cs], by simp [Mem.push]⟩
theorem above_fin {m m' : Mem} (h : Above m m') : finMem m m' = m := by
  obtain ⟨L, rfl⟩ := h
  unfold finMem
  rw [if_pos (by simp)]
  simp
/-! ### folds -/
def lohi (p : Int × Int) (xs : List Int) : Int × Int := xs.foldl (fun p x => (mn p.1 x, mx p.2 x)) p
theorem lohi_app (p : Int × Int) (xs ys : List Int) : lohi p (xs ++ ys) = lohi (lohi p xs) ys := List.foldl_append
theorem lohi_spec : ∀ (xs : List Int) (p : Int × Int), ((lohi p xs).1 ≤ p.1 ∧ (∀ x ∈ xs, (lohi p xs).1 ≤ x) ∧ ((lohi p xs).1 = p.1 ∨ (lohi p xs).1 ∈ xs)) ∧ (p.2 ≤ (lohi p xs).2 ∧ (∀ x ∈ xs, x ≤ (lohi p xs).2) ∧ ((lohi p xs).2 = p.2 ∨ (lohi p xs).2 ∈ xs))
  | [], p => by simp [lohi]
  | x :: xs, p => by
    have h := lohi_spec xs (mn p.1 x, mx p.2 x)
    have e : lohi p (x :: xs) = lohi (mn p.1 x, mx p.2 x) xs := rfl
    rw [e]
    obtain ⟨⟨h1, h2, h3⟩, h4, h5, h6⟩ := h
    have a1 : mn p.1 x ≤ p.1 ∧ mn p.1 x ≤ x ∧ (mn p.1 x = p.1 ∨ mn p.1 x = x) := by unfold mn; split <;> omega
    have a2 : p.2 ≤ mx p.2 x ∧ x ≤ mx p.2 x ∧ (mx p.2 x = p.2 ∨ mx p.2 x = x) := by unfold mx; split <;> omega
    simp only at h1 h3 h4 h6
    refine ⟨⟨by omega, ?_, ?_⟩, by omega, ?_, ?_⟩
    · intro y hy
      rcases List.mem_cons.1 hy with rfl | hy
      · omega
      · exact h2 y hy
    · rcases h3 with h3 | h3
      · rcases a1.2.2 with a | a
        · left; omega
        · right; rw [h3, a]; exact List.mem_cons_self ..
      · right; exact List.mem_cons_of_mem _ h3
    · intro y hy
      rcases List.mem_cons.1 hy with rfl | hy
      · omega
      · exact h5 y hy
    · rcases h6 with h6 | h6
      · rcases a2.2.2 with a | a
        · left; omega
        · right; rw [h6, a]; exact List.mem_cons_self ..
      · right; exact List.mem_cons_of_mem _ h6
def endsL (l : List Nd) : Int × Int := if checkT l = 0 then lohi (4503599627370496, 0) (l.flatMap endsN) else (0, 0)
theorem flat_next {α β : Type} {d : α} {f : α → List β} {l : List α} {i : Nat} (hi : i < l.length) : (l.take (i + 1)).flatMap f = (l.take i).flatMap f ++ f (l.getD i d) := by
  rw [take_next (d := d) hi, List.flatMap_append]
  simp
theorem lohi_next {p : Int × Int} {xs : List Int} {j : Nat} (hj : j < xs.length) : lohi p (xs.take (j + 1)) = (mn (lohi p (xs.take j)).1 (xs.getD j 0), mx (lohi p (xs.take j)).2 (xs.getD j 0)) := by
  rw [take_next (d := 0) hj, lohi_app]
  rfl
def endsG : List AV → Mem → Option (AV × Mem)
  | [.lst _ 7 rows], m =>
    match unN rows with
    | some l => if l.length ≤ big40 then some (.tup [iv (endsL l).1, iv (endsL l).2], m) else none
    | none => none
  | _, _ => none
theorem endsG_eq {m : Mem} {g : Grow} {l : List Nd} (h : l.length ≤ big40) : endsG [.lst g 7 (rowsN l)] m = some (.tup [iv (endsL l).1, iv (endsL l).2], m) := by
  simp only [endsG, unN_rowsN]
  rw [if_pos h]
def kpEnds : Nat → Option (List Nat) := fun
  | 0 => some [0, 3]
  | 1 => some [0, 3, 10]
  | 2 => some [2, 3]
  | 3 => some [0, 2, 3]
  | 4 => some [2, 3, 11, 12, 13]
  | 5 => some [2, 3, 11, 12, 13, 14]
  | 6 => some [2, 3, 5, 11, 12, 13]
  | 7 => some [2, 3, 11, 12, 13, 18, 19, 20]
  | 8 => some [2, 3, 11, 12, 13, 18, 19, 20, 21]
  | 9 => some [2, 3, 7, 11, 12, 13, 18, 19, 20]
  | 10 => some [2, 3, 11, 12, 13, 18, 19, 20]
  | 11 => some [2, 3, 11, 12, 13, 18, 19, 20]
  | 12 => some [2, 3, 11, 12, 13]
  | 13 => some [2, 3]
  | _ => none
def tab_ends_ok : List (FuncId × (List AV → Mem → Option (AV × Mem))) := [(21, checkTG), (35, endsNG)]
theorem ends_ok : FunOk Try.prog 19 endsG := by
  have hC := table_ok (P := Try.prog) (l := tab_ends_ok) (table_more checkT_ok (table_more endsN_ok table_nil))
  have t1 := fun args mm => table_at (l := tab_ends_ok) (f := 21) (args := args) (m := mm) rfl
  have t2 := fun args mm => table_at (l := tab_ends_ok) (f := 35) (args := args) (m := mm) rfl
  refine fun_ok mixed hC Try.func19 rfl kpEnds false rfl fun args m r h => ?_
  unfold endsG at h
  split at h
  · rename_i g rows
    split at h
    · rename_i l hl0
      obtain rfl := unN_some hl0
      split at h
      · rename_i hlen
        simp only [Option.some.injEq] at h
        subst h
        refine ⟨Nat.le_of_ble_eq_true rfl, ?_⟩
        simp only [entry, List.length_cons, List.length_nil, List.range, List.range.loop, List.zip_cons_cons, List.zip_nil_right]
        have f1 := fun mm => checkTG_eq (m := mm) (g := .no) hlen
        unfold big40 at hlen
        by_cases hc0 : checkT l = 0
        · have b1 : (checkT l != 0) = false := by rw [hc0]; rfl
          have hE : endsL l = lohi (4503599627370496, 0) (l.flatMap endsN) := if_pos hc0
          repeat (first
            | refine runs_seq ?_ | refine runs_block ?_ | refine next_normal ?_ | refine inside_normal ?_ | refine next_exit ?_ | refine inside_exit ?_ | refine inside_other (by decide) ?_ | refine next_ret ?_ | refine inside_ret ?_
            | refine runs_ops_kept ?_ | refine runs_skip ?_ | refine runs_exit ?_ | refine runs_ret ?_
            | ((first | refine' ops_op rfl rfl (by decide) ?_ ?_ ?_ | refine' ops_yes rfl rfl (by simp only [Ev.get, reduceIte, Nat.reduceEqDiff, szStr, szInt, Option.getD_some, isNil, evStr, loadStr, loadInt, mkInts0, mkInts1, mkInts2, mkInts3, rowsI_len, rowsN_len, fldOp, ldOp, ldNode, zeroNode, okNode, newNode, putRow, topRow, mapRow, evMinMax, evFoldI, t1, f1, b1]; first | done | rfl) rfl (by decide) ?_ ?_ ?_ | refine' ops_op0 rfl rfl ?_ ?_ ?_); rotate_left 2; (focus (simp only [evOp, opd, constAV, constCell, Ev.get, reduceIte, Nat.reduceEqDiff, reduceCtorEq, evBinN, nilCmp, evBin, evInt, evUn, evConvert, evBuiltin, evLen, evField, evPart, tStr, tInt, tElem, tArr, tBool, tAgg, tField, Try.underlying9, Try.underlying3, Try.underlying4, Try.underlying5, Try.underlying21, Try.underlying121, Try.underlying38, Try.underlying25, Try.underlying135, Try.underlying33, Try.underlying2, Try.underlying147, Try.underlying22, Try.underlying56, Try.underlying54, List.zipWith, Option.map_some, Option.map_none, List.length_cons, List.length_nil, ne_eq, Int.reduceEq, not_false_eq_true, and_self, and_true, true_and, szStr, szInt, Option.getD_some, isNil, evStr, loadStr, loadInt, mkInts0, mkInts1, mkInts2, mkInts3, rowsI_len, rowsN_len, fldOp, ldOp, ldNode, zeroNode, okNode, newNode, putRow, topRow, mapRow, evMinMax, evFoldI, evCall, List.size_toArray, List.append_nil, List.nil_append, List.map_cons, List.map_nil, argAV, argCell, List.toList_toArray, fieldTy, t1, f1, b1]; first | done | rfl)); exact (fun h => by first | rfl | (simp at h; done) | exact absurd (Bool.and_eq_true_iff.mp h).2 (by decide)))
            | refine ops_no rfl rfl (by simp only [Ev.get, reduceIte, Nat.reduceEqDiff, szStr, szInt, Option.getD_some, isNil, evStr, loadStr, loadInt, mkInts0, mkInts1, mkInts2, mkInts3, rowsI_len, rowsN_len, fldOp, ldOp, ldNode, zeroNode, okNode, newNode, putRow, topRow, mapRow, evMinMax, evFoldI, t1, f1, b1]; first | done | rfl) (by decide) rfl (by decide) ?_
            | refine ops_off rfl rfl rfl rfl (by decide) ?_
            | (refine ops_nil ?_; intro e2 h2; simp only [restr, kpEnds, List.map_cons, List.map_nil, Ev.get, reduceIte, Nat.reduceEqDiff] at h2; subst h2))
          refine runs_cond rfl (fun hc => by cases hc) (fun hc => ?_)
          repeat (first
            | refine runs_seq ?_ | refine runs_block ?_ | refine next_normal ?_ | refine inside_normal ?_ | refine next_exit ?_ | refine inside_exit ?_ | refine inside_other (by decide) ?_ | refine next_ret ?_ | refine inside_ret ?_
            | refine runs_ops_kept ?_ | refine runs_skip ?_ | refine runs_exit ?_ | refine runs_ret ?_
            | ((first | refine' ops_op rfl rfl (by decide) ?_ ?_ ?_ | refine' ops_yes rfl rfl (by simp only [Ev.get, reduceIte, Nat.reduceEqDiff, szStr, szInt, Option.getD_some, isNil, evStr, loadStr, loadInt, mkInts0, mkInts1, mkInts2, mkInts3, rowsI_len, rowsN_len, fldOp, ldOp, ldNode, zeroNode, okNode, newNode, putRow, topRow, mapRow, evMinMax, evFoldI]; first | done | rfl) rfl (by decide) ?_ ?_ ?_ | refine' ops_op0 rfl rfl ?_ ?_ ?_); rotate_left 2; (focus (simp only [evOp, opd, constAV, constCell, Ev.get, reduceIte, Nat.reduceEqDiff, reduceCtorEq, evBinN, nilCmp, evBin, evInt, evUn, evConvert, evBuiltin, evLen, evField, evPart, tStr, tInt, tElem, tArr, tBool, tAgg, tField, Try.underlying9, Try.underlying3, Try.underlying4, Try.underlying5, Try.underlying21, Try.underlying121, Try.underlying38, Try.underlying25, Try.underlying135, Try.underlying33, Try.underlying2, Try.underlying147, Try.underlying22, Try.underlying56, Try.underlying54, List.zipWith, Option.map_some, Option.map_none, List.length_cons, List.length_nil, ne_eq, Int.reduceEq, not_false_eq_true, and_self, and_true, true_and, szStr, szInt, Option.getD_some, isNil, evStr, loadStr, loadInt, mkInts0, mkInts1, mkInts2, mkInts3, rowsI_len, rowsN_len, fldOp, ldOp, ldNode, zeroNode, okNode, newNode, putRow, topRow, mapRow, evMinMax, evFoldI, evCall, List.size_toArray, List.append_nil, List.nil_append, List.map_cons, List.map_nil, argAV, argCell, List.toList_toArray, fieldTy]; first | done | rfl)); exact (fun h => by first | rfl | (simp at h; done) | exact absurd (Bool.and_eq_true_iff.mp h).2 (by decide)))
            | refine ops_no rfl rfl (by simp only [Ev.get, reduceIte, Nat.reduceEqDiff, szStr, szInt, Option.getD_some, isNil, evStr, loadStr, loadInt, mkInts0, mkInts1, mkInts2, mkInts3, rowsI_len, rowsN_len, fldOp, ldOp, ldNode, zeroNode, okNode, newNode, putRow, topRow, mapRow, evMinMax, evFoldI]; first | done | rfl) (by decide) rfl (by decide) ?_
            | refine ops_off rfl rfl rfl rfl (by decide) ?_
            | (refine ops_nil ?_; intro e2 h2; simp only [restr, kpEnds, List.map_cons, List.map_nil, Ev.get, reduceIte, Nat.reduceEqDiff] at h2; subst h2))
          refine runs_loop (fun k e m' => ∃ (lo hi : Int) (i : Nat), i ≤ l.length ∧ (lo, hi) = lohi (4503599627370496, 0) ((l.take i).flatMap endsN) ∧ Above m m' ∧ k = l.length - i ∧
            e = [(2, .v (.int .i64 lo)), (3, .v (.int .i64 hi)), (11, .lst g 7 (rowsN l)), (12, .v (.int .i64 (l.length : Int))), (13, .v (.int .i64 (i : Int)))]) (k := l.length) ⟨_, _, 0, Nat.zero_le _, rfl, above_self _, rfl, rfl⟩ ?_
          rintro k e m' ⟨lo, hi, i, hi0, hL, hA, rfl, rfl⟩
          repeat (first
            | refine runs_seq ?_ | refine runs_block ?_ | refine next_normal ?_ | refine inside_normal ?_ | refine next_exit ?_ | refine inside_exit ?_ | refine inside_other (by decide) ?_ | refine next_ret ?_ | refine inside_ret ?_
            | refine runs_ops_kept ?_ | refine runs_skip ?_ | refine runs_exit ?_ | refine runs_ret ?_
            | ((first | refine' ops_op rfl rfl (by decide) ?_ ?_ ?_ | refine' ops_yes rfl rfl (by simp only [Ev.get, reduceIte, Nat.reduceEqDiff, szStr, szInt, Option.getD_some, isNil, evStr, loadStr, loadInt, mkInts0, mkInts1, mkInts2, mkInts3, rowsI_len, rowsN_len, fldOp, ldOp, ldNode, zeroNode, okNode, newNode, putRow, topRow, mapRow, evMinMax, evFoldI]; first | done | rfl) rfl (by decide) ?_ ?_ ?_ | refine' ops_op0 rfl rfl ?_ ?_ ?_); rotate_left 2; (focus (simp only [evOp, opd, constAV, constCell, Ev.get, reduceIte, Nat.reduceEqDiff, reduceCtorEq, evBinN, nilCmp, evBin, evInt, evUn, evConvert, evBuiltin, evLen, evField, evPart, tStr, tInt, tElem, tArr, tBool, tAgg, tField, Try.underlying9, Try.underlying3, Try.underlying4, Try.underlying5, Try.underlying21, Try.underlying121, Try.underlying38, Try.underlying25, Try.underlying135, Try.underlying33, Try.underlying2, Try.underlying147, Try.underlying22, Try.underlying56, Try.underlying54, List.zipWith, Option.map_some, Option.map_none, List.length_cons, List.length_nil, ne_eq, Int.reduceEq, not_false_eq_true, and_self, and_true, true_and, szStr, szInt, Option.getD_some, isNil, evStr, loadStr, loadInt, mkInts0, mkInts1, mkInts2, mkInts3, rowsI_len, rowsN_len, fldOp, ldOp, ldNode, zeroNode, okNode, newNode, putRow, topRow, mapRow, evMinMax, evFoldI, evCall, List.size_toArray, List.append_nil, List.nil_append, List.map_cons, List.map_nil, argAV, argCell, List.toList_toArray, fieldTy]; first | done | rfl)); exact (fun h => by first | rfl | (simp at h; done) | exact absurd (Bool.and_eq_true_iff.mp h).2 (by decide)))
            | refine ops_no rfl rfl (by simp only [Ev.get, reduceIte, Nat.reduceEqDiff, szStr, szInt, Option.getD_some, isNil, evStr, loadStr, loadInt, mkInts0, mkInts1, mkInts2, mkInts3, rowsI_len, rowsN_len, fldOp, ldOp, ldNode, zeroNode, okNode, newNode, putRow, topRow, mapRow, evMinMax, evFoldI]; first | done | rfl) (by decide) rfl (by decide) ?_
            | refine ops_off rfl rfl rfl rfl (by decide) ?_
            | (refine ops_nil ?_; intro e2 h2; simp only [restr, kpEnds, List.map_cons, List.map_nil, Ev.get, reduceIte, Nat.reduceEqDiff] at h2; subst h2))
          refine runs_cond rfl (fun hc => ?_) (fun hc => ?_)
          · have hi1 : i < l.length := by have := of_decide_eq_true hc; omega
            have f2 := atNodes (g := g) (kk := .i64) hi1
            have f3 := endsNG_eq (l.getD i nd0)
            have h3 := endsN_len (l.getD i nd0)
            have hN := flat_next (f := endsN) (d := nd0) hi1
            generalize endsN (l.getD i nd0) = L at f3 h3 hN
            repeat (first
              | refine runs_seq ?_ | refine runs_block ?_ | refine next_normal ?_ | refine inside_normal ?_ | refine next_exit ?_ | refine inside_exit ?_ | refine inside_other (by decide) ?_ | refine next_ret ?_ | refine inside_ret ?_
              | refine runs_ops_kept ?_ | refine runs_skip ?_ | refine runs_exit ?_ | refine runs_ret ?_
              | ((first | refine' ops_op rfl rfl (by decide) ?_ ?_ ?_ | refine' ops_yes rfl rfl (by simp only [Ev.get, reduceIte, Nat.reduceEqDiff, szStr, szInt, Option.getD_some, isNil, evStr, loadStr, loadInt, mkInts0, mkInts1, mkInts2, mkInts3, rowsI_len, rowsN_len, fldOp, ldOp, ldNode, zeroNode, okNode, newNode, putRow, topRow, mapRow, evMinMax, evFoldI, f2, t2, f3]; first | done | rfl) rfl (by decide) ?_ ?_ ?_ | refine' ops_op0 rfl rfl ?_ ?_ ?_); rotate_left 2; (focus (simp only [evOp, opd, constAV, constCell, Ev.get, reduceIte, Nat.reduceEqDiff, reduceCtorEq, evBinN, nilCmp, evBin, evInt, evUn, evConvert, evBuiltin, evLen, evField, evPart, tStr, tInt, tElem, tArr, tBool, tAgg, tField, Try.underlying9, Try.underlying3, Try.underlying4, Try.underlying5, Try.underlying21, Try.underlying121, Try.underlying38, Try.underlying25, Try.underlying135, Try.underlying33, Try.underlying2, Try.underlying147, Try.underlying22, Try.underlying56, Try.underlying54, List.zipWith, Option.map_some, Option.map_none, List.length_cons, List.length_nil, ne_eq, Int.reduceEq, not_false_eq_true, and_self, and_true, true_and, szStr, szInt, Option.getD_some, isNil, evStr, loadStr, loadInt, mkInts0, mkInts1, mkInts2, mkInts3, rowsI_len, rowsN_len, fldOp, ldOp, ldNode, zeroNode, okNode, newNode, putRow, topRow, mapRow, evMinMax, evFoldI, evCall, List.size_toArray, List.append_nil, List.nil_append, List.map_cons, List.map_nil, argAV, argCell, List.toList_toArray, fieldTy, f2, t2, f3]; first | done | rfl)); exact (fun h => by first | rfl | (simp at h; done) | exact absurd (Bool.and_eq_true_iff.mp h).2 (by decide)))
              | refine ops_no rfl rfl (by simp only [Ev.get, reduceIte, Nat.reduceEqDiff, szStr, szInt, Option.getD_some, isNil, evStr, loadStr, loadInt, mkInts0, mkInts1, mkInts2, mkInts3, rowsI_len, rowsN_len, fldOp, ldOp, ldNode, zeroNode, okNode, newNode, putRow, topRow, mapRow, evMinMax, evFoldI, f2, t2, f3]; first | done | rfl) (by decide) rfl (by decide) ?_
              | refine ops_off rfl rfl rfl rfl (by decide) ?_
              | (refine ops_nil ?_; intro e2 h2; simp only [restr, kpEnds, List.map_cons, List.map_nil, Ev.get, reduceIte, Nat.reduceEqDiff] at h2; subst h2))
            refine runs_loop (fun k e m'' => ∃ (lo2 hi2 : Int) (j : Nat), j ≤ L.length ∧ (lo2, hi2) = lohi (lo, hi) (L.take j) ∧ Above m m'' ∧ k = L.length - j ∧
              e = [(2, .v (.int .i64 lo2)), (3, .v (.int .i64 hi2)), (11, .lst g 7 (rowsN l)), (12, .v (.int .i64 (l.length : Int))), (13, .v (.int .i64 (i : Int))), (18, .lst .no 1 (rowsI L)), (19, .v (.int .i64 (L.length : Int))), (20, .v (.int .i64 (j : Int)))]) (k := L.length)
              ⟨_, _, 0, Nat.zero_le _, rfl, above_push hA, rfl, rfl⟩ ?_
            rintro k e m'' ⟨lo2, hi2, j, hj0, hL2, hA2, rfl, rfl⟩
            repeat (first
              | refine runs_seq ?_ | refine runs_block ?_ | refine next_normal ?_ | refine inside_normal ?_ | refine next_exit ?_ | refine inside_exit ?_ | refine inside_other (by decide) ?_ | refine next_ret ?_ | refine inside_ret ?_
              | refine runs_ops_kept ?_ | refine runs_skip ?_ | refine runs_exit ?_ | refine runs_ret ?_
              | ((first | refine' ops_op rfl rfl (by decide) ?_ ?_ ?_ | refine' ops_yes rfl rfl (by simp only [Ev.get, reduceIte, Nat.reduceEqDiff, szStr, szInt, Option.getD_some, isNil, evStr, loadStr, loadInt, mkInts0, mkInts1, mkInts2, mkInts3, rowsI_len, rowsN_len, fldOp, ldOp, ldNode, zeroNode, okNode, newNode, putRow, topRow, mapRow, evMinMax, evFoldI]; first | done | rfl) rfl (by decide) ?_ ?_ ?_ | refine' ops_op0 rfl rfl ?_ ?_ ?_); rotate_left 2; (focus (simp only [evOp, opd, constAV, constCell, Ev.get, reduceIte, Nat.reduceEqDiff, reduceCtorEq, evBinN, nilCmp, evBin, evInt, evUn, evConvert, evBuiltin, evLen, evField, evPart, tStr, tInt, tElem, tArr, tBool, tAgg, tField, Try.underlying9, Try.underlying3, Try.underlying4, Try.underlying5, Try.underlying21, Try.underlying121, Try.underlying38, Try.underlying25, Try.underlying135, Try.underlying33, Try.underlying2, Try.underlying147, Try.underlying22, Try.underlying56, Try.underlying54, List.zipWith, Option.map_some, Option.map_none, List.length_cons, List.length_nil, ne_eq, Int.reduceEq, not_false_eq_true, and_self, and_true, true_and, szStr, szInt, Option.getD_some, isNil, evStr, loadStr, loadInt, mkInts0, mkInts1, mkInts2, mkInts3, rowsI_len, rowsN_len, fldOp, ldOp, ldNode, zeroNode, okNode, newNode, putRow, topRow, mapRow, evMinMax, evFoldI, evCall, List.size_toArray, List.append_nil, List.nil_append, List.map_cons, List.map_nil, argAV, argCell, List.toList_toArray, fieldTy]; first | done | rfl)); exact (fun h => by first | rfl | (simp at h; done) | exact absurd (Bool.and_eq_true_iff.mp h).2 (by decide)))
              | refine ops_no rfl rfl (by simp only [Ev.get, reduceIte, Nat.reduceEqDiff, szStr, szInt, Option.getD_some, isNil, evStr, loadStr, loadInt, mkInts0, mkInts1, mkInts2, mkInts3, rowsI_len, rowsN_len, fldOp, ldOp, ldNode, zeroNode, okNode, newNode, putRow, topRow, mapRow, evMinMax, evFoldI]; first | done | rfl) (by decide) rfl (by decide) ?_
              | refine ops_off rfl rfl rfl rfl (by decide) ?_
              | (refine ops_nil ?_; intro e2 h2; simp only [restr, kpEnds, List.map_cons, List.map_nil, Ev.get, reduceIte, Nat.reduceEqDiff] at h2; subst h2))
            refine runs_cond rfl (fun hc => ?_) (fun hc => ?_)
            · have hj1 : j < L.length := by have := of_decide_eq_true hc; omega
              have f4 := atInts (g := .no) (kk := .i64) hj1
              have r6 := next_i64 (i := j) (by omega)
              repeat (first
                | refine runs_seq ?_ | refine runs_block ?_ | refine next_normal ?_ | refine inside_normal ?_ | refine next_exit ?_ | refine inside_exit ?_ | refine inside_other (by decide) ?_ | refine next_ret ?_ | refine inside_ret ?_
                | refine runs_ops_kept ?_ | refine runs_skip ?_ | refine runs_exit ?_ | refine runs_ret ?_
                | ((first | refine' ops_op rfl rfl (by decide) ?_ ?_ ?_ | refine' ops_yes rfl rfl (by simp only [Ev.get, reduceIte, Nat.reduceEqDiff, szStr, szInt, Option.getD_some, isNil, evStr, loadStr, loadInt, mkInts0, mkInts1, mkInts2, mkInts3, rowsI_len, rowsN_len, fldOp, ldOp, ldNode, zeroNode, okNode, newNode, putRow, topRow, mapRow, evMinMax, evFoldI, f4, r6]; first | done | rfl) rfl (by decide) ?_ ?_ ?_ | refine' ops_op0 rfl rfl ?_ ?_ ?_); rotate_left 2; (focus (simp only [evOp, opd, constAV, constCell, Ev.get, reduceIte, Nat.reduceEqDiff, reduceCtorEq, evBinN, nilCmp, evBin, evInt, evUn, evConvert, evBuiltin, evLen, evField, evPart, tStr, tInt, tElem, tArr, tBool, tAgg, tField, Try.underlying9, Try.underlying3, Try.underlying4, Try.underlying5, Try.underlying21, Try.underlying121, Try.underlying38, Try.underlying25, Try.underlying135, Try.underlying33, Try.underlying2, Try.underlying147, Try.underlying22, Try.underlying56, Try.underlying54, List.zipWith, Option.map_some, Option.map_none, List.length_cons, List.length_nil, ne_eq, Int.reduceEq, not_false_eq_true, and_self, and_true, true_and, szStr, szInt, Option.getD_some, isNil, evStr, loadStr, loadInt, mkInts0, mkInts1, mkInts2, mkInts3, rowsI_len, rowsN_len, fldOp, ldOp, ldNode, zeroNode, okNode, newNode, putRow, topRow, mapRow, evMinMax, evFoldI, evCall, List.size_toArray, List.append_nil, List.nil_append, List.map_cons, List.map_nil, argAV, argCell, List.toList_toArray, fieldTy, f4, r6]; first | done | rfl)); exact (fun h => by first | rfl | (simp at h; done) | exact absurd (Bool.and_eq_true_iff.mp h).2 (by decide)))
                | refine ops_no rfl rfl (by simp only [Ev.get, reduceIte, Nat.reduceEqDiff, szStr, szInt, Option.getD_some, isNil, evStr, loadStr, loadInt, mkInts0, mkInts1, mkInts2, mkInts3, rowsI_len, rowsN_len, fldOp, ldOp, ldNode, zeroNode, okNode, newNode, putRow, topRow, mapRow, evMinMax, evFoldI, f4, r6]; first | done | rfl) (by decide) rfl (by decide) ?_
                | refine ops_off rfl rfl rfl rfl (by decide) ?_
                | (refine ops_nil ?_; intro e2 h2; simp only [restr, kpEnds, List.map_cons, List.map_nil, Ev.get, reduceIte, Nat.reduceEqDiff] at h2; subst h2))
              refine ⟨L.length - (j + 1), by omega, _, _, j + 1, hj1, ?_, hA2, rfl, rfl⟩
              rw [lohi_next hj1, ← hL2]
            · have hj1 : j = L.length := by have := of_decide_eq_false hc; omega
              subst hj1
              have r6 := next_i64 (i := i) (by omega)
              repeat (first
                | refine runs_seq ?_ | refine runs_block ?_ | refine next_normal ?_ | refine inside_normal ?_ | refine next_exit ?_ | refine inside_exit ?_ | refine inside_other (by decide) ?_ | refine next_ret ?_ | refine inside_ret ?_
                | refine runs_ops_kept ?_ | refine runs_skip ?_ | refine runs_exit ?_ | refine runs_ret ?_
                | ((first | refine' ops_op rfl rfl (by decide) ?_ ?_ ?_ | refine' ops_yes rfl rfl (by simp only [Ev.get, reduceIte, Nat.reduceEqDiff, szStr, szInt, Option.getD_some, isNil, evStr, loadStr, loadInt, mkInts0, mkInts1, mkInts2, mkInts3, rowsI_len, rowsN_len, fldOp, ldOp, ldNode, zeroNode, okNode, newNode, putRow, topRow, mapRow, evMinMax, evFoldI, r6]; first | done | rfl) rfl (by decide) ?_ ?_ ?_ | refine' ops_op0 rfl rfl ?_ ?_ ?_); rotate_left 2; (focus (simp only [evOp, opd, constAV, constCell, Ev.get, reduceIte, Nat.reduceEqDiff, reduceCtorEq, evBinN, nilCmp, evBin, evInt, evUn, evConvert, evBuiltin, evLen, evField, evPart, tStr, tInt, tElem, tArr, tBool, tAgg, tField, Try.underlying9, Try.underlying3, Try.underlying4, Try.underlying5, Try.underlying21, Try.underlying121, Try.underlying38, Try.underlying25, Try.underlying135, Try.underlying33, Try.underlying2, Try.underlying147, Try.underlying22, Try.underlying56, Try.underlying54, List.zipWith, Option.map_some, Option.map_none, List.length_cons, List.length_nil, ne_eq, Int.reduceEq, not_false_eq_true, and_self, and_true, true_and, szStr, szInt, Option.getD_some, isNil, evStr, loadStr, loadInt, mkInts0, mkInts1, mkInts2, mkInts3, rowsI_len, rowsN_len, fldOp, ldOp, ldNode, zeroNode, okNode, newNode, putRow, topRow, mapRow, evMinMax, evFoldI, evCall, List.size_toArray, List.append_nil, List.nil_append, List.map_cons, List.map_nil, argAV, argCell, List.toList_toArray, fieldTy, r6]; first | done | rfl)); exact (fun h => by first | rfl | (simp at h; done) | exact absurd (Bool.and_eq_true_iff.mp h).2 (by decide)))
                | refine ops_no rfl rfl (by simp only [Ev.get, reduceIte, Nat.reduceEqDiff, szStr, szInt, Option.getD_some, isNil, evStr, loadStr, loadInt, mkInts0, mkInts1, mkInts2, mkInts3, rowsI_len, rowsN_len, fldOp, ldOp, ldNode, zeroNode, okNode, newNode, putRow, topRow, mapRow, evMinMax, evFoldI, r6]; first | done | rfl) (by decide) rfl (by decide) ?_
                | refine ops_off rfl rfl rfl rfl (by decide) ?_
                | (refine ops_nil ?_; intro e2 h2; simp only [restr, kpEnds, List.map_cons, List.map_nil, Ev.get, reduceIte, Nat.reduceEqDiff] at h2; subst h2))
              refine ⟨l.length - (i + 1), by omega, _, _, i + 1, hi1, ?_, hA2, rfl, rfl⟩
              rw [hN, lohi_app, ← hL, hL2, List.take_length]
          · have hi1 : i = l.length := by have := of_decide_eq_false hc; omega
            subst hi1
            rw [List.take_length, ← hE] at hL
            repeat (first
              | refine runs_seq ?_ | refine runs_block ?_ | refine next_normal ?_ | refine inside_normal ?_ | refine next_exit ?_ | refine inside_exit ?_ | refine inside_other (by decide) ?_ | refine next_ret ?_ | refine inside_ret ?_
              | refine runs_ops_kept ?_ | refine runs_skip ?_ | refine runs_exit ?_ | refine runs_ret ?_
              | ((first | refine' ops_op rfl rfl (by decide) ?_ ?_ ?_ | refine' ops_yes rfl rfl (by simp only [Ev.get, reduceIte, Nat.reduceEqDiff, szStr, szInt, Option.getD_some, isNil, evStr, loadStr, loadInt, mkInts0, mkInts1, mkInts2, mkInts3, rowsI_len, rowsN_len, fldOp, ldOp, ldNode, zeroNode, okNode, newNode, putRow, topRow, mapRow, evMinMax, evFoldI]; first | done | rfl) rfl (by decide) ?_ ?_ ?_ | refine' ops_op0 rfl rfl ?_ ?_ ?_); rotate_left 2; (focus (simp only [evOp, opd, constAV, constCell, Ev.get, reduceIte, Nat.reduceEqDiff, reduceCtorEq, evBinN, nilCmp, evBin, evInt, evUn, evConvert, evBuiltin, evLen, evField, evPart, tStr, tInt, tElem, tArr, tBool, tAgg, tField, Try.underlying9, Try.underlying3, Try.underlying4, Try.underlying5, Try.underlying21, Try.underlying121, Try.underlying38, Try.underlying25, Try.underlying135, Try.underlying33, Try.underlying2, Try.underlying147, Try.underlying22, Try.underlying56, Try.underlying54, List.zipWith, Option.map_some, Option.map_none, List.length_cons, List.length_nil, ne_eq, Int.reduceEq, not_false_eq_true, and_self, and_true, true_and, szStr, szInt, Option.getD_some, isNil, evStr, loadStr, loadInt, mkInts0, mkInts1, mkInts2, mkInts3, rowsI_len, rowsN_len, fldOp, ldOp, ldNode, zeroNode, okNode, newNode, putRow, topRow, mapRow, evMinMax, evFoldI, evCall, List.size_toArray, List.append_nil, List.nil_append, List.map_cons, List.map_nil, argAV, argCell, List.toList_toArray, fieldTy]; first | done | rfl)); exact (fun h => by first | rfl | (simp at h; done) | exact absurd (Bool.and_eq_true_iff.mp h).2 (by decide)))
              | refine ops_no rfl rfl (by simp only [Ev.get, reduceIte, Nat.reduceEqDiff, szStr, szInt, Option.getD_some, isNil, evStr, loadStr, loadInt, mkInts0, mkInts1, mkInts2, mkInts3, rowsI_len, rowsN_len, fldOp, ldOp, ldNode, zeroNode, okNode, newNode, putRow, topRow, mapRow, evMinMax, evFoldI]; first | done | rfl) (by decide) rfl (by decide) ?_
              | refine ops_off rfl rfl rfl rfl (by decide) ?_
              | (refine ops_nil ?_; intro e2 h2; simp only [restr, kpEnds, List.map_cons, List.map_nil, Ev.get, reduceIte, Nat.reduceEqDiff] at h2; subst h2))
            rw [← hL]
            exact leaves_two rfl rfl rfl (above_fin hA)
        · have b1 : (checkT l != 0) = true := by rw [bne_iff_ne]; exact hc0
          rw [show endsL l = (0, 0) from if_neg hc0]
          repeat (first
            | refine runs_seq ?_ | refine runs_block ?_ | refine next_normal ?_ | refine inside_normal ?_ | refine next_exit ?_ | refine inside_exit ?_ | refine inside_other (by decide) ?_ | refine next_ret ?_ | refine inside_ret ?_
            | refine runs_ops_kept ?_ | refine runs_skip ?_ | refine runs_exit ?_ | refine runs_ret ?_
            | ((first | refine' ops_op rfl rfl (by decide) ?_ ?_ ?_ | refine' ops_yes rfl rfl (by simp only [Ev.get, reduceIte, Nat.reduceEqDiff, szStr, szInt, Option.getD_some, isNil, evStr, loadStr, loadInt, mkInts0, mkInts1, mkInts2, mkInts3, rowsI_len, rowsN_len, fldOp, ldOp, ldNode, zeroNode, okNode, newNode, putRow, topRow, mapRow, evMinMax, evFoldI, t1, f1, b1]; first | done | rfl) rfl (by decide) ?_ ?_ ?_ | refine' ops_op0 rfl rfl ?_ ?_ ?_); rotate_left 2; (focus (simp only [evOp, opd, constAV, constCell, Ev.get, reduceIte, Nat.reduceEqDiff, reduceCtorEq, evBinN, nilCmp, evBin, evInt, evUn, evConvert, evBuiltin, evLen, evField, evPart, tStr, tInt, tElem, tArr, tBool, tAgg, tField, Try.underlying9, Try.underlying3, Try.underlying4, Try.underlying5, Try.underlying21, Try.underlying121, Try.underlying38, Try.underlying25, Try.underlying135, Try.underlying33, Try.underlying2, Try.underlying147, Try.underlying22, Try.underlying56, Try.underlying54, List.zipWith, Option.map_some, Option.map_none, List.length_cons, List.length_nil, ne_eq, Int.reduceEq, not_false_eq_true, and_self, and_true, true_and, szStr, szInt, Option.getD_some, isNil, evStr, loadStr, loadInt, mkInts0, mkInts1, mkInts2, mkInts3, rowsI_len, rowsN_len, fldOp, ldOp, ldNode, zeroNode, okNode, newNode, putRow, topRow, mapRow, evMinMax, evFoldI, evCall, List.size_toArray, List.append_nil, List.nil_append, List.map_cons, List.map_nil, argAV, argCell, List.toList_toArray, fieldTy, t1, f1, b1]; first | done | rfl)); exact (fun h => by first | rfl | (simp at h; done) | exact absurd (Bool.and_eq_true_iff.mp h).2 (by decide)))
            | refine ops_no rfl rfl (by simp only [Ev.get, reduceIte, Nat.reduceEqDiff, szStr, szInt, Option.getD_some, isNil, evStr, loadStr, loadInt, mkInts0, mkInts1, mkInts2, mkInts3, rowsI_len, rowsN_len, fldOp, ldOp, ldNode, zeroNode, okNode, newNode, putRow, topRow, mapRow, evMinMax, evFoldI, t1, f1, b1]; first | done | rfl) (by decide) rfl (by decide) ?_
            | refine ops_off rfl rfl rfl rfl (by decide) ?_
            | (refine ops_nil ?_; intro e2 h2; simp only [restr, kpEnds, List.map_cons, List.map_nil, Ev.get, reduceIte, Nat.reduceEqDiff] at h2; subst h2))
          refine runs_cond rfl (fun hc => ?_) (fun hc => by cases hc)
          repeat (first
            | refine runs_seq ?_ | refine runs_block ?_ | refine next_normal ?_ | refine inside_normal ?_ | refine next_exit ?_ | refine inside_exit ?_ | refine inside_other (by decide) ?_ | refine next_ret ?_ | refine inside_ret ?_
            | refine runs_ops_kept ?_ | refine runs_skip ?_ | refine runs_exit ?_ | refine runs_ret ?_
            | ((first | refine' ops_op rfl rfl (by decide) ?_ ?_ ?_ | refine' ops_yes rfl rfl (by simp only [Ev.get, reduceIte, Nat.reduceEqDiff, szStr, szInt, Option.getD_some, isNil, evStr, loadStr, loadInt, mkInts0, mkInts1, mkInts2, mkInts3, rowsI_len, rowsN_len, fldOp, ldOp, ldNode, zeroNode, okNode, newNode, putRow, topRow, mapRow, evMinMax, evFoldI]; first | done | rfl) rfl (by decide) ?_ ?_ ?_ | refine' ops_op0 rfl rfl ?_ ?_ ?_); rotate_left 2; (focus (simp only [evOp, opd, constAV, constCell, Ev.get, reduceIte, Nat.reduceEqDiff, reduceCtorEq, evBinN, nilCmp, evBin, evInt, evUn, evConvert, evBuiltin, evLen, evField, evPart, tStr, tInt, tElem, tArr, tBool, tAgg, tField, Try.underlying9, Try.underlying3, Try.underlying4, Try.underlying5, Try.underlying21, Try.underlying121, Try.underlying38, Try.underlying25, Try.underlying135, Try.underlying33, Try.underlying2, Try.underlying147, Try.underlying22, Try.underlying56, Try.underlying54, List.zipWith, Option.map_some, Option.map_none, List.length_cons, List.length_nil, ne_eq, Int.reduceEq, not_false_eq_true, and_self, and_true, true_and, szStr, szInt, Option.getD_some, isNil, evStr, loadStr, loadInt, mkInts0, mkInts1, mkInts2, mkInts3, rowsI_len, rowsN_len, fldOp, ldOp, ldNode, zeroNode, okNode, newNode, putRow, topRow, mapRow, evMinMax, evFoldI, evCall, List.size_toArray, List.append_nil, List.nil_append, List.map_cons, List.map_nil, argAV, argCell, List.toList_toArray, fieldTy]; first | done | rfl)); exact (fun h => by first | rfl | (simp at h; done) | exact absurd (Bool.and_eq_true_iff.mp h).2 (by decide)))
            | refine ops_no rfl rfl (by simp only [Ev.get, reduceIte, Nat.reduceEqDiff, szStr, szInt, Option.getD_some, isNil, evStr, loadStr, loadInt, mkInts0, mkInts1, mkInts2, mkInts3, rowsI_len, rowsN_len, fldOp, ldOp, ldNode, zeroNode, okNode, newNode, putRow, topRow, mapRow, evMinMax, evFoldI]; first | done | rfl) (by decide) rfl (by decide) ?_
            | refine ops_off rfl rfl rfl rfl (by decide) ?_
            | (refine ops_nil ?_; intro e2 h2; simp only [restr, kpEnds, List.map_cons, List.map_nil, Ev.get, reduceIte, Nat.reduceEqDiff] at h2; subst h2))
          exact leaves_vv rfl rfl rfl
      · cases h
    · cases h
  · cases h
/-! ### all numbers, the document's way -/
def numsN (x : Nd) : List Int := if x.op = 9 then [] else [x.a] ++ (if 2 ≤ x.op ∧ x.op ≤ 7 then [x.b] else []) ++ (if x.op = 6 then [x.c] else [])
theorem numsN_len (x : Nd) : (numsN x).length ≤ 3 := by
  unfold numsN
  split
  · simp
  · split <;> split <;> simp
theorem numsN_ends {x : Nd} (h : 1 ≤ x.op ∧ x.op ≤ 9) : numsN x = endsN x := by
  unfold numsN endsN
  by_cases h9 : x.op = 9
  · rw [if_pos h9, if_pos h9]
  rw [if_neg h9, if_neg h9]
  by_cases h1 : x.op = 1 ∨ x.op = 8
  · rw [if_pos h1, if_neg (by omega), if_neg (by omega)]; rfl
  rw [if_neg h1, if_pos (by omega)]
  by_cases h6 : x.op = 6
  · rw [if_pos h6, if_pos h6]; rfl
  · rw [if_neg h6, if_neg h6]; rfl
theorem numsL_len (l : List Nd) : (l.flatMap numsN).length ≤ 3 * l.length := by
  induction l with
  | nil => simp
  | cons x l ih =>
    have := numsN_len x
    simp only [List.flatMap_cons, List.length_append, List.length_cons]
    omega
def numsG : List AV → Mem → Option (AV × Mem)
  | [.lst _ 7 rows], m =>
    match unN rows with
    | some l => if l.length ≤ 1000 then some (.lst .no 1 (rowsI (l.flatMap numsN)), m) else none
    | none => none
  | _, _ => none
theorem numsG_eq {m : Mem} {g : Grow} {l : List Nd} (h : l.length ≤ 1000) : numsG [.lst g 7 (rowsN l)] m = some (.lst .no 1 (rowsI (l.flatMap numsN)), m) := by
  simp only [numsG, unN_rowsN]
  rw [if_pos h]
theorem fldA {x : Nd} : evFieldAddr Try.prog 56 (.eptr x.row) 1 = some (.eptr (x.row.drop 1)) := by kernel_rfl
theorem fldB {x : Nd} : evFieldAddr Try.prog 56 (.eptr x.row) 2 = some (.eptr (x.row.drop 2)) := by kernel_rfl
theorem fldC {x : Nd} : evFieldAddr Try.prog 56 (.eptr x.row) 3 = some (.eptr (x.row.drop 3)) := by kernel_rfl
theorem ldA {m : Mem} {x : Nd} : evLoad Try.prog m 3 (.eptr (x.row.drop 1)) = some (.v (.int .i64 x.a)) := loadInt
theorem ldB {m : Mem} {x : Nd} : evLoad Try.prog m 3 (.eptr (x.row.drop 2)) = some (.v (.int .i64 x.b)) := loadInt
theorem ldC {m : Mem} {x : Nd} : evLoad Try.prog m 3 (.eptr (x.row.drop 3)) = some (.v (.int .i64 x.c)) := loadInt
def kpNums : Nat → Option (List Nat) := fun
  | 0 => some [0]
  | 1 => some [0, 3]
  | 2 => some [0, 3, 4]
  | 3 => some [0, 3, 4, 9]
  | 4 => some [0, 3, 4]
  | 5 => some [0, 3, 4, 17]
  | 6 => some [0, 3, 4]
  | 7 => some [0, 3, 4, 39]
  | 8 => some [0, 3, 4]
  | 9 => some [0, 3, 4, 53]
  | 10 => some [0, 3, 4]
  | 11 => some [2]
  | _ => none
theorem nums_ok : FunOk Try.prog 23 numsG := by
  have hC := table_ok (P := Try.prog) (l := []) table_nil
  refine fun_ok mixed hC Try.func23 rfl kpNums false rfl fun args m r h => ?_
  unfold numsG at h
  split at h
  · rename_i g rows
    split at h
    · rename_i l hl0
      obtain rfl := unN_some hl0
      split at h
      · rename_i hlen
        simp only [Option.some.injEq] at h
        subst h
        refine ⟨Nat.le_of_ble_eq_true rfl, ?_⟩
        simp only [entry, List.length_cons, List.length_nil, List.range, List.range.loop, List.zip_cons_cons, List.zip_nil_right]
        repeat (first
          | refine runs_seq ?_ | refine runs_block ?_ | refine next_normal ?_ | refine inside_normal ?_ | refine next_exit ?_ | refine inside_exit ?_ | refine inside_other (by decide) ?_ | refine next_ret ?_ | refine inside_ret ?_
          | refine runs_ops_kept ?_ | refine runs_skip ?_ | refine runs_exit ?_ | refine runs_ret ?_
          | ((first | refine' ops_op rfl rfl (by decide) ?_ ?_ ?_ | refine' ops_yes rfl rfl (by simp only [Ev.get, reduceIte, Nat.reduceEqDiff, szStr, szInt, Option.getD_some, isNil, evStr, mkInts0, mkInts1, rowsI_len, rowsN_len, fldOp, ldOp, fldA, fldB, fldC, ldA, ldB, ldC]; first | done | rfl) rfl (by decide) ?_ ?_ ?_ | refine' ops_op0 rfl rfl ?_ ?_ ?_); rotate_left 2; (focus (simp only [evOp, opd, constAV, constCell, Ev.get, reduceIte, Nat.reduceEqDiff, reduceCtorEq, evBinN, nilCmp, evBin, evInt, evUn, evConvert, evBuiltin, evLen, evField, evPart, tStr, tInt, tElem, tArr, tBool, tAgg, tField, Try.underlying9, Try.underlying3, Try.underlying4, Try.underlying5, Try.underlying21, Try.underlying121, Try.underlying38, Try.underlying25, Try.underlying135, Try.underlying33, Try.underlying2, Try.underlying147, Try.underlying22, Try.underlying56, Try.underlying54, List.zipWith, Option.map_some, Option.map_none, List.length_cons, List.length_nil, ne_eq, Int.reduceEq, not_false_eq_true, and_self, and_true, true_and, szStr, szInt, Option.getD_some, isNil, evStr, mkInts0, mkInts1, rowsI_len, rowsN_len, fldOp, ldOp, fldA, fldB, fldC, ldA, ldB, ldC, evCall, List.size_toArray, List.append_nil, List.nil_append, List.map_cons, List.map_nil, argAV, argCell, List.toList_toArray, fieldTy]; first | done | rfl)); exact (fun h => by first | rfl | (simp at h; done) | exact absurd (Bool.and_eq_true_iff.mp h).2 (by decide)))
          | refine ops_no rfl rfl (by simp only [Ev.get, reduceIte, Nat.reduceEqDiff, szStr, szInt, Option.getD_some, isNil, evStr, mkInts0, mkInts1, rowsI_len, rowsN_len, fldOp, ldOp, fldA, fldB, fldC, ldA, ldB, ldC]; first | done | rfl) (by decide) rfl (by decide) ?_
          | refine ops_off rfl rfl rfl rfl (by decide) ?_
          | (refine ops_nil ?_; intro e2 h2; simp only [restr, kpNums, List.map_cons, List.map_nil, Ev.get, reduceIte, Nat.reduceEqDiff] at h2; subst h2))
        refine runs_loop (fun k e m' => ∃ (i : Nat) (gr : Grow), i ≤ l.length ∧ Grows m gr m' ∧ k = l.length - i ∧
          e = [(0, .lst g 7 (rowsN l)), (3, .lst gr 1 (rowsI ((l.take i).flatMap numsN))), (4, .v (.int .i64 (i : Int)))]) (k := l.length) ⟨0, _, Nat.zero_le _, grows_full, rfl, rfl⟩ ?_
        rintro k e m' ⟨i, gr, hi0, hG, rfl, rfl⟩
        repeat (first
          | refine runs_seq ?_ | refine runs_block ?_ | refine next_normal ?_ | refine inside_normal ?_ | refine next_exit ?_ | refine inside_exit ?_ | refine inside_other (by decide) ?_ | refine next_ret ?_ | refine inside_ret ?_
          | refine runs_ops_kept ?_ | refine runs_skip ?_ | refine runs_exit ?_ | refine runs_ret ?_
          | ((first | refine' ops_op rfl rfl (by decide) ?_ ?_ ?_ | refine' ops_yes rfl rfl (by simp only [Ev.get, reduceIte, Nat.reduceEqDiff, szStr, szInt, Option.getD_some, isNil, evStr, mkInts0, mkInts1, rowsI_len, rowsN_len, fldOp, ldOp, fldA, fldB, fldC, ldA, ldB, ldC]; first | done | rfl) rfl (by decide) ?_ ?_ ?_ | refine' ops_op0 rfl rfl ?_ ?_ ?_); rotate_left 2; (focus (simp only [evOp, opd, constAV, constCell, Ev.get, reduceIte, Nat.reduceEqDiff, reduceCtorEq, evBinN, nilCmp, evBin, evInt, evUn, evConvert, evBuiltin, evLen, evField, evPart, tStr, tInt, tElem, tArr, tBool, tAgg, tField, Try.underlying9, Try.underlying3, Try.underlying4, Try.underlying5, Try.underlying21, Try.underlying121, Try.underlying38, Try.underlying25, Try.underlying135, Try.underlying33, Try.underlying2, Try.underlying147, Try.underlying22, Try.underlying56, Try.underlying54, List.zipWith, Option.map_some, Option.map_none, List.length_cons, List.length_nil, ne_eq, Int.reduceEq, not_false_eq_true, and_self, and_true, true_and, szStr, szInt, Option.getD_some, isNil, evStr, mkInts0, mkInts1, rowsI_len, rowsN_len, fldOp, ldOp, fldA, fldB, fldC, ldA, ldB, ldC, evCall, List.size_toArray, List.append_nil, List.nil_append, List.map_cons, List.map_nil, argAV, argCell, List.toList_toArray, fieldTy]; first | done | rfl)); exact (fun h => by first | rfl | (simp at h; done) | exact absurd (Bool.and_eq_true_iff.mp h).2 (by decide)))
          | refine ops_no rfl rfl (by simp only [Ev.get, reduceIte, Nat.reduceEqDiff, szStr, szInt, Option.getD_some, isNil, evStr, mkInts0, mkInts1, rowsI_len, rowsN_len, fldOp, ldOp, fldA, fldB, fldC, ldA, ldB, ldC]; first | done | rfl) (by decide) rfl (by decide) ?_
          | refine ops_off rfl rfl rfl rfl (by decide) ?_
          | (refine ops_nil ?_; intro e2 h2; simp only [restr, kpNums, List.map_cons, List.map_nil, Ev.get, reduceIte, Nat.reduceEqDiff] at h2; subst h2))
        refine runs_cond rfl (fun hc => ?_) (fun hc => ?_)
        · have hi1 : i < l.length := by have := of_decide_eq_true hc; omega
          have f2 := atNodes (g := g) (kk := .i64) hi1
          have hN := flat_next (f := numsN) (d := nd0) hi1
          have hlen2 := numsL_len (l.take i)
          rw [List.length_take] at hlen2
          have r6 := next_i64 (i := i) (by omega)
          have hx : numsN (l.getD i nd0) = if (l.getD i nd0).op = 9 then [] else [(l.getD i nd0).a] ++ (if 2 ≤ (l.getD i nd0).op ∧ (l.getD i nd0).op ≤ 7 then [(l.getD i nd0).b] else []) ++ (if (l.getD i nd0).op = 6 then [(l.getD i nd0).c] else []) := rfl
          generalize l.getD i nd0 = x at f2 hN hx
          generalize (l.take i).flatMap numsN = acc at hN hlen2
          have done : ∀ (gr' : Grow) (m2 : Mem) (L : List Int), L = acc ++ numsN x → Grows m gr' m2 → ∃ k', k' < l.length - i ∧ ∃ (i' : Nat) (gr2 : Grow), i' ≤ l.length ∧ Grows m gr2 m2 ∧ k' = l.length - i' ∧
              [(0, AV.lst g 7 (rowsN l)), (3, .lst gr' 1 (rowsI L)), (4, .v (.int .i64 ((i + 1 : Nat) : Int)))] = [(0, .lst g 7 (rowsN l)), (3, .lst gr2 1 (rowsI ((l.take i').flatMap numsN))), (4, .v (.int .i64 (i' : Int)))] :=
            fun gr' m2 L hL hG' => ⟨l.length - (i + 1), by omega, i + 1, gr', hi1, hG', rfl, by rw [hL, hN]⟩
          by_cases h9 : x.op = 9
          · have b9 : (x.op == 9) = true := by simpa using h9
            rw [if_pos h9] at hx
            repeat (first
              | refine runs_seq ?_ | refine runs_block ?_ | refine next_normal ?_ | refine inside_normal ?_ | refine next_exit ?_ | refine inside_exit ?_ | refine inside_other (by decide) ?_ | refine next_ret ?_ | refine inside_ret ?_
              | refine runs_ops_kept ?_ | refine runs_skip ?_ | refine runs_exit ?_ | refine runs_ret ?_
              | ((first | refine' ops_op rfl rfl (by decide) ?_ ?_ ?_ | refine' ops_yes rfl rfl (by simp only [Ev.get, reduceIte, Nat.reduceEqDiff, szStr, szInt, Option.getD_some, isNil, evStr, mkInts0, mkInts1, rowsI_len, rowsN_len, fldOp, ldOp, fldA, fldB, fldC, ldA, ldB, ldC, f2, b9]; first | done | rfl) rfl (by decide) ?_ ?_ ?_ | refine' ops_op0 rfl rfl ?_ ?_ ?_); rotate_left 2; (focus (simp only [evOp, opd, constAV, constCell, Ev.get, reduceIte, Nat.reduceEqDiff, reduceCtorEq, evBinN, nilCmp, evBin, evInt, evUn, evConvert, evBuiltin, evLen, evField, evPart, tStr, tInt, tElem, tArr, tBool, tAgg, tField, Try.underlying9, Try.underlying3, Try.underlying4, Try.underlying5, Try.underlying21, Try.underlying121, Try.underlying38, Try.underlying25, Try.underlying135, Try.underlying33, Try.underlying2, Try.underlying147, Try.underlying22, Try.underlying56, Try.underlying54, List.zipWith, Option.map_some, Option.map_none, List.length_cons, List.length_nil, ne_eq, Int.reduceEq, not_false_eq_true, and_self, and_true, true_and, szStr, szInt, Option.getD_some, isNil, evStr, mkInts0, mkInts1, rowsI_len, rowsN_len, fldOp, ldOp, fldA, fldB, fldC, ldA, ldB, ldC, evCall, List.size_toArray, List.append_nil, List.nil_append, List.map_cons, List.map_nil, argAV, argCell, List.toList_toArray, fieldTy, f2, b9]; first | done | rfl)); exact (fun h => by first | rfl | (simp at h; done) | exact absurd (Bool.and_eq_true_iff.mp h).2 (by decide)))
              | refine ops_no rfl rfl (by simp only [Ev.get, reduceIte, Nat.reduceEqDiff, szStr, szInt, Option.getD_some, isNil, evStr, mkInts0, mkInts1, rowsI_len, rowsN_len, fldOp, ldOp, fldA, fldB, fldC, ldA, ldB, ldC, f2, b9]; first | done | rfl) (by decide) rfl (by decide) ?_
              | refine ops_off rfl rfl rfl rfl (by decide) ?_
              | (refine ops_nil ?_; intro e2 h2; simp only [restr, kpNums, List.map_cons, List.map_nil, Ev.get, reduceIte, Nat.reduceEqDiff] at h2; subst h2))
            refine runs_cond rfl (fun hc => ?_) (fun hc => by cases hc)
            repeat (first
              | refine runs_seq ?_ | refine runs_block ?_ | refine next_normal ?_ | refine inside_normal ?_ | refine next_exit ?_ | refine inside_exit ?_ | refine inside_other (by decide) ?_ | refine next_ret ?_ | refine inside_ret ?_
              | refine runs_ops_kept ?_ | refine runs_skip ?_ | refine runs_exit ?_ | refine runs_ret ?_
              | ((first | refine' ops_op rfl rfl (by decide) ?_ ?_ ?_ | refine' ops_yes rfl rfl (by simp only [Ev.get, reduceIte, Nat.reduceEqDiff, szStr, szInt, Option.getD_some, isNil, evStr, mkInts0, mkInts1, rowsI_len, rowsN_len, fldOp, ldOp, fldA, fldB, fldC, ldA, ldB, ldC, r6]; first | done | rfl) rfl (by decide) ?_ ?_ ?_ | refine' ops_op0 rfl rfl ?_ ?_ ?_); rotate_left 2; (focus (simp only [evOp, opd, constAV, constCell, Ev.get, reduceIte, Nat.reduceEqDiff, reduceCtorEq, evBinN, nilCmp, evBin, evInt, evUn, evConvert, evBuiltin, evLen, evField, evPart, tStr, tInt, tElem, tArr, tBool, tAgg, tField, Try.underlying9, Try.underlying3, Try.underlying4, Try.underlying5, Try.underlying21, Try.underlying121, Try.underlying38, Try.underlying25, Try.underlying135, Try.underlying33, Try.underlying2, Try.underlying147, Try.underlying22, Try.underlying56, Try.underlying54, List.zipWith, Option.map_some, Option.map_none, List.length_cons, List.length_nil, ne_eq, Int.reduceEq, not_false_eq_true, and_self, and_true, true_and, szStr, szInt, Option.getD_some, isNil, evStr, mkInts0, mkInts1, rowsI_len, rowsN_len, fldOp, ldOp, fldA, fldB, fldC, ldA, ldB, ldC, evCall, List.size_toArray, List.append_nil, List.nil_append, List.map_cons, List.map_nil, argAV, argCell, List.toList_toArray, fieldTy, r6]; first | done | rfl)); exact (fun h => by first | rfl | (simp at h; done) | exact absurd (Bool.and_eq_true_iff.mp h).2 (by decide)))
              | refine ops_no rfl rfl (by simp only [Ev.get, reduceIte, Nat.reduceEqDiff, szStr, szInt, Option.getD_some, isNil, evStr, mkInts0, mkInts1, rowsI_len, rowsN_len, fldOp, ldOp, fldA, fldB, fldC, ldA, ldB, ldC, r6]; first | done | rfl) (by decide) rfl (by decide) ?_
              | refine ops_off rfl rfl rfl rfl (by decide) ?_
              | (refine ops_nil ?_; intro e2 h2; simp only [restr, kpNums, List.map_cons, List.map_nil, Ev.get, reduceIte, Nat.reduceEqDiff] at h2; subst h2))
            exact done _ _ _ (by rw [hx, List.append_nil]) hG
          · have b9 : (x.op == 9) = false := by simpa using h9
            rw [if_neg h9] at hx
            obtain ⟨g1, m1, ha1, hG1⟩ := app_int (g2 := .full) appInts hG acc x.a (by unfold lim; omega)
            repeat (first
              | refine runs_seq ?_ | refine runs_block ?_ | refine next_normal ?_ | refine inside_normal ?_ | refine next_exit ?_ | refine inside_exit ?_ | refine inside_other (by decide) ?_ | refine next_ret ?_ | refine inside_ret ?_
              | refine runs_ops_kept ?_ | refine runs_skip ?_ | refine runs_exit ?_ | refine runs_ret ?_
              | ((first | refine' ops_op rfl rfl (by decide) ?_ ?_ ?_ | refine' ops_yes rfl rfl (by simp only [Ev.get, reduceIte, Nat.reduceEqDiff, szStr, szInt, Option.getD_some, isNil, evStr, mkInts0, mkInts1, rowsI_len, rowsN_len, fldOp, ldOp, fldA, fldB, fldC, ldA, ldB, ldC, f2, b9]; first | done | rfl) rfl (by decide) ?_ ?_ ?_ | refine' ops_op0 rfl rfl ?_ ?_ ?_); rotate_left 2; (focus (simp only [evOp, opd, constAV, constCell, Ev.get, reduceIte, Nat.reduceEqDiff, reduceCtorEq, evBinN, nilCmp, evBin, evInt, evUn, evConvert, evBuiltin, evLen, evField, evPart, tStr, tInt, tElem, tArr, tBool, tAgg, tField, Try.underlying9, Try.underlying3, Try.underlying4, Try.underlying5, Try.underlying21, Try.underlying121, Try.underlying38, Try.underlying25, Try.underlying135, Try.underlying33, Try.underlying2, Try.underlying147, Try.underlying22, Try.underlying56, Try.underlying54, List.zipWith, Option.map_some, Option.map_none, List.length_cons, List.length_nil, ne_eq, Int.reduceEq, not_false_eq_true, and_self, and_true, true_and, szStr, szInt, Option.getD_some, isNil, evStr, mkInts0, mkInts1, rowsI_len, rowsN_len, fldOp, ldOp, fldA, fldB, fldC, ldA, ldB, ldC, evCall, List.size_toArray, List.append_nil, List.nil_append, List.map_cons, List.map_nil, argAV, argCell, List.toList_toArray, fieldTy, f2, b9]; first | done | rfl)); exact (fun h => by first | rfl | (simp at h; done) | exact absurd (Bool.and_eq_true_iff.mp h).2 (by decide)))
              | refine ops_no rfl rfl (by simp only [Ev.get, reduceIte, Nat.reduceEqDiff, szStr, szInt, Option.getD_some, isNil, evStr, mkInts0, mkInts1, rowsI_len, rowsN_len, fldOp, ldOp, fldA, fldB, fldC, ldA, ldB, ldC, f2, b9]; first | done | rfl) (by decide) rfl (by decide) ?_
              | refine ops_off rfl rfl rfl rfl (by decide) ?_
              | (refine ops_nil ?_; intro e2 h2; simp only [restr, kpNums, List.map_cons, List.map_nil, Ev.get, reduceIte, Nat.reduceEqDiff] at h2; subst h2))
            refine runs_cond rfl (fun hc => by cases hc) (fun hc => ?_)
            by_cases h27 : 2 ≤ x.op ∧ x.op ≤ 7
            · have b2 : decide (x.op ≥ 2) = true := decide_eq_true h27.1
              have b7 : decide (x.op ≤ 7) = true := decide_eq_true h27.2
              obtain ⟨g2, m2, ha2, hG2⟩ := app_int (g2 := .full) appInts hG1 (acc ++ [x.a]) x.b (by unfold lim; simp; omega)
              rw [if_pos h27] at hx
              repeat (first
                | refine runs_seq ?_ | refine runs_block ?_ | refine next_normal ?_ | refine inside_normal ?_ | refine next_exit ?_ | refine inside_exit ?_ | refine inside_other (by decide) ?_ | refine next_ret ?_ | refine inside_ret ?_
                | refine runs_ops_kept ?_ | refine runs_skip ?_ | refine runs_exit ?_ | refine runs_ret ?_
                | ((first | refine' ops_op rfl rfl (by decide) ?_ ?_ ?_ | refine' ops_yes rfl rfl (by simp only [Ev.get, reduceIte, Nat.reduceEqDiff, szStr, szInt, Option.getD_some, isNil, evStr, mkInts0, mkInts1, rowsI_len, rowsN_len, fldOp, ldOp, fldA, fldB, fldC, ldA, ldB, ldC, f2, ha1, b2, b7]; first | done | rfl) rfl (by decide) ?_ ?_ ?_ | refine' ops_op0 rfl rfl ?_ ?_ ?_); rotate_left 2; (focus (simp only [evOp, opd, constAV, constCell, Ev.get, reduceIte, Nat.reduceEqDiff, reduceCtorEq, evBinN, nilCmp, evBin, evInt, evUn, evConvert, evBuiltin, evLen, evField, evPart, tStr, tInt, tElem, tArr, tBool, tAgg, tField, Try.underlying9, Try.underlying3, Try.underlying4, Try.underlying5, Try.underlying21, Try.underlying121, Try.underlying38, Try.underlying25, Try.underlying135, Try.underlying33, Try.underlying2, Try.underlying147, Try.underlying22, Try.underlying56, Try.underlying54, List.zipWith, Option.map_some, Option.map_none, List.length_cons, List.length_nil, ne_eq, Int.reduceEq, not_false_eq_true, and_self, and_true, true_and, szStr, szInt, Option.getD_some, isNil, evStr, mkInts0, mkInts1, rowsI_len, rowsN_len, fldOp, ldOp, fldA, fldB, fldC, ldA, ldB, ldC, evCall, List.size_toArray, List.append_nil, List.nil_append, List.map_cons, List.map_nil, argAV, argCell, List.toList_toArray, fieldTy, f2, ha1, b2, b7]; first | done | rfl)); exact (fun h => by first | rfl | (simp at h; done) | exact absurd (Bool.and_eq_true_iff.mp h).2 (by decide)))
                | refine ops_no rfl rfl (by simp only [Ev.get, reduceIte, Nat.reduceEqDiff, szStr, szInt, Option.getD_some, isNil, evStr, mkInts0, mkInts1, rowsI_len, rowsN_len, fldOp, ldOp, fldA, fldB, fldC, ldA, ldB, ldC, f2, ha1, b2, b7]; first | done | rfl) (by decide) rfl (by decide) ?_
                | refine ops_off rfl rfl rfl rfl (by decide) ?_
                | (refine ops_nil ?_; intro e2 h2; simp only [restr, kpNums, List.map_cons, List.map_nil, Ev.get, reduceIte, Nat.reduceEqDiff] at h2; subst h2))
              refine runs_cond rfl (fun hc => ?_) (fun hc => by cases hc)
              by_cases h6 : x.op = 6
              · have b6 : (x.op == 6) = true := by simpa using h6
                obtain ⟨g3, m3, ha3, hG3⟩ := app_int (g2 := .full) appInts hG2 (acc ++ [x.a] ++ [x.b]) x.c (by unfold lim; simp; omega)
                rw [if_pos h6] at hx
                repeat (first
                  | refine runs_seq ?_ | refine runs_block ?_ | refine next_normal ?_ | refine inside_normal ?_ | refine next_exit ?_ | refine inside_exit ?_ | refine inside_other (by decide) ?_ | refine next_ret ?_ | refine inside_ret ?_
                  | refine runs_ops_kept ?_ | refine runs_skip ?_ | refine runs_exit ?_ | refine runs_ret ?_
                  | ((first | refine' ops_op rfl rfl (by decide) ?_ ?_ ?_ | refine' ops_yes rfl rfl (by simp only [Ev.get, reduceIte, Nat.reduceEqDiff, szStr, szInt, Option.getD_some, isNil, evStr, mkInts0, mkInts1, rowsI_len, rowsN_len, fldOp, ldOp, fldA, fldB, fldC, ldA, ldB, ldC, f2, ha2, b6]; first | done | rfl) rfl (by decide) ?_ ?_ ?_ | refine' ops_op0 rfl rfl ?_ ?_ ?_); rotate_left 2; (focus (simp only [evOp, opd, constAV, constCell, Ev.get, reduceIte, Nat.reduceEqDiff, reduceCtorEq, evBinN, nilCmp, evBin, evInt, evUn, evConvert, evBuiltin, evLen, evField, evPart, tStr, tInt, tElem, tArr, tBool, tAgg, tField, Try.underlying9, Try.underlying3, Try.underlying4, Try.underlying5, Try.underlying21, Try.underlying121, Try.underlying38, Try.underlying25, Try.underlying135, Try.underlying33, Try.underlying2, Try.underlying147, Try.underlying22, Try.underlying56, Try.underlying54, List.zipWith, Option.map_some, Option.map_none, List.length_cons, List.length_nil, ne_eq, Int.reduceEq, not_false_eq_true, and_self, and_true, true_and, szStr, szInt, Option.getD_some, isNil, evStr, mkInts0, mkInts1, rowsI_len, rowsN_len, fldOp, ldOp, fldA, fldB, fldC, ldA, ldB, ldC, evCall, List.size_toArray, List.append_nil, List.nil_append, List.map_cons, List.map_nil, argAV, argCell, List.toList_toArray, fieldTy, f2, ha2, b6]; first | done | rfl)); exact (fun h => by first | rfl | (simp at h; done) | exact absurd (Bool.and_eq_true_iff.mp h).2 (by decide)))
                  | refine ops_no rfl rfl (by simp only [Ev.get, reduceIte, Nat.reduceEqDiff, szStr, szInt, Option.getD_some, isNil, evStr, mkInts0, mkInts1, rowsI_len, rowsN_len, fldOp, ldOp, fldA, fldB, fldC, ldA, ldB, ldC, f2, ha2, b6]; first | done | rfl) (by decide) rfl (by decide) ?_
                  | refine ops_off rfl rfl rfl rfl (by decide) ?_
                  | (refine ops_nil ?_; intro e2 h2; simp only [restr, kpNums, List.map_cons, List.map_nil, Ev.get, reduceIte, Nat.reduceEqDiff] at h2; subst h2))
                refine runs_cond rfl (fun hc => ?_) (fun hc => by cases hc)
                repeat (first
                  | refine runs_seq ?_ | refine runs_block ?_ | refine next_normal ?_ | refine inside_normal ?_ | refine next_exit ?_ | refine inside_exit ?_ | refine inside_other (by decide) ?_ | refine next_ret ?_ | refine inside_ret ?_
                  | refine runs_ops_kept ?_ | refine runs_skip ?_ | refine runs_exit ?_ | refine runs_ret ?_
                  | ((first | refine' ops_op rfl rfl (by decide) ?_ ?_ ?_ | refine' ops_yes rfl rfl (by simp only [Ev.get, reduceIte, Nat.reduceEqDiff, szStr, szInt, Option.getD_some, isNil, evStr, mkInts0, mkInts1, rowsI_len, rowsN_len, fldOp, ldOp, fldA, fldB, fldC, ldA, ldB, ldC, f2, ha3, r6]; first | done | rfl) rfl (by decide) ?_ ?_ ?_ | refine' ops_op0 rfl rfl ?_ ?_ ?_); rotate_left 2; (focus (simp only [evOp, opd, constAV, constCell, Ev.get, reduceIte, Nat.reduceEqDiff, reduceCtorEq, evBinN, nilCmp, evBin, evInt, evUn, evConvert, evBuiltin, evLen, evField, evPart, tStr, tInt, tElem, tArr, tBool, tAgg, tField, Try.underlying9, Try.underlying3, Try.underlying4, Try.underlying5, Try.underlying21, Try.underlying121, Try.underlying38, Try.underlying25, Try.underlying135, Try.underlying33, Try.underlying2, Try.underlying147, Try.underlying22, Try.underlying56, Try.underlying54, List.zipWith, Option.map_some, Option.map_none, List.length_cons, List.length_nil, ne_eq, Int.reduceEq, not_false_eq_true, and_self, and_true, true_and, szStr, szInt, Option.getD_some, isNil, evStr, mkInts0, mkInts1, rowsI_len, rowsN_len, fldOp, ldOp, fldA, fldB, fldC, ldA, ldB, ldC, evCall, List.size_toArray, List.append_nil, List.nil_append, List.map_cons, List.map_nil, argAV, argCell, List.toList_toArray, fieldTy, f2, ha3, r6]; first | done | rfl)); exact (fun h => by first | rfl | (simp at h; done) | exact absurd (Bool.and_eq_true_iff.mp h).2 (by decide)))
                  | refine ops_no rfl rfl (by simp only [Ev.get, reduceIte, Nat.reduceEqDiff, szStr, szInt, Option.getD_some, isNil, evStr, mkInts0, mkInts1, rowsI_len, rowsN_len, fldOp, ldOp, fldA, fldB, fldC, ldA, ldB, ldC, f2, ha3, r6]; first | done | rfl) (by decide) rfl (by decide) ?_
                  | refine ops_off rfl rfl rfl rfl (by decide) ?_
                  | (refine ops_nil ?_; intro e2 h2; simp only [restr, kpNums, List.map_cons, List.map_nil, Ev.get, reduceIte, Nat.reduceEqDiff] at h2; subst h2))
                exact done _ _ _ (by rw [hx]; simp) hG3
              · have b6 : (x.op == 6) = false := by simpa using h6
                rw [if_neg h6] at hx
                repeat (first
                  | refine runs_seq ?_ | refine runs_block ?_ | refine next_normal ?_ | refine inside_normal ?_ | refine next_exit ?_ | refine inside_exit ?_ | refine inside_other (by decide) ?_ | refine next_ret ?_ | refine inside_ret ?_
                  | refine runs_ops_kept ?_ | refine runs_skip ?_ | refine runs_exit ?_ | refine runs_ret ?_
                  | ((first | refine' ops_op rfl rfl (by decide) ?_ ?_ ?_ | refine' ops_yes rfl rfl (by simp only [Ev.get, reduceIte, Nat.reduceEqDiff, szStr, szInt, Option.getD_some, isNil, evStr, mkInts0, mkInts1, rowsI_len, rowsN_len, fldOp, ldOp, fldA, fldB, fldC, ldA, ldB, ldC, f2, ha2, b6]; first | done | rfl) rfl (by decide) ?_ ?_ ?_ | refine' ops_op0 rfl rfl ?_ ?_ ?_); rotate_left 2; (focus (simp only [evOp, opd, constAV, constCell, Ev.get, reduceIte, Nat.reduceEqDiff, reduceCtorEq, evBinN, nilCmp, evBin, evInt, evUn, evConvert, evBuiltin, evLen, evField, evPart, tStr, tInt, tElem, tArr, tBool, tAgg, tField, Try.underlying9, Try.underlying3, Try.underlying4, Try.underlying5, Try.underlying21, Try.underlying121, Try.underlying38, Try.underlying25, Try.underlying135, Try.underlying33, Try.underlying2, Try.underlying147, Try.underlying22, Try.underlying56, Try.underlying54, List.zipWith, Option.map_some, Option.map_none, List.length_cons, List.length_nil, ne_eq, Int.reduceEq, not_false_eq_true, and_self, and_true, true_and, szStr, szInt, Option.getD_some, isNil, evStr, mkInts0, mkInts1, rowsI_len, rowsN_len, fldOp, ldOp, fldA, fldB, fldC, ldA, ldB, ldC, evCall, List.size_toArray, List.append_nil, List.nil_append, List.map_cons, List.map_nil, argAV, argCell, List.toList_toArray, fieldTy, f2, ha2, b6]; first | done | rfl)); exact (fun h => by first | rfl | (simp at h; done) | exact absurd (Bool.and_eq_true_iff.mp h).2 (by decide)))
                  | refine ops_no rfl rfl (by simp only [Ev.get, reduceIte, Nat.reduceEqDiff, szStr, szInt, Option.getD_some, isNil, evStr, mkInts0, mkInts1, rowsI_len, rowsN_len, fldOp, ldOp, fldA, fldB, fldC, ldA, ldB, ldC, f2, ha2, b6]; first | done | rfl) (by decide) rfl (by decide) ?_
                  | refine ops_off rfl rfl rfl rfl (by decide) ?_
                  | (refine ops_nil ?_; intro e2 h2; simp only [restr, kpNums, List.map_cons, List.map_nil, Ev.get, reduceIte, Nat.reduceEqDiff] at h2; subst h2))
                refine runs_cond rfl (fun hc => by cases hc) (fun hc => ?_)
                repeat (first
                  | refine runs_seq ?_ | refine runs_block ?_ | refine next_normal ?_ | refine inside_normal ?_ | refine next_exit ?_ | refine inside_exit ?_ | refine inside_other (by decide) ?_ | refine next_ret ?_ | refine inside_ret ?_
                  | refine runs_ops_kept ?_ | refine runs_skip ?_ | refine runs_exit ?_ | refine runs_ret ?_
                  | ((first | refine' ops_op rfl rfl (by decide) ?_ ?_ ?_ | refine' ops_yes rfl rfl (by simp only [Ev.get, reduceIte, Nat.reduceEqDiff, szStr, szInt, Option.getD_some, isNil, evStr, mkInts0, mkInts1, rowsI_len, rowsN_len, fldOp, ldOp, fldA, fldB, fldC, ldA, ldB, ldC, r6]; first | done | rfl) rfl (by decide) ?_ ?_ ?_ | refine' ops_op0 rfl rfl ?_ ?_ ?_); rotate_left 2; (focus (simp only [evOp, opd, constAV, constCell, Ev.get, reduceIte, Nat.reduceEqDiff, reduceCtorEq, evBinN, nilCmp, evBin, evInt, evUn, evConvert, evBuiltin, evLen, evField, evPart, tStr, tInt, tElem, tArr, tBool, tAgg, tField, Try.underlying9, Try.underlying3, Try.underlying4, Try.underlying5, Try.underlying21, Try.underlying121, Try.underlying38, Try.underlying25, Try.underlying135, Try.underlying33, Try.underlying2, Try.underlying147, Try.underlying22, Try.underlying56, Try.underlying54, List.zipWith, Option.map_some, Option.map_none, List.length_cons, List.length_nil, ne_eq, Int.reduceEq, not_false_eq_true, and_self, and_true, true_and, szStr, szInt, Option.getD_some, isNil, evStr, mkInts0, mkInts1, rowsI_len, rowsN_len, fldOp, ldOp, fldA, fldB, fldC, ldA, ldB, ldC, evCall, List.size_toArray, List.append_nil, List.nil_append, List.map_cons, List.map_nil, argAV, argCell, List.toList_toArray, fieldTy, r6]; first | done | rfl)); exact (fun h => by first | rfl | (simp at h; done) | exact absurd (Bool.and_eq_true_iff.mp h).2 (by decide)))
                  | refine ops_no rfl rfl (by simp only [Ev.get, reduceIte, Nat.reduceEqDiff, szStr, szInt, Option.getD_some, isNil, evStr, mkInts0, mkInts1, rowsI_len, rowsN_len, fldOp, ldOp, fldA, fldB, fldC, ldA, ldB, ldC, r6]; first | done | rfl) (by decide) rfl (by decide) ?_
                  | refine ops_off rfl rfl rfl rfl (by decide) ?_
                  | (refine ops_nil ?_; intro e2 h2; simp only [restr, kpNums, List.map_cons, List.map_nil, Ev.get, reduceIte, Nat.reduceEqDiff] at h2; subst h2))
                exact done _ _ _ (by rw [hx]; simp) hG2
            · have h6 : x.op ≠ 6 := by omega
              have b6 : (x.op == 6) = false := by simpa using h6
              rw [if_neg h27, if_neg h6] at hx
              by_cases h2 : 2 ≤ x.op
              · have b2 : decide (x.op ≥ 2) = true := decide_eq_true h2
                have b7 : decide (x.op ≤ 7) = false := decide_eq_false (by omega)
                repeat (first
                  | refine runs_seq ?_ | refine runs_block ?_ | refine next_normal ?_ | refine inside_normal ?_ | refine next_exit ?_ | refine inside_exit ?_ | refine inside_other (by decide) ?_ | refine next_ret ?_ | refine inside_ret ?_
                  | refine runs_ops_kept ?_ | refine runs_skip ?_ | refine runs_exit ?_ | refine runs_ret ?_
                  | ((first | refine' ops_op rfl rfl (by decide) ?_ ?_ ?_ | refine' ops_yes rfl rfl (by simp only [Ev.get, reduceIte, Nat.reduceEqDiff, szStr, szInt, Option.getD_some, isNil, evStr, mkInts0, mkInts1, rowsI_len, rowsN_len, fldOp, ldOp, fldA, fldB, fldC, ldA, ldB, ldC, f2, ha1, b2, b7]; first | done | rfl) rfl (by decide) ?_ ?_ ?_ | refine' ops_op0 rfl rfl ?_ ?_ ?_); rotate_left 2; (focus (simp only [evOp, opd, constAV, constCell, Ev.get, reduceIte, Nat.reduceEqDiff, reduceCtorEq, evBinN, nilCmp, evBin, evInt, evUn, evConvert, evBuiltin, evLen, evField, evPart, tStr, tInt, tElem, tArr, tBool, tAgg, tField, Try.underlying9, Try.underlying3, Try.underlying4, Try.underlying5, Try.underlying21, Try.underlying121, Try.underlying38, Try.underlying25, Try.underlying135, Try.underlying33, Try.underlying2, Try.underlying147, Try.underlying22, Try.underlying56, Try.underlying54, List.zipWith, Option.map_some, Option.map_none, List.length_cons, List.length_nil, ne_eq, Int.reduceEq, not_false_eq_true, and_self, and_true, true_and, szStr, szInt, Option.getD_some, isNil, evStr, mkInts0, mkInts1, rowsI_len, rowsN_len, fldOp, ldOp, fldA, fldB, fldC, ldA, ldB, ldC, evCall, List.size_toArray, List.append_nil, List.nil_append, List.map_cons, List.map_nil, argAV, argCell, List.toList_toArray, fieldTy, f2, ha1, b2, b7]; first | done | rfl)); exact (fun h => by first | rfl | (simp at h; done) | exact absurd (Bool.and_eq_true_iff.mp h).2 (by decide)))
                  | refine ops_no rfl rfl (by simp only [Ev.get, reduceIte, Nat.reduceEqDiff, szStr, szInt, Option.getD_some, isNil, evStr, mkInts0, mkInts1, rowsI_len, rowsN_len, fldOp, ldOp, fldA, fldB, fldC, ldA, ldB, ldC, f2, ha1, b2, b7]; first | done | rfl) (by decide) rfl (by decide) ?_
                  | refine ops_off rfl rfl rfl rfl (by decide) ?_
                  | (refine ops_nil ?_; intro e2 h2; simp only [restr, kpNums, List.map_cons, List.map_nil, Ev.get, reduceIte, Nat.reduceEqDiff] at h2; subst h2))
                refine runs_cond rfl (fun hc => by cases hc) (fun hc => ?_)
                repeat (first
                  | refine runs_seq ?_ | refine runs_block ?_ | refine next_normal ?_ | refine inside_normal ?_ | refine next_exit ?_ | refine inside_exit ?_ | refine inside_other (by decide) ?_ | refine next_ret ?_ | refine inside_ret ?_
                  | refine runs_ops_kept ?_ | refine runs_skip ?_ | refine runs_exit ?_ | refine runs_ret ?_
                  | ((first | refine' ops_op rfl rfl (by decide) ?_ ?_ ?_ | refine' ops_yes rfl rfl (by simp only [Ev.get, reduceIte, Nat.reduceEqDiff, szStr, szInt, Option.getD_some, isNil, evStr, mkInts0, mkInts1, rowsI_len, rowsN_len, fldOp, ldOp, fldA, fldB, fldC, ldA, ldB, ldC, f2, b6]; first | done | rfl) rfl (by decide) ?_ ?_ ?_ | refine' ops_op0 rfl rfl ?_ ?_ ?_); rotate_left 2; (focus (simp only [evOp, opd, constAV, constCell, Ev.get, reduceIte, Nat.reduceEqDiff, reduceCtorEq, evBinN, nilCmp, evBin, evInt, evUn, evConvert, evBuiltin, evLen, evField, evPart, tStr, tInt, tElem, tArr, tBool, tAgg, tField, Try.underlying9, Try.underlying3, Try.underlying4, Try.underlying5, Try.underlying21, Try.underlying121, Try.underlying38, Try.underlying25, Try.underlying135, Try.underlying33, Try.underlying2, Try.underlying147, Try.underlying22, Try.underlying56, Try.underlying54, List.zipWith, Option.map_some, Option.map_none, List.length_cons, List.length_nil, ne_eq, Int.reduceEq, not_false_eq_true, and_self, and_true, true_and, szStr, szInt, Option.getD_some, isNil, evStr, mkInts0, mkInts1, rowsI_len, rowsN_len, fldOp, ldOp, fldA, fldB, fldC, ldA, ldB, ldC, evCall, List.size_toArray, List.append_nil, List.nil_append, List.map_cons, List.map_nil, argAV, argCell, List.toList_toArray, fieldTy, f2, b6]; first | done | rfl)); exact (fun h => by first | rfl | (simp at h; done) | exact absurd (Bool.and_eq_true_iff.mp h).2 (by decide)))
                  | refine ops_no rfl rfl (by simp only [Ev.get, reduceIte, Nat.reduceEqDiff, szStr, szInt, Option.getD_some, isNil, evStr, mkInts0, mkInts1, rowsI_len, rowsN_len, fldOp, ldOp, fldA, fldB, fldC, ldA, ldB, ldC, f2, b6]; first | done | rfl) (by decide) rfl (by decide) ?_
                  | refine ops_off rfl rfl rfl rfl (by decide) ?_
                  | (refine ops_nil ?_; intro e2 h2; simp only [restr, kpNums, List.map_cons, List.map_nil, Ev.get, reduceIte, Nat.reduceEqDiff] at h2; subst h2))
                refine runs_cond rfl (fun hc => by cases hc) (fun hc => ?_)
                repeat (first
                  | refine runs_seq ?_ | refine runs_block ?_ | refine next_normal ?_ | refine inside_normal ?_ | refine next_exit ?_ | refine inside_exit ?_ | refine inside_other (by decide) ?_ | refine next_ret ?_ | refine inside_ret ?_
                  | refine runs_ops_kept ?_ | refine runs_skip ?_ | refine runs_exit ?_ | refine runs_ret ?_
                  | ((first | refine' ops_op rfl rfl (by decide) ?_ ?_ ?_ | refine' ops_yes rfl rfl (by simp only [Ev.get, reduceIte, Nat.reduceEqDiff, szStr, szInt, Option.getD_some, isNil, evStr, mkInts0, mkInts1, rowsI_len, rowsN_len, fldOp, ldOp, fldA, fldB, fldC, ldA, ldB, ldC, r6]; first | done | rfl) rfl (by decide) ?_ ?_ ?_ | refine' ops_op0 rfl rfl ?_ ?_ ?_); rotate_left 2; (focus (simp only [evOp, opd, constAV, constCell, Ev.get, reduceIte, Nat.reduceEqDiff, reduceCtorEq, evBinN, nilCmp, evBin, evInt, evUn, evConvert, evBuiltin, evLen, evField, evPart, tStr, tInt, tElem, tArr, tBool, tAgg, tField, Try.underlying9, Try.underlying3, Try.underlying4, Try.underlying5, Try.underlying21, Try.underlying121, Try.underlying38, Try.underlying25, Try.underlying135, Try.underlying33, Try.underlying2, Try.underlying147, Try.underlying22, Try.underlying56, Try.underlying54, List.zipWith, Option.map_some, Option.map_none, List.length_cons, List.length_nil, ne_eq, Int.reduceEq, not_false_eq_true, and_self, and_true, true_and, szStr, szInt, Option.getD_some, isNil, evStr, mkInts0, mkInts1, rowsI_len, rowsN_len, fldOp, ldOp, fldA, fldB, fldC, ldA, ldB, ldC, evCall, List.size_toArray, List.append_nil, List.nil_append, List.map_cons, List.map_nil, argAV, argCell, List.toList_toArray, fieldTy, r6]; first | done | rfl)); exact (fun h => by first | rfl | (simp at h; done) | exact absurd (Bool.and_eq_true_iff.mp h).2 (by decide)))
                  | refine ops_no rfl rfl (by simp only [Ev.get, reduceIte, Nat.reduceEqDiff, szStr, szInt, Option.getD_some, isNil, evStr, mkInts0, mkInts1, rowsI_len, rowsN_len, fldOp, ldOp, fldA, fldB, fldC, ldA, ldB, ldC, r6]; first | done | rfl) (by decide) rfl (by decide) ?_
                  | refine ops_off rfl rfl rfl rfl (by decide) ?_
                  | (refine ops_nil ?_; intro e2 h2; simp only [restr, kpNums, List.map_cons, List.map_nil, Ev.get, reduceIte, Nat.reduceEqDiff] at h2; subst h2))
                exact done _ _ _ (by rw [hx]; simp) hG1
              · have b2 : decide (x.op ≥ 2) = false := decide_eq_false (by omega)
                repeat (first
                  | refine runs_seq ?_ | refine runs_block ?_ | refine next_normal ?_ | refine inside_normal ?_ | refine next_exit ?_ | refine inside_exit ?_ | refine inside_other (by decide) ?_ | refine next_ret ?_ | refine inside_ret ?_
                  | refine runs_ops_kept ?_ | refine runs_skip ?_ | refine runs_exit ?_ | refine runs_ret ?_
                  | ((first | refine' ops_op rfl rfl (by decide) ?_ ?_ ?_ | refine' ops_yes rfl rfl (by simp only [Ev.get, reduceIte, Nat.reduceEqDiff, szStr, szInt, Option.getD_some, isNil, evStr, mkInts0, mkInts1, rowsI_len, rowsN_len, fldOp, ldOp, fldA, fldB, fldC, ldA, ldB, ldC, f2, ha1, b2]; first | done | rfl) rfl (by decide) ?_ ?_ ?_ | refine' ops_op0 rfl rfl ?_ ?_ ?_); rotate_left 2; (focus (simp only [evOp, opd, constAV, constCell, Ev.get, reduceIte, Nat.reduceEqDiff, reduceCtorEq, evBinN, nilCmp, evBin, evInt, evUn, evConvert, evBuiltin, evLen, evField, evPart, tStr, tInt, tElem, tArr, tBool, tAgg, tField, Try.underlying9, Try.underlying3, Try.underlying4, Try.underlying5, Try.underlying21, Try.underlying121, Try.underlying38, Try.underlying25, Try.underlying135, Try.underlying33, Try.underlying2, Try.underlying147, Try.underlying22, Try.underlying56, Try.underlying54, List.zipWith, Option.map_some, Option.map_none, List.length_cons, List.length_nil, ne_eq, Int.reduceEq, not_false_eq_true, and_self, and_true, true_and, szStr, szInt, Option.getD_some, isNil, evStr, mkInts0, mkInts1, rowsI_len, rowsN_len, fldOp, ldOp, fldA, fldB, fldC, ldA, ldB, ldC, evCall, List.size_toArray, List.append_nil, List.nil_append, List.map_cons, List.map_nil, argAV, argCell, List.toList_toArray, fieldTy, f2, ha1, b2]; first | done | rfl)); exact (fun h => by first | rfl | (simp at h; done) | exact absurd (Bool.and_eq_true_iff.mp h).2 (by decide)))
                  | refine ops_no rfl rfl (by simp only [Ev.get, reduceIte, Nat.reduceEqDiff, szStr, szInt, Option.getD_some, isNil, evStr, mkInts0, mkInts1, rowsI_len, rowsN_len, fldOp, ldOp, fldA, fldB, fldC, ldA, ldB, ldC, f2, ha1, b2]; first | done | rfl) (by decide) rfl (by decide) ?_
                  | refine ops_off rfl rfl rfl rfl (by decide) ?_
                  | (refine ops_nil ?_; intro e2 h2; simp only [restr, kpNums, List.map_cons, List.map_nil, Ev.get, reduceIte, Nat.reduceEqDiff] at h2; subst h2))
                refine runs_cond rfl (fun hc => by cases hc) (fun hc => ?_)
                repeat (first
                  | refine runs_seq ?_ | refine runs_block ?_ | refine next_normal ?_ | refine inside_normal ?_ | refine next_exit ?_ | refine inside_exit ?_ | refine inside_other (by decide) ?_ | refine next_ret ?_ | refine inside_ret ?_
                  | refine runs_ops_kept ?_ | refine runs_skip ?_ | refine runs_exit ?_ | refine runs_ret ?_
                  | ((first | refine' ops_op rfl rfl (by decide) ?_ ?_ ?_ | refine' ops_yes rfl rfl (by simp only [Ev.get, reduceIte, Nat.reduceEqDiff, szStr, szInt, Option.getD_some, isNil, evStr, mkInts0, mkInts1, rowsI_len, rowsN_len, fldOp, ldOp, fldA, fldB, fldC, ldA, ldB, ldC, f2, b6]; first | done | rfl) rfl (by decide) ?_ ?_ ?_ | refine' ops_op0 rfl rfl ?_ ?_ ?_); rotate_left 2; (focus (simp only [evOp, opd, constAV, constCell, Ev.get, reduceIte, Nat.reduceEqDiff, reduceCtorEq, evBinN, nilCmp, evBin, evInt, evUn, evConvert, evBuiltin, evLen, evField, evPart, tStr, tInt, tElem, tArr, tBool, tAgg, tField, Try.underlying9, Try.underlying3, Try.underlying4, Try.underlying5, Try.underlying21, Try.underlying121, Try.underlying38, Try.underlying25, Try.underlying135, Try.underlying33, Try.underlying2, Try.underlying147, Try.underlying22, Try.underlying56, Try.underlying54, List.zipWith, Option.map_some, Option.map_none, List.length_cons, List.length_nil, ne_eq, Int.reduceEq, not_false_eq_true, and_self, and_true, true_and, szStr, szInt, Option.getD_some, isNil, evStr, mkInts0, mkInts1, rowsI_len, rowsN_len, fldOp, ldOp, fldA, fldB, fldC, ldA, ldB, ldC, evCall, List.size_toArray, List.append_nil, List.nil_append, List.map_cons, List.map_nil, argAV, argCell, List.toList_toArray, fieldTy, f2, b6]; first | done | rfl)); exact (fun h => by first | rfl | (simp at h; done) | exact absurd (Bool.and_eq_true_iff.mp h).2 (by decide)))
                  | refine ops_no rfl rfl (by simp only [Ev.get, reduceIte, Nat.reduceEqDiff, szStr, szInt, Option.getD_some, isNil, evStr, mkInts0, mkInts1, rowsI_len, rowsN_len, fldOp, ldOp, fldA, fldB, fldC, ldA, ldB, ldC, f2, b6]; first | done | rfl) (by decide) rfl (by decide) ?_
                  | refine ops_off rfl rfl rfl rfl (by decide) ?_
                  | (refine ops_nil ?_; intro e2 h2; simp only [restr, kpNums, List.map_cons, List.map_nil, Ev.get, reduceIte, Nat.reduceEqDiff] at h2; subst h2))
                refine runs_cond rfl (fun hc => by cases hc) (fun hc => ?_)
                repeat (first
                  | refine runs_seq ?_ | refine runs_block ?_ | refine next_normal ?_ | refine inside_normal ?_ | refine next_exit ?_ | refine inside_exit ?_ | refine inside_other (by decide) ?_ | refine next_ret ?_ | refine inside_ret ?_
                  | refine runs_ops_kept ?_ | refine runs_skip ?_ | refine runs_exit ?_ | refine runs_ret ?_
                  | ((first | refine' ops_op rfl rfl (by decide) ?_ ?_ ?_ | refine' ops_yes rfl rfl (by simp only [Ev.get, reduceIte, Nat.reduceEqDiff, szStr, szInt, Option.getD_some, isNil, evStr, mkInts0, mkInts1, rowsI_len, rowsN_len, fldOp, ldOp, fldA, fldB, fldC, ldA, ldB, ldC, r6]; first | done | rfl) rfl (by decide) ?_ ?_ ?_ | refine' ops_op0 rfl rfl ?_ ?_ ?_); rotate_left 2; (focus (simp only [evOp, opd, constAV, constCell, Ev.get, reduceIte, Nat.reduceEqDiff, reduceCtorEq, evBinN, nilCmp, evBin, evInt, evUn, evConvert, evBuiltin, evLen, evField, evPart, tStr, tInt, tElem, tArr, tBool, tAgg, tField, Try.underlying9, Try.underlying3, Try.underlying4, Try.underlying5, Try.underlying21, Try.underlying121, Try.underlying38, Try.underlying25, Try.underlying135, Try.underlying33, Try.underlying2, Try.underlying147, Try.underlying22, Try.underlying56, Try.underlying54, List.zipWith, Option.map_some, Option.map_none, List.length_cons, List.length_nil, ne_eq, Int.reduceEq, not_false_eq_true, and_self, and_true, true_and, szStr, szInt, Option.getD_some, isNil, evStr, mkInts0, mkInts1, rowsI_len, rowsN_len, fldOp, ldOp, fldA, fldB, fldC, ldA, ldB, ldC, evCall, List.size_toArray, List.append_nil, List.nil_append, List.map_cons, List.map_nil, argAV, argCell, List.toList_toArray, fieldTy, r6]; first | done | rfl)); exact (fun h => by first | rfl | (simp at h; done) | exact absurd (Bool.and_eq_true_iff.mp h).2 (by decide)))
                  | refine ops_no rfl rfl (by simp only [Ev.get, reduceIte, Nat.reduceEqDiff, szStr, szInt, Option.getD_some, isNil, evStr, mkInts0, mkInts1, rowsI_len, rowsN_len, fldOp, ldOp, fldA, fldB, fldC, ldA, ldB, ldC, r6]; first | done | rfl) (by decide) rfl (by decide) ?_
                  | refine ops_off rfl rfl rfl rfl (by decide) ?_
                  | (refine ops_nil ?_; intro e2 h2; simp only [restr, kpNums, List.map_cons, List.map_nil, Ev.get, reduceIte, Nat.reduceEqDiff] at h2; subst h2))
                exact done _ _ _ (by rw [hx]; simp) hG1
        · have hi1 : i = l.length := by have := of_decide_eq_false hc; omega
          subst hi1
          rw [List.take_length]
          repeat (first
            | refine runs_seq ?_ | refine runs_block ?_ | refine next_normal ?_ | refine inside_normal ?_ | refine next_exit ?_ | refine inside_exit ?_ | refine inside_other (by decide) ?_ | refine next_ret ?_ | refine inside_ret ?_
            | refine runs_ops_kept ?_ | refine runs_skip ?_ | refine runs_exit ?_ | refine runs_ret ?_
            | ((first | refine' ops_op rfl rfl (by decide) ?_ ?_ ?_ | refine' ops_yes rfl rfl (by simp only [Ev.get, reduceIte, Nat.reduceEqDiff, szStr, szInt, Option.getD_some, isNil, evStr, mkInts0, mkInts1, rowsI_len, rowsN_len, fldOp, ldOp, fldA, fldB, fldC, ldA, ldB, ldC]; first | done | rfl) rfl (by decide) ?_ ?_ ?_ | refine' ops_op0 rfl rfl ?_ ?_ ?_); rotate_left 2; (focus (simp only [evOp, opd, constAV, constCell, Ev.get, reduceIte, Nat.reduceEqDiff, reduceCtorEq, evBinN, nilCmp, evBin, evInt, evUn, evConvert, evBuiltin, evLen, evField, evPart, tStr, tInt, tElem, tArr, tBool, tAgg, tField, Try.underlying9, Try.underlying3, Try.underlying4, Try.underlying5, Try.underlying21, Try.underlying121, Try.underlying38, Try.underlying25, Try.underlying135, Try.underlying33, Try.underlying2, Try.underlying147, Try.underlying22, Try.underlying56, Try.underlying54, List.zipWith, Option.map_some, Option.map_none, List.length_cons, List.length_nil, ne_eq, Int.reduceEq, not_false_eq_true, and_self, and_true, true_and, szStr, szInt, Option.getD_some, isNil, evStr, mkInts0, mkInts1, rowsI_len, rowsN_len, fldOp, ldOp, fldA, fldB, fldC, ldA, ldB, ldC, evCall, List.size_toArray, List.append_nil, List.nil_append, List.map_cons, List.map_nil, argAV, argCell, List.toList_toArray, fieldTy]; first | done | rfl)); exact (fun h => by first | rfl | (simp at h; done) | exact absurd (Bool.and_eq_true_iff.mp h).2 (by decide)))
            | refine ops_no rfl rfl (by simp only [Ev.get, reduceIte, Nat.reduceEqDiff, szStr, szInt, Option.getD_some, isNil, evStr, mkInts0, mkInts1, rowsI_len, rowsN_len, fldOp, ldOp, fldA, fldB, fldC, ldA, ldB, ldC]; first | done | rfl) (by decide) rfl (by decide) ?_
            | refine ops_off rfl rfl rfl rfl (by decide) ?_
            | (refine ops_nil ?_; intro e2 h2; simp only [restr, kpNums, List.map_cons, List.map_nil, Ev.get, reduceIte, Nat.reduceEqDiff] at h2; subst h2))
          exact leaves_lst rfl rfl (fin_grows hG)
      · cases h
    · cases h
  · cases h
end Go.Proofs.Ytojaokhkbmiidaa.Ev
