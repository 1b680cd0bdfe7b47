/- What the laws of layers 21, 22 and 55 ask besides: their examples. -/
import Derived.Test.YtojaokhkbmiidaaMbgdm3
import Derived.Test.YtojaokhkbmiidaaMa2
import Derived.Test.YtojaokhkbmiidaaMbgdm1
import Derived.Test.YtojaokhkbmiidaaRows
import Derived.KernelRfl
namespace Go.Proofs.Ytojaokhkbmiidaa.Ev
open Go Go.Proofs
set_option maxRecDepth 10000
set_option maxHeartbeats 8000000
set_option linter.unusedVariables false
set_option linter.unusedSimpArgs false
attribute [local irreducible] Next Inside Runs Ops table
def extC : Ctx := ⟨fun _ _ => none, fun _ => false, fun f => if f = 106 then some isNameG else if f = 91 then some setsG else if f = 82 then some endsRG else none⟩
theorem extC_ok : ∀ f g, extC.ext f = some g → FunOk Try.prog f g := by
  intro f g h
  unfold extC at h
  simp only at h
  split at h
  · rename_i e
    cases h
    subst e
    exact is_ok
  · split at h
    · rename_i e
      cases h
      subst e
      exact sets_ok
    · split at h
      · rename_i e
        cases h
        subst e
        exact endsR_ok
      · cases h
theorem awake_of {f : FuncId} (hrun : runC Try.prog extC 60 f [] ⟨[], []⟩ = some (.v (.bool true), ⟨[], []⟩)) : FunOk Try.prog f yesG := by
  have h := wide_ok (P := Try.prog) (f := f) (x := .bool true) fun args m r m' hg => by
    dsimp only at hg
    split at hg
    · rename_i hc
      obtain ⟨rfl, h1, h2⟩ := hc
      obtain ⟨v, t⟩ := m
      simp only at h1 h2
      subst h1
      subst h2
      cases hg
      exact runC_ok mixed extC_ok 60 _ _ _ _ _ hrun
    · cases hg
  intro args m r m' hg
  refine h args m r m' ?_
  cases args with
  | nil => exact hg
  | cons a rest => cases hg
theorem awake22_ok : FunOk Try.prog 29 yesG := awake_of (by kernel_rfl)
end Go.Proofs.Ytojaokhkbmiidaa.Ev

namespace Go.Proofs.Ytojaokhkbmiidaa.Ev
open Go Go.Proofs
set_option maxRecDepth 10000
set_option maxHeartbeats 8000000
set_option linter.unusedVariables false
set_option linter.unusedSimpArgs false
attribute [local irreducible] Next Inside Runs Ops table
theorem awake21_ok : FunOk Try.prog 24 yesG := awake_of (by kernel_rfl)
theorem awake55_ok : FunOk Try.prog 31 yesG := awake_of (by kernel_rfl)
end Go.Proofs.Ytojaokhkbmiidaa.Ev

namespace Go.Proofs.Ytojaokhkbmiidaa.Ev
open Go Go.Proofs
set_option maxRecDepth 10000
set_option maxHeartbeats 8000000
set_option linter.unusedVariables false
set_option linter.unusedSimpArgs false
attribute [local irreducible] Next Inside Runs Ops table
theorem typed_int {d : Nat} {p : List AV} (h : Typed Try.prog (d + 1) 3 p) : ∃ n, inI n ∧ p = [iv n] := by
  unfold Typed at h
  rw [Try.underlying3] at h
  obtain ⟨n, rfl, n0, n1⟩ := h
  simp [IntKind.min, IntKind.max, IntKind.signed, IntKind.bits] at n0 n1
  exact ⟨n, ⟨n0, n1⟩, rfl⟩
theorem typed_flaw {d : Nat} {row : List AV} (h : Typed Try.prog (d + 2) 43 row) : ∃ x : Fl, x.ok ∧ row = x.row := by
  unfold Typed at h
  rw [Try.underlying43] at h
  obtain ⟨parts, rfl, hl, h⟩ := h
  match parts, hl with
  | [p0, p1, p2], _ =>
    obtain ⟨a, a0, rfl⟩ := typed_int (h 0 _ p0 rfl rfl)
    obtain ⟨b, b0, rfl⟩ := typed_int (h 1 _ p1 rfl rfl)
    obtain ⟨c, c0, rfl⟩ := typed_int (h 2 _ p2 rfl rfl)
    exact ⟨⟨a, b, c⟩, ⟨a0, b0, c0⟩, rfl⟩
theorem typed_span {d : Nat} {row : List AV} (h : Typed Try.prog (d + 2) 47 row) : ∃ x : Sp, row = x.row := by
  unfold Typed at h
  rw [Try.underlying47] at h
  obtain ⟨parts, rfl, hl, h⟩ := h
  match parts, hl with
  | [p0, p1], _ =>
    obtain ⟨a, a0, rfl⟩ := typed_int (h 0 _ p0 rfl rfl)
    obtain ⟨b, b0, rfl⟩ := typed_int (h 1 _ p1 rfl rfl)
    exact ⟨⟨a, b⟩, rfl⟩
theorem rows_flaws {d : Nat} : ∀ {rows : List (List AV)}, (∀ row ∈ rows, Typed Try.prog (d + 2) 43 row) → ∃ l : List Fl, (∀ x ∈ l, x.ok) ∧ rows = rowsFl l
  | [], _ => ⟨[], (fun x h => by simp at h), rfl⟩
  | row :: rows, h => by
    obtain ⟨l, h1, rfl⟩ := rows_flaws fun r hr => h r (List.mem_cons_of_mem _ hr)
    obtain ⟨x, h2, rfl⟩ := typed_flaw (h row (List.mem_cons_self ..))
    refine ⟨x :: l, fun y hy => ?_, rfl⟩
    rcases List.mem_cons.1 hy with rfl | hy
    · exact h2
    · exact h1 y hy
theorem rows_spans {d : Nat} : ∀ {rows : List (List AV)}, (∀ row ∈ rows, Typed Try.prog (d + 2) 47 row) → ∃ l : List Sp, rows = rowsSp l
  | [], _ => ⟨[], rfl⟩
  | row :: rows, h => by
    obtain ⟨l, rfl⟩ := rows_spans fun r hr => h r (List.mem_cons_of_mem _ hr)
    obtain ⟨x, rfl⟩ := typed_span (h row (List.mem_cons_self ..))
    exact ⟨x :: l, rfl⟩
theorem arg_flaws {d : Nat} {a : AV} (h : TypedArg Try.prog (d + 3) 37 a) : ∃ l : List Fl, (∀ x ∈ l, x.ok) ∧ l.length ≤ 9223372036854775807 ∧ a = .lst .no 3 (rowsFl l) := by
  obtain ⟨rows, rfl, h1, h2⟩ := arg_slice Try.underlying37 h
  obtain ⟨l, h3, rfl⟩ := rows_flaws h2
  exact ⟨l, h3, by rw [rowsFl_len] at h1; exact h1, by rw [size_cells szFl]⟩
theorem arg_spans {d : Nat} {a : AV} (h : TypedArg Try.prog (d + 3) 45 a) : ∃ l : List Sp, l.length ≤ 9223372036854775807 ∧ a = .lst .no 2 (rowsSp l) := by
  obtain ⟨rows, rfl, h1, h2⟩ := arg_slice Try.underlying45 h
  obtain ⟨l, rfl⟩ := rows_spans h2
  exact ⟨l, by rw [rowsSp_len] at h1; exact h1, by rw [size_cells szSp]⟩
end Go.Proofs.Ytojaokhkbmiidaa.Ev

namespace Go.Proofs.Ytojaokhkbmiidaa.Ev
open Go Go.Proofs
set_option maxRecDepth 10000
set_option maxHeartbeats 8000000
set_option linter.unusedVariables false
set_option linter.unusedSimpArgs false
attribute [local irreducible] Next Inside Runs Ops table
/-! ### one list that grows, and variables beside it -/
def GrowsA (m : Mem) (g : Grow) (m' : Mem) : Prop := ∃ m1, Grows m g m1 ∧ Above m1 m'
theorem growsA_full {m : Mem} : GrowsA m .full m := ⟨m, grows_full, above_self m⟩
theorem growsA_push {m m' : Mem} {g : Grow} {cs : List AV} (h : GrowsA m g m') : GrowsA m g (m'.push cs) :=
  let ⟨m1, h1, h2⟩ := h; ⟨m1, h1, above_push h2⟩
theorem growsA_fin {m m' : Mem} {g : Grow} (h : GrowsA m g m') : finMem m m' = m := by
  obtain ⟨m1, h1, L, rfl⟩ := h
  rcases h1 with ⟨_, rfl⟩ | ⟨v, _, rfl⟩
  · exact above_fin ⟨L, rfl⟩
  · unfold finMem Mem.tk
    rw [if_pos (by simp)]
    simp
theorem app_growsA {P : Program} {m : Mem} {t t2 : TypeId} {k : Nat} (ha : appB P t t2 k = true) {g : Grow} {m' : Mem} (hG : GrowsA m g m') {y : AV} {g2 : Grow} {xs ys : List (List AV)} (hy : asList k y = some (g2, ys)) (hl : xs.length + ys.length ≤ lim) :
    ∃ g' m'', evAppend P t t2 m' (.lst g k xs) y = some (.lst g' k (xs ++ ys), m'') ∧ GrowsA m g' m'' := by
  obtain ⟨m1, h1, L, rfl⟩ := hG
  rcases h1 with ⟨rfl, rfl⟩ | ⟨v, rfl, rfl⟩
  · refine ⟨_, _, app_of ha asList_lst hy hl, m1.tk [0], grows_tok, L, rfl⟩
  · refine ⟨_, { vars := m.vars ++ L, toks := m.toks ++ [v + 1] }, ?_, m.tk [v + 1], grows_tok, L, rfl⟩
    rw [app_of ha asList_lst hy hl]
    have h : ({ vars := (m.tk [v]).vars ++ L, toks := (m.tk [v]).toks } : Mem).toks[m.toks.length]? = some v := by simp [Mem.tk]
    simp only [h, if_true]
    simp [Mem.tk, List.set_append]
theorem app_strA {P : Program} {m : Mem} {t t2 : TypeId} (ha : appB P t t2 1 = true) {g g2 : Grow} {m' : Mem} (hG : GrowsA m g m') (xs : List ByteArray) (y : ByteArray) (hl : xs.length + 1 ≤ lim) :
    ∃ g' m'', evAppend P t t2 m' (.lst g 1 (rowsS xs)) (.lst g2 1 [[.v (.string y)]]) = some (.lst g' 1 (rowsS (xs ++ [y])), m'') ∧ GrowsA m g' m'' := by
  rw [← rowsS_app]
  exact app_growsA ha hG asList_lst (by rw [rowsS_len]; exact hl)
/-! ### lines -/
def OkFl (l : List Fl) : Prop := ∀ f ∈ l, f.ok
instance (l : List Fl) : Decidable (OkFl l) := by unfold OkFl; exact inferInstance
theorem OkFl.at {l : List Fl} (h : OkFl l) (i : Nat) : (l.getD i fl0).ok := by
  rw [List.getD]
  cases hp : l[i]? with
  | none => decide
  | some p => exact h p (List.mem_of_getElem? hp)
def linesG : List AV → Mem → Option (AV × Mem)
  | [.lst _ 3 rows], m =>
    match unsFl rows with
    | some l => if l.length ≤ 1000 ∧ OkFl l then some (.lst .no 1 (rowsS (l.map lineB)), m) else none
    | none => none
  | _, _ => none
theorem linesG_eq {m : Mem} {g : Grow} {l : List Fl} (h : l.length ≤ 1000 ∧ OkFl l) : linesG [.lst g 3 (rowsFl l)] m = some (.lst .no 1 (rowsS (l.map lineB)), m) := by
  simp only [linesG, unsFl_rowsFl]
  rw [if_pos h]
def kpLines : Nat → Option (List Nat) := fun
  | 0 => some [0]
  | 1 => some [0, 3]
  | 2 => some [3, 6, 7, 8]
  | 3 => some [3, 6, 7, 8, 9]
  | 4 => some [3, 5, 6, 7, 8]
  | 5 => some [3, 6, 7, 8]
  | 6 => some [3, 6, 7, 8]
  | 7 => some [2]
  | _ => none
def tab_lines_ok : List (FuncId × (List AV → Mem → Option (AV × Mem))) := [(43, lineG)]
theorem lines_ok : FunOk Try.prog 26 linesG := by
  have hC := table_ok (P := Try.prog) (l := tab_lines_ok) (table_more line_ok table_nil)
  have t1 := fun args mm => table_at (l := tab_lines_ok) (f := 43) (args := args) (m := mm) rfl
  refine fun_ok mixed hC Try.func26 rfl kpLines false rfl fun args m r h => ?_
  unfold linesG at h
  split at h
  · rename_i g rows
    split at h
    · rename_i l hl0
      obtain rfl := unsFl_some hl0
      split at h
      · rename_i hb
        simp only [Option.some.injEq] at h
        subst h
        refine ⟨Nat.le_of_ble_eq_true rfl, ?_⟩
        simp only [entry, List.length_cons, List.length_nil, List.range, List.range.loop, List.zip_cons_cons, List.zip_nil_right]
        repeat (first
          | refine runs_seq ?_ | refine runs_block ?_ | refine next_normal ?_ | refine inside_normal ?_ | refine next_exit ?_ | refine inside_exit ?_ | refine inside_other (by decide) ?_ | refine next_ret ?_ | refine inside_ret ?_
          | refine runs_ops_kept ?_ | refine runs_skip ?_ | refine runs_exit ?_ | refine runs_ret ?_
          | ((first | refine' ops_op rfl rfl (by decide) ?_ ?_ ?_ | refine' ops_yes rfl rfl (by simp only [Ev.get, reduceIte, Nat.reduceEqDiff, szStr, szInt, Option.getD_some, isNil, evStr, iv, rowsFl_len, mkStrs1, ldFl, zrFl, zoFl, znFl, zsFl, mapFl]; first | done | rfl) rfl (by decide) ?_ ?_ ?_ | refine' ops_op0 rfl rfl ?_ ?_ ?_); rotate_left 2; (focus (simp only [evOp, opd, constAV, constCell, Ev.get, reduceIte, Nat.reduceEqDiff, reduceCtorEq, evBinN, nilCmp, evBin, evInt, evUn, evConvert, evBuiltin, evLen, evField, evPart, tStr, tInt, tElem, tArr, tBool, tAgg, tField, Try.underlying9, Try.underlying3, Try.underlying4, Try.underlying5, Try.underlying21, Try.underlying121, Try.underlying38, Try.underlying25, Try.underlying135, Try.underlying33, Try.underlying2, Try.underlying147, Try.underlying22, Try.underlying56, Try.underlying54, List.zipWith, Option.map_some, Option.map_none, List.length_cons, List.length_nil, ne_eq, Int.reduceEq, not_false_eq_true, and_self, and_true, true_and, szStr, szInt, Option.getD_some, isNil, evStr, iv, rowsFl_len, mkStrs1, ldFl, zrFl, zoFl, znFl, zsFl, mapFl, evCall, List.size_toArray, List.append_nil, List.nil_append, List.map_cons, List.map_nil, argAV, argCell, List.toList_toArray, fieldTy]; first | done | rfl)); exact (fun h => by first | rfl | (simp at h; done) | exact absurd (Bool.and_eq_true_iff.mp h).2 (by decide)))
          | refine ops_no rfl rfl (by simp only [Ev.get, reduceIte, Nat.reduceEqDiff, szStr, szInt, Option.getD_some, isNil, evStr, iv, rowsFl_len, mkStrs1, ldFl, zrFl, zoFl, znFl, zsFl, mapFl]; first | done | rfl) (by decide) rfl (by decide) ?_
          | refine ops_off rfl rfl rfl rfl (by decide) ?_
          | (refine ops_nil ?_; intro e2 h2; simp only [restr, kpLines, List.map_cons, List.map_nil, Ev.get, reduceIte, Nat.reduceEqDiff] at h2; subst h2))
        refine runs_loop (fun k e m' => ∃ (i : Nat) (gr : Grow), i ≤ l.length ∧ GrowsA m gr m' ∧ k = l.length - i ∧
          e = [(3, .lst gr 1 (rowsS ((l.take i).map lineB))), (6, .lst g 3 (rowsFl l)), (7, .v (.int .i64 (l.length : Int))), (8, .v (.int .i64 (i : Int)))]) (k := l.length) ⟨0, _, Nat.zero_le _, growsA_full, rfl, rfl⟩ ?_
        rintro k e m' ⟨i, gr, hi0, hG, rfl, rfl⟩
        repeat (first
          | refine runs_seq ?_ | refine runs_block ?_ | refine next_normal ?_ | refine inside_normal ?_ | refine next_exit ?_ | refine inside_exit ?_ | refine inside_other (by decide) ?_ | refine next_ret ?_ | refine inside_ret ?_
          | refine runs_ops_kept ?_ | refine runs_skip ?_ | refine runs_exit ?_ | refine runs_ret ?_
          | ((first | refine' ops_op rfl rfl (by decide) ?_ ?_ ?_ | refine' ops_yes rfl rfl (by simp only [Ev.get, reduceIte, Nat.reduceEqDiff, szStr, szInt, Option.getD_some, isNil, evStr, iv, rowsFl_len, mkStrs1, ldFl, zrFl, zoFl, znFl, zsFl, mapFl]; first | done | rfl) rfl (by decide) ?_ ?_ ?_ | refine' ops_op0 rfl rfl ?_ ?_ ?_); rotate_left 2; (focus (simp only [evOp, opd, constAV, constCell, Ev.get, reduceIte, Nat.reduceEqDiff, reduceCtorEq, evBinN, nilCmp, evBin, evInt, evUn, evConvert, evBuiltin, evLen, evField, evPart, tStr, tInt, tElem, tArr, tBool, tAgg, tField, Try.underlying9, Try.underlying3, Try.underlying4, Try.underlying5, Try.underlying21, Try.underlying121, Try.underlying38, Try.underlying25, Try.underlying135, Try.underlying33, Try.underlying2, Try.underlying147, Try.underlying22, Try.underlying56, Try.underlying54, List.zipWith, Option.map_some, Option.map_none, List.length_cons, List.length_nil, ne_eq, Int.reduceEq, not_false_eq_true, and_self, and_true, true_and, szStr, szInt, Option.getD_some, isNil, evStr, iv, rowsFl_len, mkStrs1, ldFl, zrFl, zoFl, znFl, zsFl, mapFl, evCall, List.size_toArray, List.append_nil, List.nil_append, List.map_cons, List.map_nil, argAV, argCell, List.toList_toArray, fieldTy]; first | done | rfl)); exact (fun h => by first | rfl | (simp at h; done) | exact absurd (Bool.and_eq_true_iff.mp h).2 (by decide)))
          | refine ops_no rfl rfl (by simp only [Ev.get, reduceIte, Nat.reduceEqDiff, szStr, szInt, Option.getD_some, isNil, evStr, iv, rowsFl_len, mkStrs1, ldFl, zrFl, zoFl, znFl, zsFl, mapFl]; first | done | rfl) (by decide) rfl (by decide) ?_
          | refine ops_off rfl rfl rfl rfl (by decide) ?_
          | (refine ops_nil ?_; intro e2 h2; simp only [restr, kpLines, List.map_cons, List.map_nil, Ev.get, reduceIte, Nat.reduceEqDiff] at h2; subst h2))
        refine runs_cond rfl (fun hc => ?_) (fun hc => ?_)
        · have hi1 : i < l.length := by have := of_decide_eq_true hc; omega
          have f1 := atFl (g := g) (kk := .i64) hi1
          have hN := take_next (d := fl0) hi1
          have f2 := fun mm => lineG_eq (m := mm) (hb.2.at i)
          have r6 := next_i64 (i := i) (by omega)
          generalize l.getD i fl0 = f at f1 hN f2
          have hG2 := growsA_push (cs := f.row) hG
          have f3 := vrFl (m := m'.push f.row) (r := m'.vars.length) (x := f) push_var
          obtain ⟨g1, m1, ha1, hG1⟩ := app_strA (g2 := .full) appStrs hG2 ((l.take i).map lineB) (lineB f) (by unfold lim; simp; omega)
          repeat (first
            | refine runs_seq ?_ | refine runs_block ?_ | refine next_normal ?_ | refine inside_normal ?_ | refine next_exit ?_ | refine inside_exit ?_ | refine inside_other (by decide) ?_ | refine next_ret ?_ | refine inside_ret ?_
            | refine runs_ops_kept ?_ | refine runs_skip ?_ | refine runs_exit ?_ | refine runs_ret ?_
            | ((first | refine' ops_op rfl rfl (by decide) ?_ ?_ ?_ | refine' ops_yes rfl rfl (by simp only [Ev.get, reduceIte, Nat.reduceEqDiff, szStr, szInt, Option.getD_some, isNil, evStr, iv, rowsFl_len, mkStrs1, ldFl, zrFl, zoFl, znFl, zsFl, mapFl, f1, f3, t1, f2, ha1, r6]; first | done | rfl) rfl (by decide) ?_ ?_ ?_ | refine' ops_op0 rfl rfl ?_ ?_ ?_); rotate_left 2; (focus (simp only [evOp, opd, constAV, constCell, Ev.get, reduceIte, Nat.reduceEqDiff, reduceCtorEq, evBinN, nilCmp, evBin, evInt, evUn, evConvert, evBuiltin, evLen, evField, evPart, tStr, tInt, tElem, tArr, tBool, tAgg, tField, Try.underlying9, Try.underlying3, Try.underlying4, Try.underlying5, Try.underlying21, Try.underlying121, Try.underlying38, Try.underlying25, Try.underlying135, Try.underlying33, Try.underlying2, Try.underlying147, Try.underlying22, Try.underlying56, Try.underlying54, List.zipWith, Option.map_some, Option.map_none, List.length_cons, List.length_nil, ne_eq, Int.reduceEq, not_false_eq_true, and_self, and_true, true_and, szStr, szInt, Option.getD_some, isNil, evStr, iv, rowsFl_len, mkStrs1, ldFl, zrFl, zoFl, znFl, zsFl, mapFl, evCall, List.size_toArray, List.append_nil, List.nil_append, List.map_cons, List.map_nil, argAV, argCell, List.toList_toArray, fieldTy, f1, f3, t1, f2, ha1, r6]; first | done | rfl)); exact (fun h => by first | rfl | (simp at h; done) | exact absurd (Bool.and_eq_true_iff.mp h).2 (by decide)))
            | refine ops_no rfl rfl (by simp only [Ev.get, reduceIte, Nat.reduceEqDiff, szStr, szInt, Option.getD_some, isNil, evStr, iv, rowsFl_len, mkStrs1, ldFl, zrFl, zoFl, znFl, zsFl, mapFl, f1, f3, t1, f2, ha1, r6]; first | done | rfl) (by decide) rfl (by decide) ?_
            | refine ops_off rfl rfl rfl rfl (by decide) ?_
            | (refine ops_nil ?_; intro e2 h2; simp only [restr, kpLines, List.map_cons, List.map_nil, Ev.get, reduceIte, Nat.reduceEqDiff] at h2; subst h2))
          exact ⟨l.length - (i + 1), by omega, i + 1, g1, hi1, hG1, rfl, by rw [hN, List.map_append]; rfl⟩
        · have hi1 : i = l.length := by have := of_decide_eq_false hc; omega
          subst hi1
          rw [List.take_length]
          repeat (first
            | refine runs_seq ?_ | refine runs_block ?_ | refine next_normal ?_ | refine inside_normal ?_ | refine next_exit ?_ | refine inside_exit ?_ | refine inside_other (by decide) ?_ | refine next_ret ?_ | refine inside_ret ?_
            | refine runs_ops_kept ?_ | refine runs_skip ?_ | refine runs_exit ?_ | refine runs_ret ?_
            | ((first | refine' ops_op rfl rfl (by decide) ?_ ?_ ?_ | refine' ops_yes rfl rfl (by simp only [Ev.get, reduceIte, Nat.reduceEqDiff, szStr, szInt, Option.getD_some, isNil, evStr, iv, rowsFl_len, mkStrs1, ldFl, zrFl, zoFl, znFl, zsFl, mapFl]; first | done | rfl) rfl (by decide) ?_ ?_ ?_ | refine' ops_op0 rfl rfl ?_ ?_ ?_); rotate_left 2; (focus (simp only [evOp, opd, constAV, constCell, Ev.get, reduceIte, Nat.reduceEqDiff, reduceCtorEq, evBinN, nilCmp, evBin, evInt, evUn, evConvert, evBuiltin, evLen, evField, evPart, tStr, tInt, tElem, tArr, tBool, tAgg, tField, Try.underlying9, Try.underlying3, Try.underlying4, Try.underlying5, Try.underlying21, Try.underlying121, Try.underlying38, Try.underlying25, Try.underlying135, Try.underlying33, Try.underlying2, Try.underlying147, Try.underlying22, Try.underlying56, Try.underlying54, List.zipWith, Option.map_some, Option.map_none, List.length_cons, List.length_nil, ne_eq, Int.reduceEq, not_false_eq_true, and_self, and_true, true_and, szStr, szInt, Option.getD_some, isNil, evStr, iv, rowsFl_len, mkStrs1, ldFl, zrFl, zoFl, znFl, zsFl, mapFl, evCall, List.size_toArray, List.append_nil, List.nil_append, List.map_cons, List.map_nil, argAV, argCell, List.toList_toArray, fieldTy]; first | done | rfl)); exact (fun h => by first | rfl | (simp at h; done) | exact absurd (Bool.and_eq_true_iff.mp h).2 (by decide)))
            | refine ops_no rfl rfl (by simp only [Ev.get, reduceIte, Nat.reduceEqDiff, szStr, szInt, Option.getD_some, isNil, evStr, iv, rowsFl_len, mkStrs1, ldFl, zrFl, zoFl, znFl, zsFl, mapFl]; first | done | rfl) (by decide) rfl (by decide) ?_
            | refine ops_off rfl rfl rfl rfl (by decide) ?_
            | (refine ops_nil ?_; intro e2 h2; simp only [restr, kpLines, List.map_cons, List.map_nil, Ev.get, reduceIte, Nat.reduceEqDiff] at h2; subst h2))
          exact leaves_lst rfl rfl (growsA_fin hG)
      · cases h
    · cases h
  · cases h
theorem ops_rcut {P : Program} {call : CallF} {nt : Nat} {kp : Nat → Option (List Nat)} {ops : Array Oper} {pu : Bool} {l : List Oper} {e : Env} {m : Mem} {id : Nat} {Q : Env → Mem → Prop} (E : Env) (M : Mem)
    (h : Ops P call nt ops pu l e m fun e' m' => ∀ e2, Ev.restr (kp id) e' = e2 → e2 = E ∧ m' = M) (hk : Q E M) : Ops P call nt ops pu l e m fun e' m' => ∀ e2, Ev.restr (kp id) e' = e2 → Q e2 m' :=
  ops_cut h fun e' m' hh e2 he => by obtain ⟨a, b⟩ := hh e2 he; rw [a, b]; exact hk
def wq (n : Int) : ByteArray := if rword n = ⟨#[]⟩ then ⟨#[63]⟩ else rword n
theorem wq_in {i : Nat} (h : 1 ≤ i ∧ i ≤ 19) : wq (i : Int) = rwords.getD i ⟨#[]⟩ := by
  have e := rword_nat (i := i) (by omega)
  unfold wq
  rw [e, if_neg]
  have : i < 20 := by omega
  obtain ⟨h1, _⟩ := h
  clear e
  revert i
  decide
theorem wq_out {n : Int} (h : ¬ (1 ≤ n ∧ n ≤ 19)) : wq n = ⟨#[63]⟩ := by
  unfold wq
  rw [if_pos]
  unfold rword
  by_cases h0 : n = 0
  · subst h0; rfl
  · rw [if_neg (by omega)]
theorem wq_size (n : Int) : (wq n).size ≤ 10 := by
  unfold wq
  split
  · decide
  · exact rword_size n
theorem line_wq (f : Fl) : wq f.rule ++ ⟨#[32]⟩ ++ txt (tellL f.item) ++ ⟨#[32]⟩ ++ txt (tellL f.part) = lineB f := rfl
theorem rwLen : ((rwords.length : Nat) : Int) = 20 := rfl
theorem map_at {l : List Fl} {i : Nat} (h : i < l.length) : (l.map lineB).getD i ⟨#[]⟩ = lineB (l.getD i fl0) := by
  simp [List.getD, List.getElem?_eq_getElem h]
def kpCheckLinesLaw : Nat → Option (List Nat) := fun
  | 0 => some [0, 1]
  | 1 => some [0, 1, 12]
  | 3 => some [0, 1, 5]
  | 4 => some [0, 1, 5, 6]
  | 5 => some [0, 1, 5, 6, 22]
  | 6 => some [0, 1, 5, 6, 22]
  | 7 => some [0, 1, 5, 6, 7]
  | 8 => some [0, 5, 7, 39]
  | 10 => some [0, 5, 7, 8]
  | 11 => some [0, 5, 7, 8, 43]
  | 13 => some [0, 5, 7, 8, 9]
  | 14 => some [0, 5, 7, 8, 9, 59]
  | 15 => some [0, 5, 7, 8, 9, 59]
  | 16 => some [0, 5, 7, 8, 89]
  | 12 => some [0, 5, 7, 8]
  | _ => some [4]
def checkLinesLawG : List AV → Mem → Option (AV × Mem)
  | [.lst _ 3 rows, .v (.int .i64 rule)], m =>
    match unsFl rows with
    | some l => if l.length ≤ 9223372036854775807 ∧ OkFl l then some (.v (.bool true), m) else none
    | none => none
  | _, _ => none
def tab_checkLinesLaw_ok : List (FuncId × (List AV → Mem → Option (AV × Mem))) := [(24, yesG), (25, rwordsG), (26, linesG), (27, rwordG), (28, tellG)]
theorem checkLinesLaw_ok : FunOk Try.prog 6 checkLinesLawG := by
  have hC := table_ok (P := Try.prog) (l := tab_checkLinesLaw_ok) (table_more awake21_ok (table_more rwords_ok (table_more lines_ok (table_more rword_ok (table_more refTell_ok table_nil)))))
  have t1 := fun args mm => table_at (l := tab_checkLinesLaw_ok) (f := 24) (args := args) (m := mm) rfl
  have t2 := fun args mm => table_at (l := tab_checkLinesLaw_ok) (f := 25) (args := args) (m := mm) rfl
  have t3 := fun args mm => table_at (l := tab_checkLinesLaw_ok) (f := 26) (args := args) (m := mm) rfl
  have t4 := fun args mm => table_at (l := tab_checkLinesLaw_ok) (f := 27) (args := args) (m := mm) rfl
  have t5 := fun args mm => table_at (l := tab_checkLinesLaw_ok) (f := 28) (args := args) (m := mm) rfl
  refine fun_ok mixed hC Try.func6 rfl kpCheckLinesLaw false rfl fun args m r h => ?_
  unfold checkLinesLawG at h
  split at h
  · rename_i g rows rule
    split at h
    · rename_i l hl0
      obtain rfl := unsFl_some hl0
      split at h
      · rename_i hb
        simp only [Option.some.injEq] at h
        subst h
        refine ⟨Nat.le_of_ble_eq_true rfl, ?_⟩
        simp only [entry, List.length_cons, List.length_nil, List.range, List.range.loop, List.zip_cons_cons, List.zip_nil_right]
        by_cases h60 : l.length ≤ 60
        · have b0 : decide ((l.length : Int) > 60) = false := decide_eq_false (by omega)
          have f2 : ∀ mm, rwordsG [] mm = some (.lst .no 1 (rowsS rwords), mm) := fun _ => rfl
          have f3 := fun mm => linesG_eq (m := mm) (g := .no) (l := l) ⟨by omega, hb.2⟩
          have f4 : ∀ mm, rwordG [.v (.int .i64 rule)] mm = some (.v (.string (rword rule)), mm) := fun _ => rfl
          have f5 : (rword rule != rword rule) = false := by unfold bne; rw [bytes_self]; rfl
          have f6 : (((l.map lineB).length : Nat) : Int) = (l.length : Int) := by rw [List.length_map]
          repeat (first
            | refine runs_seq ?_ | refine runs_block ?_ | refine next_normal ?_ | refine inside_normal ?_ | refine next_exit ?_ | refine inside_exit ?_ | refine inside_other (by decide) ?_ | refine next_ret ?_ | refine inside_ret ?_
            | refine runs_ops_kept ?_ | refine runs_skip ?_ | refine runs_exit ?_ | refine runs_ret ?_
            | ((first | refine' ops_op rfl rfl (by decide) ?_ ?_ ?_ | refine' ops_yes rfl rfl (by simp only [Ev.get, reduceIte, Nat.reduceEqDiff, szStr, szInt, Option.getD_some, isNil, evStr, iv, rowsFl_len, rowsS_len, rwLen, loadStr, feFlRule, feFlItem, feFlPart, leFlRule, leFlItem, leFlPart, b0]; first | done | rfl) rfl (by decide) ?_ ?_ ?_ | refine' ops_op0 rfl rfl ?_ ?_ ?_); rotate_left 2; (focus (simp only [evOp, opd, constAV, constCell, Ev.get, reduceIte, Nat.reduceEqDiff, reduceCtorEq, evBinN, nilCmp, evBin, evInt, evUn, evConvert, evBuiltin, evLen, evField, evPart, tStr, tInt, tElem, tArr, tBool, tAgg, tField, Try.underlying9, Try.underlying3, Try.underlying4, Try.underlying5, Try.underlying21, Try.underlying121, Try.underlying38, Try.underlying25, Try.underlying135, Try.underlying33, Try.underlying2, Try.underlying147, Try.underlying22, Try.underlying56, Try.underlying54, List.zipWith, Option.map_some, Option.map_none, List.length_cons, List.length_nil, ne_eq, Int.reduceEq, not_false_eq_true, and_self, and_true, true_and, szStr, szInt, Option.getD_some, isNil, evStr, iv, rowsFl_len, rowsS_len, rwLen, loadStr, feFlRule, feFlItem, feFlPart, leFlRule, leFlItem, leFlPart, evCall, List.size_toArray, List.append_nil, List.nil_append, List.map_cons, List.map_nil, argAV, argCell, List.toList_toArray, fieldTy, b0]; first | done | rfl)); exact (fun h => by first | rfl | (simp at h; done) | exact absurd (Bool.and_eq_true_iff.mp h).2 (by decide)))
            | refine ops_no rfl rfl (by simp only [Ev.get, reduceIte, Nat.reduceEqDiff, szStr, szInt, Option.getD_some, isNil, evStr, iv, rowsFl_len, rowsS_len, rwLen, loadStr, feFlRule, feFlItem, feFlPart, leFlRule, leFlItem, leFlPart, b0]; first | done | rfl) (by decide) rfl (by decide) ?_
            | refine ops_off rfl rfl rfl rfl (by decide) ?_
            | (refine ops_nil ?_; intro e2 h2; simp only [restr, kpCheckLinesLaw, List.map_cons, List.map_nil, Ev.get, reduceIte, Nat.reduceEqDiff] at h2; subst h2))
          refine runs_cond rfl (fun hc => by cases hc) (fun hc => ?_)
          repeat (first
            | refine runs_seq ?_ | refine runs_block ?_ | refine next_normal ?_ | refine inside_normal ?_ | refine next_exit ?_ | refine inside_exit ?_ | refine inside_other (by decide) ?_ | refine next_ret ?_ | refine inside_ret ?_
            | refine runs_ops_kept ?_ | refine runs_skip ?_ | refine runs_exit ?_ | refine runs_ret ?_
            | ((first | refine' ops_op rfl rfl (by decide) ?_ ?_ ?_ | refine' ops_yes rfl rfl (by simp only [Ev.get, reduceIte, Nat.reduceEqDiff, szStr, szInt, Option.getD_some, isNil, evStr, iv, rowsFl_len, rowsS_len, rwLen, loadStr, feFlRule, feFlItem, feFlPart, leFlRule, leFlItem, leFlPart, t2, f2]; first | done | rfl) rfl (by decide) ?_ ?_ ?_ | refine' ops_op0 rfl rfl ?_ ?_ ?_); rotate_left 2; (focus (simp only [evOp, opd, constAV, constCell, Ev.get, reduceIte, Nat.reduceEqDiff, reduceCtorEq, evBinN, nilCmp, evBin, evInt, evUn, evConvert, evBuiltin, evLen, evField, evPart, tStr, tInt, tElem, tArr, tBool, tAgg, tField, Try.underlying9, Try.underlying3, Try.underlying4, Try.underlying5, Try.underlying21, Try.underlying121, Try.underlying38, Try.underlying25, Try.underlying135, Try.underlying33, Try.underlying2, Try.underlying147, Try.underlying22, Try.underlying56, Try.underlying54, List.zipWith, Option.map_some, Option.map_none, List.length_cons, List.length_nil, ne_eq, Int.reduceEq, not_false_eq_true, and_self, and_true, true_and, szStr, szInt, Option.getD_some, isNil, evStr, iv, rowsFl_len, rowsS_len, rwLen, loadStr, feFlRule, feFlItem, feFlPart, leFlRule, leFlItem, leFlPart, evCall, List.size_toArray, List.append_nil, List.nil_append, List.map_cons, List.map_nil, argAV, argCell, List.toList_toArray, fieldTy, t2, f2]; first | done | rfl)); exact (fun h => by first | rfl | (simp at h; done) | exact absurd (Bool.and_eq_true_iff.mp h).2 (by decide)))
            | refine ops_no rfl rfl (by simp only [Ev.get, reduceIte, Nat.reduceEqDiff, szStr, szInt, Option.getD_some, isNil, evStr, iv, rowsFl_len, rowsS_len, rwLen, loadStr, feFlRule, feFlItem, feFlPart, leFlRule, leFlItem, leFlPart, t2, f2]; first | done | rfl) (by decide) rfl (by decide) ?_
            | refine ops_off rfl rfl rfl rfl (by decide) ?_
            | (refine ops_nil ?_; intro e2 h2; simp only [restr, kpCheckLinesLaw, List.map_cons, List.map_nil, Ev.get, reduceIte, Nat.reduceEqDiff] at h2; subst h2))
          refine ops_rcut [(0, .lst g 3 (rowsFl l)), (1, .v (.int .i64 rule)), (5, .lst .no 1 (rowsS rwords)), (6, .v (.string ⟨#[]⟩)), (22, .v (.bool (decide (0 ≤ rule ∧ rule < 20))))] m ?_ ?_
          · repeat' (first
              | (first | refine runs_seq ?_ | refine runs_block ?_ | refine next_normal ?_ | refine inside_normal ?_ | refine next_exit ?_ | refine inside_exit ?_ | refine inside_other (by decide) ?_ | refine next_ret ?_ | refine inside_ret ?_ | refine runs_ops_kept ?_ | refine runs_skip ?_ | refine runs_exit ?_ | refine runs_ret ?_ | ((first | refine' ops_op rfl rfl (by decide) ?_ ?_ ?_ | refine' ops_yes rfl rfl (by simp only [Ev.get, reduceIte, Nat.reduceEqDiff, szStr, szInt, Option.getD_some, isNil, evStr, iv, rowsFl_len, rowsS_len, rwLen, loadStr, feFlRule, feFlItem, feFlPart, leFlRule, leFlItem, leFlPart]; first | done | rfl) rfl (by decide) ?_ ?_ ?_ | refine' ops_op0 rfl rfl ?_ ?_ ?_); rotate_left 2; (focus (simp only [evOp, opd, constAV, constCell, Ev.get, reduceIte, Nat.reduceEqDiff, reduceCtorEq, evBinN, nilCmp, evBin, evInt, evUn, evConvert, evBuiltin, evLen, evField, evPart, tStr, tInt, tElem, tArr, tBool, tAgg, tField, Try.underlying9, Try.underlying3, Try.underlying4, Try.underlying5, Try.underlying21, Try.underlying121, Try.underlying38, Try.underlying25, Try.underlying135, Try.underlying33, Try.underlying2, Try.underlying147, Try.underlying22, Try.underlying56, Try.underlying54, List.zipWith, Option.map_some, Option.map_none, List.length_cons, List.length_nil, ne_eq, Int.reduceEq, not_false_eq_true, and_self, and_true, true_and, szStr, szInt, Option.getD_some, isNil, evStr, iv, rowsFl_len, rowsS_len, rwLen, loadStr, feFlRule, feFlItem, feFlPart, leFlRule, leFlItem, leFlPart, evCall, List.size_toArray, List.append_nil, List.nil_append, List.map_cons, List.map_nil, argAV, argCell, List.toList_toArray, fieldTy]; first | done | rfl)); exact (fun h => by first | rfl | (simp at h; done) | exact absurd (Bool.and_eq_true_iff.mp h).2 (by decide))) | refine ops_no rfl rfl (by simp only [Ev.get, reduceIte, Nat.reduceEqDiff, szStr, szInt, Option.getD_some, isNil, evStr, iv, rowsFl_len, rowsS_len, rwLen, loadStr, feFlRule, feFlItem, feFlPart, leFlRule, leFlItem, leFlPart]; first | done | rfl) (by decide) rfl (by decide) ?_ | refine ops_off rfl rfl rfl rfl (by decide) ?_ | (refine ops_nil ?_; intro e2 h2; simp only [restr, kpCheckLinesLaw, List.map_cons, List.map_nil, Ev.get, reduceIte, Nat.reduceEqDiff] at h2; subst h2))
              | (refine ops_here ?_; (fail_if_success (refine ops_case (B := true) rfl rfl rfl ?_ ?_)); (fail_if_success (refine ops_case (B := false) rfl rfl rfl ?_ ?_)); refine ops_case rfl rfl rfl (fun hB => ?_) (fun hB => ?_) <;> rw [hB])
              | (refine runs_here ?_; refine runs_cond rfl (fun hc => ?_) (fun hc => ?_) <;> first | (cases hc; done) | skip))
            all_goals refine ⟨?_, rfl⟩
            all_goals first | (simp_all; done) | (simp_all; omega)
          refine next_normal ?_
          refine runs_rcut [(0, .lst g 3 (rowsFl l)), (1, .v (.int .i64 rule)), (5, .lst .no 1 (rowsS rwords)), (6, .v (.string (rword rule))), (22, .v (.bool (decide (0 ≤ rule ∧ rule < 20))))] m ?_ ?_
          · refine runs_cond rfl (fun hc => ?_) (fun hc => ?_)
            · have hr := of_decide_eq_true hc
              obtain ⟨i, rfl⟩ := Int.eq_ofNat_of_zero_le hr.1
              have f7 := atStrs (g := .no) (kk := .i64) (l := rwords) (i := i) (show i < 20 by omega)
              rw [← rword_nat (by omega)] at f7
              repeat (first
                | refine runs_seq ?_ | refine runs_block ?_ | refine next_normal ?_ | refine inside_normal ?_ | refine next_exit ?_ | refine inside_exit ?_ | refine inside_other (by decide) ?_ | refine next_ret ?_ | refine inside_ret ?_
                | refine runs_ops_kept ?_ | refine runs_skip ?_ | refine runs_exit ?_ | refine runs_ret ?_
                | ((first | refine' ops_op rfl rfl (by decide) ?_ ?_ ?_ | refine' ops_yes rfl rfl (by simp only [Ev.get, reduceIte, Nat.reduceEqDiff, szStr, szInt, Option.getD_some, isNil, evStr, iv, rowsFl_len, rowsS_len, rwLen, loadStr, feFlRule, feFlItem, feFlPart, leFlRule, leFlItem, leFlPart, f7]; first | done | rfl) rfl (by decide) ?_ ?_ ?_ | refine' ops_op0 rfl rfl ?_ ?_ ?_); rotate_left 2; (focus (simp only [evOp, opd, constAV, constCell, Ev.get, reduceIte, Nat.reduceEqDiff, reduceCtorEq, evBinN, nilCmp, evBin, evInt, evUn, evConvert, evBuiltin, evLen, evField, evPart, tStr, tInt, tElem, tArr, tBool, tAgg, tField, Try.underlying9, Try.underlying3, Try.underlying4, Try.underlying5, Try.underlying21, Try.underlying121, Try.underlying38, Try.underlying25, Try.underlying135, Try.underlying33, Try.underlying2, Try.underlying147, Try.underlying22, Try.underlying56, Try.underlying54, List.zipWith, Option.map_some, Option.map_none, List.length_cons, List.length_nil, ne_eq, Int.reduceEq, not_false_eq_true, and_self, and_true, true_and, szStr, szInt, Option.getD_some, isNil, evStr, iv, rowsFl_len, rowsS_len, rwLen, loadStr, feFlRule, feFlItem, feFlPart, leFlRule, leFlItem, leFlPart, evCall, List.size_toArray, List.append_nil, List.nil_append, List.map_cons, List.map_nil, argAV, argCell, List.toList_toArray, fieldTy, f7]; first | done | rfl)); exact (fun h => by first | rfl | (simp at h; done) | exact absurd (Bool.and_eq_true_iff.mp h).2 (by decide)))
                | refine ops_no rfl rfl (by simp only [Ev.get, reduceIte, Nat.reduceEqDiff, szStr, szInt, Option.getD_some, isNil, evStr, iv, rowsFl_len, rowsS_len, rwLen, loadStr, feFlRule, feFlItem, feFlPart, leFlRule, leFlItem, leFlPart, f7]; first | done | rfl) (by decide) rfl (by decide) ?_
                | refine ops_off rfl rfl rfl rfl (by decide) ?_
                | (refine ops_nil ?_; intro e2 h2; simp only [restr, kpCheckLinesLaw, List.map_cons, List.map_nil, Ev.get, reduceIte, Nat.reduceEqDiff] at h2; subst h2))
              exact ⟨rfl, rfl, rfl⟩
            · have hr := of_decide_eq_false hc
              rw [show rword rule = ⟨#[]⟩ from if_neg hr]
              repeat (first
                | refine runs_seq ?_ | refine runs_block ?_ | refine next_normal ?_ | refine inside_normal ?_ | refine next_exit ?_ | refine inside_exit ?_ | refine inside_other (by decide) ?_ | refine next_ret ?_ | refine inside_ret ?_
                | refine runs_ops_kept ?_ | refine runs_skip ?_ | refine runs_exit ?_ | refine runs_ret ?_
                | ((first | refine' ops_op rfl rfl (by decide) ?_ ?_ ?_ | refine' ops_yes rfl rfl (by simp only [Ev.get, reduceIte, Nat.reduceEqDiff, szStr, szInt, Option.getD_some, isNil, evStr, iv, rowsFl_len, rowsS_len, rwLen, loadStr, feFlRule, feFlItem, feFlPart, leFlRule, leFlItem, leFlPart]; first | done | rfl) rfl (by decide) ?_ ?_ ?_ | refine' ops_op0 rfl rfl ?_ ?_ ?_); rotate_left 2; (focus (simp only [evOp, opd, constAV, constCell, Ev.get, reduceIte, Nat.reduceEqDiff, reduceCtorEq, evBinN, nilCmp, evBin, evInt, evUn, evConvert, evBuiltin, evLen, evField, evPart, tStr, tInt, tElem, tArr, tBool, tAgg, tField, Try.underlying9, Try.underlying3, Try.underlying4, Try.underlying5, Try.underlying21, Try.underlying121, Try.underlying38, Try.underlying25, Try.underlying135, Try.underlying33, Try.underlying2, Try.underlying147, Try.underlying22, Try.underlying56, Try.underlying54, List.zipWith, Option.map_some, Option.map_none, List.length_cons, List.length_nil, ne_eq, Int.reduceEq, not_false_eq_true, and_self, and_true, true_and, szStr, szInt, Option.getD_some, isNil, evStr, iv, rowsFl_len, rowsS_len, rwLen, loadStr, feFlRule, feFlItem, feFlPart, leFlRule, leFlItem, leFlPart, evCall, List.size_toArray, List.append_nil, List.nil_append, List.map_cons, List.map_nil, argAV, argCell, List.toList_toArray, fieldTy]; first | done | rfl)); exact (fun h => by first | rfl | (simp at h; done) | exact absurd (Bool.and_eq_true_iff.mp h).2 (by decide)))
                | refine ops_no rfl rfl (by simp only [Ev.get, reduceIte, Nat.reduceEqDiff, szStr, szInt, Option.getD_some, isNil, evStr, iv, rowsFl_len, rowsS_len, rwLen, loadStr, feFlRule, feFlItem, feFlPart, leFlRule, leFlItem, leFlPart]; first | done | rfl) (by decide) rfl (by decide) ?_
                | refine ops_off rfl rfl rfl rfl (by decide) ?_
                | (refine ops_nil ?_; intro e2 h2; simp only [restr, kpCheckLinesLaw, List.map_cons, List.map_nil, Ev.get, reduceIte, Nat.reduceEqDiff] at h2; subst h2))
              exact ⟨rfl, rfl, rfl⟩
          repeat (first
            | refine runs_seq ?_ | refine runs_block ?_ | refine next_normal ?_ | refine inside_normal ?_ | refine next_exit ?_ | refine inside_exit ?_ | refine inside_other (by decide) ?_ | refine next_ret ?_ | refine inside_ret ?_
            | refine runs_ops_kept ?_ | refine runs_skip ?_ | refine runs_exit ?_ | refine runs_ret ?_
            | ((first | refine' ops_op rfl rfl (by decide) ?_ ?_ ?_ | refine' ops_yes rfl rfl (by simp only [Ev.get, reduceIte, Nat.reduceEqDiff, szStr, szInt, Option.getD_some, isNil, evStr, iv, rowsFl_len, rowsS_len, rwLen, loadStr, feFlRule, feFlItem, feFlPart, leFlRule, leFlItem, leFlPart, t3, f3, t4, f4, f5, f6, bne_self_eq_false]; first | done | rfl) rfl (by decide) ?_ ?_ ?_ | refine' ops_op0 rfl rfl ?_ ?_ ?_); rotate_left 2; (focus (simp only [evOp, opd, constAV, constCell, Ev.get, reduceIte, Nat.reduceEqDiff, reduceCtorEq, evBinN, nilCmp, evBin, evInt, evUn, evConvert, evBuiltin, evLen, evField, evPart, tStr, tInt, tElem, tArr, tBool, tAgg, tField, Try.underlying9, Try.underlying3, Try.underlying4, Try.underlying5, Try.underlying21, Try.underlying121, Try.underlying38, Try.underlying25, Try.underlying135, Try.underlying33, Try.underlying2, Try.underlying147, Try.underlying22, Try.underlying56, Try.underlying54, List.zipWith, Option.map_some, Option.map_none, List.length_cons, List.length_nil, ne_eq, Int.reduceEq, not_false_eq_true, and_self, and_true, true_and, szStr, szInt, Option.getD_some, isNil, evStr, iv, rowsFl_len, rowsS_len, rwLen, loadStr, feFlRule, feFlItem, feFlPart, leFlRule, leFlItem, leFlPart, evCall, List.size_toArray, List.append_nil, List.nil_append, List.map_cons, List.map_nil, argAV, argCell, List.toList_toArray, fieldTy, t3, f3, t4, f4, f5, f6, bne_self_eq_false]; first | done | rfl)); exact (fun h => by first | rfl | (simp at h; done) | exact absurd (Bool.and_eq_true_iff.mp h).2 (by decide)))
            | refine ops_no rfl rfl (by simp only [Ev.get, reduceIte, Nat.reduceEqDiff, szStr, szInt, Option.getD_some, isNil, evStr, iv, rowsFl_len, rowsS_len, rwLen, loadStr, feFlRule, feFlItem, feFlPart, leFlRule, leFlItem, leFlPart, t3, f3, t4, f4, f5, f6, bne_self_eq_false]; first | done | rfl) (by decide) rfl (by decide) ?_
            | refine ops_off rfl rfl rfl rfl (by decide) ?_
            | (refine ops_nil ?_; intro e2 h2; simp only [restr, kpCheckLinesLaw, List.map_cons, List.map_nil, Ev.get, reduceIte, Nat.reduceEqDiff] at h2; subst h2))
          refine runs_cond rfl (fun hc => by cases hc) (fun hc => ?_)
          repeat (first
            | refine runs_seq ?_ | refine runs_block ?_ | refine next_normal ?_ | refine inside_normal ?_ | refine next_exit ?_ | refine inside_exit ?_ | refine inside_other (by decide) ?_ | refine next_ret ?_ | refine inside_ret ?_
            | refine runs_ops_kept ?_ | refine runs_skip ?_ | refine runs_exit ?_ | refine runs_ret ?_
            | ((first | refine' ops_op rfl rfl (by decide) ?_ ?_ ?_ | refine' ops_yes rfl rfl (by simp only [Ev.get, reduceIte, Nat.reduceEqDiff, szStr, szInt, Option.getD_some, isNil, evStr, iv, rowsFl_len, rowsS_len, rwLen, loadStr, feFlRule, feFlItem, feFlPart, leFlRule, leFlItem, leFlPart]; first | done | rfl) rfl (by decide) ?_ ?_ ?_ | refine' ops_op0 rfl rfl ?_ ?_ ?_); rotate_left 2; (focus (simp only [evOp, opd, constAV, constCell, Ev.get, reduceIte, Nat.reduceEqDiff, reduceCtorEq, evBinN, nilCmp, evBin, evInt, evUn, evConvert, evBuiltin, evLen, evField, evPart, tStr, tInt, tElem, tArr, tBool, tAgg, tField, Try.underlying9, Try.underlying3, Try.underlying4, Try.underlying5, Try.underlying21, Try.underlying121, Try.underlying38, Try.underlying25, Try.underlying135, Try.underlying33, Try.underlying2, Try.underlying147, Try.underlying22, Try.underlying56, Try.underlying54, List.zipWith, Option.map_some, Option.map_none, List.length_cons, List.length_nil, ne_eq, Int.reduceEq, not_false_eq_true, and_self, and_true, true_and, szStr, szInt, Option.getD_some, isNil, evStr, iv, rowsFl_len, rowsS_len, rwLen, loadStr, feFlRule, feFlItem, feFlPart, leFlRule, leFlItem, leFlPart, evCall, List.size_toArray, List.append_nil, List.nil_append, List.map_cons, List.map_nil, argAV, argCell, List.toList_toArray, fieldTy]; first | done | rfl)); exact (fun h => by first | rfl | (simp at h; done) | exact absurd (Bool.and_eq_true_iff.mp h).2 (by decide)))
            | refine ops_no rfl rfl (by simp only [Ev.get, reduceIte, Nat.reduceEqDiff, szStr, szInt, Option.getD_some, isNil, evStr, iv, rowsFl_len, rowsS_len, rwLen, loadStr, feFlRule, feFlItem, feFlPart, leFlRule, leFlItem, leFlPart]; first | done | rfl) (by decide) rfl (by decide) ?_
            | refine ops_off rfl rfl rfl rfl (by decide) ?_
            | (refine ops_nil ?_; intro e2 h2; simp only [restr, kpCheckLinesLaw, List.map_cons, List.map_nil, Ev.get, reduceIte, Nat.reduceEqDiff] at h2; subst h2))
          refine runs_loop (fun k e m' => ∃ (i : Nat), i ≤ l.length ∧ m = m' ∧ k = l.length - i ∧
            e = [(0, .lst g 3 (rowsFl l)), (5, .lst .no 1 (rowsS rwords)), (7, .lst .no 1 (rowsS (l.map lineB))), (8, .v (.int .i64 (i : Int)))]) (k := l.length) ⟨0, Nat.zero_le _, rfl, rfl, rfl⟩ ?_
          rintro k e m' ⟨i, hi0, rfl, rfl, rfl⟩
          repeat (first
            | refine runs_seq ?_ | refine runs_block ?_ | refine next_normal ?_ | refine inside_normal ?_ | refine next_exit ?_ | refine inside_exit ?_ | refine inside_other (by decide) ?_ | refine next_ret ?_ | refine inside_ret ?_
            | refine runs_ops_kept ?_ | refine runs_skip ?_ | refine runs_exit ?_ | refine runs_ret ?_
            | ((first | refine' ops_op rfl rfl (by decide) ?_ ?_ ?_ | refine' ops_yes rfl rfl (by simp only [Ev.get, reduceIte, Nat.reduceEqDiff, szStr, szInt, Option.getD_some, isNil, evStr, iv, rowsFl_len, rowsS_len, rwLen, loadStr, feFlRule, feFlItem, feFlPart, leFlRule, leFlItem, leFlPart]; first | done | rfl) rfl (by decide) ?_ ?_ ?_ | refine' ops_op0 rfl rfl ?_ ?_ ?_); rotate_left 2; (focus (simp only [evOp, opd, constAV, constCell, Ev.get, reduceIte, Nat.reduceEqDiff, reduceCtorEq, evBinN, nilCmp, evBin, evInt, evUn, evConvert, evBuiltin, evLen, evField, evPart, tStr, tInt, tElem, tArr, tBool, tAgg, tField, Try.underlying9, Try.underlying3, Try.underlying4, Try.underlying5, Try.underlying21, Try.underlying121, Try.underlying38, Try.underlying25, Try.underlying135, Try.underlying33, Try.underlying2, Try.underlying147, Try.underlying22, Try.underlying56, Try.underlying54, List.zipWith, Option.map_some, Option.map_none, List.length_cons, List.length_nil, ne_eq, Int.reduceEq, not_false_eq_true, and_self, and_true, true_and, szStr, szInt, Option.getD_some, isNil, evStr, iv, rowsFl_len, rowsS_len, rwLen, loadStr, feFlRule, feFlItem, feFlPart, leFlRule, leFlItem, leFlPart, evCall, List.size_toArray, List.append_nil, List.nil_append, List.map_cons, List.map_nil, argAV, argCell, List.toList_toArray, fieldTy]; first | done | rfl)); exact (fun h => by first | rfl | (simp at h; done) | exact absurd (Bool.and_eq_true_iff.mp h).2 (by decide)))
            | refine ops_no rfl rfl (by simp only [Ev.get, reduceIte, Nat.reduceEqDiff, szStr, szInt, Option.getD_some, isNil, evStr, iv, rowsFl_len, rowsS_len, rwLen, loadStr, feFlRule, feFlItem, feFlPart, leFlRule, leFlItem, leFlPart]; first | done | rfl) (by decide) rfl (by decide) ?_
            | refine ops_off rfl rfl rfl rfl (by decide) ?_
            | (refine ops_nil ?_; intro e2 h2; simp only [restr, kpCheckLinesLaw, List.map_cons, List.map_nil, Ev.get, reduceIte, Nat.reduceEqDiff] at h2; subst h2))
          refine runs_cond rfl (fun hc => ?_) (fun hc => ?_)
          · have hi1 : i < l.length := by have := of_decide_eq_true hc; omega
            have g1 := atFl (g := g) (kk := .i64) hi1
            have g2 := atStrs (g := .no) (kk := .i64) (l := l.map lineB) (i := i) (by rw [List.length_map]; exact hi1)
            rw [map_at hi1] at g2
            have hok := hb.2.at i
            have r6 := next_i64 (i := i) (by omega)
            generalize l.getD i fl0 = f at g1 g2 hok
            repeat (first
              | refine runs_seq ?_ | refine runs_block ?_ | refine next_normal ?_ | refine inside_normal ?_ | refine next_exit ?_ | refine inside_exit ?_ | refine inside_other (by decide) ?_ | refine next_ret ?_ | refine inside_ret ?_
              | refine runs_ops_kept ?_ | refine runs_skip ?_ | refine runs_exit ?_ | refine runs_ret ?_
              | ((first | refine' ops_op rfl rfl (by decide) ?_ ?_ ?_ | refine' ops_yes rfl rfl (by simp only [Ev.get, reduceIte, Nat.reduceEqDiff, szStr, szInt, Option.getD_some, isNil, evStr, iv, rowsFl_len, rowsS_len, rwLen, loadStr, feFlRule, feFlItem, feFlPart, leFlRule, leFlItem, leFlPart]; first | done | rfl) rfl (by decide) ?_ ?_ ?_ | refine' ops_op0 rfl rfl ?_ ?_ ?_); rotate_left 2; (focus (simp only [evOp, opd, constAV, constCell, Ev.get, reduceIte, Nat.reduceEqDiff, reduceCtorEq, evBinN, nilCmp, evBin, evInt, evUn, evConvert, evBuiltin, evLen, evField, evPart, tStr, tInt, tElem, tArr, tBool, tAgg, tField, Try.underlying9, Try.underlying3, Try.underlying4, Try.underlying5, Try.underlying21, Try.underlying121, Try.underlying38, Try.underlying25, Try.underlying135, Try.underlying33, Try.underlying2, Try.underlying147, Try.underlying22, Try.underlying56, Try.underlying54, List.zipWith, Option.map_some, Option.map_none, List.length_cons, List.length_nil, ne_eq, Int.reduceEq, not_false_eq_true, and_self, and_true, true_and, szStr, szInt, Option.getD_some, isNil, evStr, iv, rowsFl_len, rowsS_len, rwLen, loadStr, feFlRule, feFlItem, feFlPart, leFlRule, leFlItem, leFlPart, evCall, List.size_toArray, List.append_nil, List.nil_append, List.map_cons, List.map_nil, argAV, argCell, List.toList_toArray, fieldTy]; first | done | rfl)); exact (fun h => by first | rfl | (simp at h; done) | exact absurd (Bool.and_eq_true_iff.mp h).2 (by decide)))
              | refine ops_no rfl rfl (by simp only [Ev.get, reduceIte, Nat.reduceEqDiff, szStr, szInt, Option.getD_some, isNil, evStr, iv, rowsFl_len, rowsS_len, rwLen, loadStr, feFlRule, feFlItem, feFlPart, leFlRule, leFlItem, leFlPart]; first | done | rfl) (by decide) rfl (by decide) ?_
              | refine ops_off rfl rfl rfl rfl (by decide) ?_
              | (refine ops_nil ?_; intro e2 h2; simp only [restr, kpCheckLinesLaw, List.map_cons, List.map_nil, Ev.get, reduceIte, Nat.reduceEqDiff] at h2; subst h2))
            refine ops_rcut [(0, .lst g 3 (rowsFl l)), (5, .lst .no 1 (rowsS rwords)), (7, .lst .no 1 (rowsS (l.map lineB))), (8, .v (.int .i64 (i : Int))), (9, .v (.string ⟨#[63]⟩)), (59, .v (.bool (decide (1 ≤ f.rule ∧ f.rule ≤ 19))))] m ?_ ?_
            · repeat' (first
                | (first | refine runs_seq ?_ | refine runs_block ?_ | refine next_normal ?_ | refine inside_normal ?_ | refine next_exit ?_ | refine inside_exit ?_ | refine inside_other (by decide) ?_ | refine next_ret ?_ | refine inside_ret ?_ | refine runs_ops_kept ?_ | refine runs_skip ?_ | refine runs_exit ?_ | refine runs_ret ?_ | ((first | refine' ops_op rfl rfl (by decide) ?_ ?_ ?_ | refine' ops_yes rfl rfl (by simp only [Ev.get, reduceIte, Nat.reduceEqDiff, szStr, szInt, Option.getD_some, isNil, evStr, iv, rowsFl_len, rowsS_len, rwLen, loadStr, feFlRule, feFlItem, feFlPart, leFlRule, leFlItem, leFlPart, g1]; first | done | rfl) rfl (by decide) ?_ ?_ ?_ | refine' ops_op0 rfl rfl ?_ ?_ ?_); rotate_left 2; (focus (simp only [evOp, opd, constAV, constCell, Ev.get, reduceIte, Nat.reduceEqDiff, reduceCtorEq, evBinN, nilCmp, evBin, evInt, evUn, evConvert, evBuiltin, evLen, evField, evPart, tStr, tInt, tElem, tArr, tBool, tAgg, tField, Try.underlying9, Try.underlying3, Try.underlying4, Try.underlying5, Try.underlying21, Try.underlying121, Try.underlying38, Try.underlying25, Try.underlying135, Try.underlying33, Try.underlying2, Try.underlying147, Try.underlying22, Try.underlying56, Try.underlying54, List.zipWith, Option.map_some, Option.map_none, List.length_cons, List.length_nil, ne_eq, Int.reduceEq, not_false_eq_true, and_self, and_true, true_and, szStr, szInt, Option.getD_some, isNil, evStr, iv, rowsFl_len, rowsS_len, rwLen, loadStr, feFlRule, feFlItem, feFlPart, leFlRule, leFlItem, leFlPart, evCall, List.size_toArray, List.append_nil, List.nil_append, List.map_cons, List.map_nil, argAV, argCell, List.toList_toArray, fieldTy, g1]; first | done | rfl)); exact (fun h => by first | rfl | (simp at h; done) | exact absurd (Bool.and_eq_true_iff.mp h).2 (by decide))) | refine ops_no rfl rfl (by simp only [Ev.get, reduceIte, Nat.reduceEqDiff, szStr, szInt, Option.getD_some, isNil, evStr, iv, rowsFl_len, rowsS_len, rwLen, loadStr, feFlRule, feFlItem, feFlPart, leFlRule, leFlItem, leFlPart, g1]; first | done | rfl) (by decide) rfl (by decide) ?_ | refine ops_off rfl rfl rfl rfl (by decide) ?_ | (refine ops_nil ?_; intro e2 h2; simp only [restr, kpCheckLinesLaw, List.map_cons, List.map_nil, Ev.get, reduceIte, Nat.reduceEqDiff] at h2; subst h2))
                | (refine ops_here ?_; (fail_if_success (refine ops_case (B := true) rfl rfl rfl ?_ ?_)); (fail_if_success (refine ops_case (B := false) rfl rfl rfl ?_ ?_)); refine ops_case rfl rfl rfl (fun hB => ?_) (fun hB => ?_) <;> rw [hB])
                | (refine runs_here ?_; refine runs_cond rfl (fun hc => ?_) (fun hc => ?_) <;> first | (cases hc; done) | skip))
              all_goals refine ⟨?_, rfl⟩
              all_goals first | (simp_all; done) | (simp_all; omega)
            refine next_normal ?_
            refine runs_rcut [(0, .lst g 3 (rowsFl l)), (5, .lst .no 1 (rowsS rwords)), (7, .lst .no 1 (rowsS (l.map lineB))), (8, .v (.int .i64 (i : Int))), (9, .v (.string (wq f.rule))), (59, .v (.bool (decide (1 ≤ f.rule ∧ f.rule ≤ 19))))] m ?_ ?_
            · refine runs_cond rfl (fun hc => ?_) (fun hc => ?_)
              · have hr := of_decide_eq_true hc
                obtain ⟨j, hj⟩ := Int.eq_ofNat_of_zero_le (by omega : 0 ≤ f.rule)
                have f7 := atStrs (g := .no) (kk := .i64) (l := rwords) (i := j) (show j < 20 by omega)
                rw [← wq_in (by omega), ← hj] at f7
                repeat (first
                  | refine runs_seq ?_ | refine runs_block ?_ | refine next_normal ?_ | refine inside_normal ?_ | refine next_exit ?_ | refine inside_exit ?_ | refine inside_other (by decide) ?_ | refine next_ret ?_ | refine inside_ret ?_
                  | refine runs_ops_kept ?_ | refine runs_skip ?_ | refine runs_exit ?_ | refine runs_ret ?_
                  | ((first | refine' ops_op rfl rfl (by decide) ?_ ?_ ?_ | refine' ops_yes rfl rfl (by simp only [Ev.get, reduceIte, Nat.reduceEqDiff, szStr, szInt, Option.getD_some, isNil, evStr, iv, rowsFl_len, rowsS_len, rwLen, loadStr, feFlRule, feFlItem, feFlPart, leFlRule, leFlItem, leFlPart, g1, f7]; first | done | rfl) rfl (by decide) ?_ ?_ ?_ | refine' ops_op0 rfl rfl ?_ ?_ ?_); rotate_left 2; (focus (simp only [evOp, opd, constAV, constCell, Ev.get, reduceIte, Nat.reduceEqDiff, reduceCtorEq, evBinN, nilCmp, evBin, evInt, evUn, evConvert, evBuiltin, evLen, evField, evPart, tStr, tInt, tElem, tArr, tBool, tAgg, tField, Try.underlying9, Try.underlying3, Try.underlying4, Try.underlying5, Try.underlying21, Try.underlying121, Try.underlying38, Try.underlying25, Try.underlying135, Try.underlying33, Try.underlying2, Try.underlying147, Try.underlying22, Try.underlying56, Try.underlying54, List.zipWith, Option.map_some, Option.map_none, List.length_cons, List.length_nil, ne_eq, Int.reduceEq, not_false_eq_true, and_self, and_true, true_and, szStr, szInt, Option.getD_some, isNil, evStr, iv, rowsFl_len, rowsS_len, rwLen, loadStr, feFlRule, feFlItem, feFlPart, leFlRule, leFlItem, leFlPart, evCall, List.size_toArray, List.append_nil, List.nil_append, List.map_cons, List.map_nil, argAV, argCell, List.toList_toArray, fieldTy, g1, f7]; first | done | rfl)); exact (fun h => by first | rfl | (simp at h; done) | exact absurd (Bool.and_eq_true_iff.mp h).2 (by decide)))
                  | refine ops_no rfl rfl (by simp only [Ev.get, reduceIte, Nat.reduceEqDiff, szStr, szInt, Option.getD_some, isNil, evStr, iv, rowsFl_len, rowsS_len, rwLen, loadStr, feFlRule, feFlItem, feFlPart, leFlRule, leFlItem, leFlPart, g1, f7]; first | done | rfl) (by decide) rfl (by decide) ?_
                  | refine ops_off rfl rfl rfl rfl (by decide) ?_
                  | (refine ops_nil ?_; intro e2 h2; simp only [restr, kpCheckLinesLaw, List.map_cons, List.map_nil, Ev.get, reduceIte, Nat.reduceEqDiff] at h2; subst h2))
                exact ⟨rfl, rfl, rfl⟩
              · have hr := of_decide_eq_false hc
                rw [wq_out hr]
                repeat (first
                  | refine runs_seq ?_ | refine runs_block ?_ | refine next_normal ?_ | refine inside_normal ?_ | refine next_exit ?_ | refine inside_exit ?_ | refine inside_other (by decide) ?_ | refine next_ret ?_ | refine inside_ret ?_
                  | refine runs_ops_kept ?_ | refine runs_skip ?_ | refine runs_exit ?_ | refine runs_ret ?_
                  | ((first | refine' ops_op rfl rfl (by decide) ?_ ?_ ?_ | refine' ops_yes rfl rfl (by simp only [Ev.get, reduceIte, Nat.reduceEqDiff, szStr, szInt, Option.getD_some, isNil, evStr, iv, rowsFl_len, rowsS_len, rwLen, loadStr, feFlRule, feFlItem, feFlPart, leFlRule, leFlItem, leFlPart]; first | done | rfl) rfl (by decide) ?_ ?_ ?_ | refine' ops_op0 rfl rfl ?_ ?_ ?_); rotate_left 2; (focus (simp only [evOp, opd, constAV, constCell, Ev.get, reduceIte, Nat.reduceEqDiff, reduceCtorEq, evBinN, nilCmp, evBin, evInt, evUn, evConvert, evBuiltin, evLen, evField, evPart, tStr, tInt, tElem, tArr, tBool, tAgg, tField, Try.underlying9, Try.underlying3, Try.underlying4, Try.underlying5, Try.underlying21, Try.underlying121, Try.underlying38, Try.underlying25, Try.underlying135, Try.underlying33, Try.underlying2, Try.underlying147, Try.underlying22, Try.underlying56, Try.underlying54, List.zipWith, Option.map_some, Option.map_none, List.length_cons, List.length_nil, ne_eq, Int.reduceEq, not_false_eq_true, and_self, and_true, true_and, szStr, szInt, Option.getD_some, isNil, evStr, iv, rowsFl_len, rowsS_len, rwLen, loadStr, feFlRule, feFlItem, feFlPart, leFlRule, leFlItem, leFlPart, evCall, List.size_toArray, List.append_nil, List.nil_append, List.map_cons, List.map_nil, argAV, argCell, List.toList_toArray, fieldTy]; first | done | rfl)); exact (fun h => by first | rfl | (simp at h; done) | exact absurd (Bool.and_eq_true_iff.mp h).2 (by decide)))
                  | refine ops_no rfl rfl (by simp only [Ev.get, reduceIte, Nat.reduceEqDiff, szStr, szInt, Option.getD_some, isNil, evStr, iv, rowsFl_len, rowsS_len, rwLen, loadStr, feFlRule, feFlItem, feFlPart, leFlRule, leFlItem, leFlPart]; first | done | rfl) (by decide) rfl (by decide) ?_
                  | refine ops_off rfl rfl rfl rfl (by decide) ?_
                  | (refine ops_nil ?_; intro e2 h2; simp only [restr, kpCheckLinesLaw, List.map_cons, List.map_nil, Ev.get, reduceIte, Nat.reduceEqDiff] at h2; subst h2))
                exact ⟨rfl, rfl, rfl⟩
            refine next_normal ?_
            have c2 := fun mm => tellG_eq (m := mm) hok.2.1
            have c3 := fun mm => tellG_eq (m := mm) hok.2.2
            have z1 := wq_size f.rule
            have z2 := tellL_len f.item
            have z3 := tellL_len f.part
            have one : ByteArray.size ⟨#[32]⟩ = 1 := rfl
            have s1 : (wq f.rule).size + ByteArray.size ⟨#[32]⟩ ≤ 9223372036854775807 := by omega
            have s2 : (wq f.rule ++ ⟨#[32]⟩).size + (txt (tellL f.item)).size ≤ 9223372036854775807 := by simp only [size_app, txt_size]; omega
            have s3 : (wq f.rule ++ ⟨#[32]⟩ ++ txt (tellL f.item)).size + ByteArray.size ⟨#[32]⟩ ≤ 9223372036854775807 := by simp only [size_app, txt_size]; omega
            have s4 : (wq f.rule ++ ⟨#[32]⟩ ++ txt (tellL f.item) ++ ⟨#[32]⟩).size + (txt (tellL f.part)).size ≤ 9223372036854775807 := by simp only [size_app, txt_size]; omega
            have hL := line_wq f
            have hq : (lineB f != lineB f) = false := by unfold bne; rw [bytes_self]; rfl
            refine runs_seq ?_
            refine runs_ops_drawn_kept (by kernel_rfl) ?_
            repeat (first
              | refine runs_seq ?_ | refine runs_block ?_ | refine next_normal ?_ | refine inside_normal ?_ | refine next_exit ?_ | refine inside_exit ?_ | refine inside_other (by decide) ?_ | refine next_ret ?_ | refine inside_ret ?_
              | refine runs_ops_kept ?_ | refine runs_skip ?_ | refine runs_exit ?_ | refine runs_ret ?_
              | ((first | refine' ops_op rfl rfl (by decide) ?_ ?_ ?_ | refine' ops_yes rfl rfl (by simp only [Ev.get, reduceIte, Nat.reduceEqDiff, szStr, szInt, Option.getD_some, isNil, evStr, iv, rowsFl_len, rowsS_len, rwLen, loadStr, feFlRule, feFlItem, feFlPart, leFlRule, leFlItem, leFlPart, g1, g2, t5, c2, c3, s1, s2, s3, s4, hL, hq]; first | done | rfl) rfl (by decide) ?_ ?_ ?_ | refine' ops_op0 rfl rfl ?_ ?_ ?_); rotate_left 2; (focus (simp only [evOp, opd, constAV, constCell, Ev.get, reduceIte, Nat.reduceEqDiff, reduceCtorEq, evBinN, nilCmp, evBin, evInt, evUn, evConvert, evBuiltin, evLen, evField, evPart, tStr, tInt, tElem, tArr, tBool, tAgg, tField, Try.underlying9, Try.underlying3, Try.underlying4, Try.underlying5, Try.underlying21, Try.underlying121, Try.underlying38, Try.underlying25, Try.underlying135, Try.underlying33, Try.underlying2, Try.underlying147, Try.underlying22, Try.underlying56, Try.underlying54, List.zipWith, Option.map_some, Option.map_none, List.length_cons, List.length_nil, ne_eq, Int.reduceEq, not_false_eq_true, and_self, and_true, true_and, szStr, szInt, Option.getD_some, isNil, evStr, iv, rowsFl_len, rowsS_len, rwLen, loadStr, feFlRule, feFlItem, feFlPart, leFlRule, leFlItem, leFlPart, evCall, List.size_toArray, List.append_nil, List.nil_append, List.map_cons, List.map_nil, argAV, argCell, List.toList_toArray, fieldTy, g1, g2, t5, c2, c3, s1, s2, s3, s4, hL, hq]; first | done | rfl)); exact (fun h => by first | rfl | (simp at h; done) | exact absurd (Bool.and_eq_true_iff.mp h).2 (by decide)))
              | refine ops_no rfl rfl (by simp only [Ev.get, reduceIte, Nat.reduceEqDiff, szStr, szInt, Option.getD_some, isNil, evStr, iv, rowsFl_len, rowsS_len, rwLen, loadStr, feFlRule, feFlItem, feFlPart, leFlRule, leFlItem, leFlPart, g1, g2, t5, c2, c3, s1, s2, s3, s4, hL, hq]; first | done | rfl) (by decide) rfl (by decide) ?_
              | refine ops_off rfl rfl rfl rfl (by decide) ?_
              | (refine ops_nil ?_; intro e2 h2; simp only [restr, kpCheckLinesLaw, List.map_cons, List.map_nil, Ev.get, reduceIte, Nat.reduceEqDiff] at h2; subst h2))
            refine runs_cond rfl (fun hc => by cases hc) (fun hc => ?_)
            repeat (first
              | refine runs_seq ?_ | refine runs_block ?_ | refine next_normal ?_ | refine inside_normal ?_ | refine next_exit ?_ | refine inside_exit ?_ | refine inside_other (by decide) ?_ | refine next_ret ?_ | refine inside_ret ?_
              | refine runs_ops_kept ?_ | refine runs_skip ?_ | refine runs_exit ?_ | refine runs_ret ?_
              | ((first | refine' ops_op rfl rfl (by decide) ?_ ?_ ?_ | refine' ops_yes rfl rfl (by simp only [Ev.get, reduceIte, Nat.reduceEqDiff, szStr, szInt, Option.getD_some, isNil, evStr, iv, rowsFl_len, rowsS_len, rwLen, loadStr, feFlRule, feFlItem, feFlPart, leFlRule, leFlItem, leFlPart, r6]; first | done | rfl) rfl (by decide) ?_ ?_ ?_ | refine' ops_op0 rfl rfl ?_ ?_ ?_); rotate_left 2; (focus (simp only [evOp, opd, constAV, constCell, Ev.get, reduceIte, Nat.reduceEqDiff, reduceCtorEq, evBinN, nilCmp, evBin, evInt, evUn, evConvert, evBuiltin, evLen, evField, evPart, tStr, tInt, tElem, tArr, tBool, tAgg, tField, Try.underlying9, Try.underlying3, Try.underlying4, Try.underlying5, Try.underlying21, Try.underlying121, Try.underlying38, Try.underlying25, Try.underlying135, Try.underlying33, Try.underlying2, Try.underlying147, Try.underlying22, Try.underlying56, Try.underlying54, List.zipWith, Option.map_some, Option.map_none, List.length_cons, List.length_nil, ne_eq, Int.reduceEq, not_false_eq_true, and_self, and_true, true_and, szStr, szInt, Option.getD_some, isNil, evStr, iv, rowsFl_len, rowsS_len, rwLen, loadStr, feFlRule, feFlItem, feFlPart, leFlRule, leFlItem, leFlPart, evCall, List.size_toArray, List.append_nil, List.nil_append, List.map_cons, List.map_nil, argAV, argCell, List.toList_toArray, fieldTy, r6]; first | done | rfl)); exact (fun h => by first | rfl | (simp at h; done) | exact absurd (Bool.and_eq_true_iff.mp h).2 (by decide)))
              | refine ops_no rfl rfl (by simp only [Ev.get, reduceIte, Nat.reduceEqDiff, szStr, szInt, Option.getD_some, isNil, evStr, iv, rowsFl_len, rowsS_len, rwLen, loadStr, feFlRule, feFlItem, feFlPart, leFlRule, leFlItem, leFlPart, r6]; first | done | rfl) (by decide) rfl (by decide) ?_
              | refine ops_off rfl rfl rfl rfl (by decide) ?_
              | (refine ops_nil ?_; intro e2 h2; simp only [restr, kpCheckLinesLaw, List.map_cons, List.map_nil, Ev.get, reduceIte, Nat.reduceEqDiff] at h2; subst h2))
            exact ⟨l.length - (i + 1), by omega, i + 1, hi1, rfl, rfl, rfl⟩
          · repeat (first
              | refine runs_seq ?_ | refine runs_block ?_ | refine next_normal ?_ | refine inside_normal ?_ | refine next_exit ?_ | refine inside_exit ?_ | refine inside_other (by decide) ?_ | refine next_ret ?_ | refine inside_ret ?_
              | refine runs_ops_kept ?_ | refine runs_skip ?_ | refine runs_exit ?_ | refine runs_ret ?_
              | ((first | refine' ops_op rfl rfl (by decide) ?_ ?_ ?_ | refine' ops_yes rfl rfl (by simp only [Ev.get, reduceIte, Nat.reduceEqDiff, szStr, szInt, Option.getD_some, isNil, evStr, iv, rowsFl_len, rowsS_len, rwLen, loadStr, feFlRule, feFlItem, feFlPart, leFlRule, leFlItem, leFlPart, t1, yes_eq]; first | done | rfl) rfl (by decide) ?_ ?_ ?_ | refine' ops_op0 rfl rfl ?_ ?_ ?_); rotate_left 2; (focus (simp only [evOp, opd, constAV, constCell, Ev.get, reduceIte, Nat.reduceEqDiff, reduceCtorEq, evBinN, nilCmp, evBin, evInt, evUn, evConvert, evBuiltin, evLen, evField, evPart, tStr, tInt, tElem, tArr, tBool, tAgg, tField, Try.underlying9, Try.underlying3, Try.underlying4, Try.underlying5, Try.underlying21, Try.underlying121, Try.underlying38, Try.underlying25, Try.underlying135, Try.underlying33, Try.underlying2, Try.underlying147, Try.underlying22, Try.underlying56, Try.underlying54, List.zipWith, Option.map_some, Option.map_none, List.length_cons, List.length_nil, ne_eq, Int.reduceEq, not_false_eq_true, and_self, and_true, true_and, szStr, szInt, Option.getD_some, isNil, evStr, iv, rowsFl_len, rowsS_len, rwLen, loadStr, feFlRule, feFlItem, feFlPart, leFlRule, leFlItem, leFlPart, evCall, List.size_toArray, List.append_nil, List.nil_append, List.map_cons, List.map_nil, argAV, argCell, List.toList_toArray, fieldTy, t1, yes_eq]; first | done | rfl)); exact (fun h => by first | rfl | (simp at h; done) | exact absurd (Bool.and_eq_true_iff.mp h).2 (by decide)))
              | refine ops_no rfl rfl (by simp only [Ev.get, reduceIte, Nat.reduceEqDiff, szStr, szInt, Option.getD_some, isNil, evStr, iv, rowsFl_len, rowsS_len, rwLen, loadStr, feFlRule, feFlItem, feFlPart, leFlRule, leFlItem, leFlPart, t1, yes_eq]; first | done | rfl) (by decide) rfl (by decide) ?_
              | refine ops_off rfl rfl rfl rfl (by decide) ?_
              | (refine ops_nil ?_; intro e2 h2; simp only [restr, kpCheckLinesLaw, List.map_cons, List.map_nil, Ev.get, reduceIte, Nat.reduceEqDiff] at h2; subst h2))
            exact leaves_v rfl rfl
        · have b0 : decide ((l.length : Int) > 60) = true := decide_eq_true (by omega)
          repeat (first
            | refine runs_seq ?_ | refine runs_block ?_ | refine next_normal ?_ | refine inside_normal ?_ | refine next_exit ?_ | refine inside_exit ?_ | refine inside_other (by decide) ?_ | refine next_ret ?_ | refine inside_ret ?_
            | refine runs_ops_kept ?_ | refine runs_skip ?_ | refine runs_exit ?_ | refine runs_ret ?_
            | ((first | refine' ops_op rfl rfl (by decide) ?_ ?_ ?_ | refine' ops_yes rfl rfl (by simp only [Ev.get, reduceIte, Nat.reduceEqDiff, szStr, szInt, Option.getD_some, isNil, evStr, iv, rowsFl_len, rowsS_len, rwLen, loadStr, feFlRule, feFlItem, feFlPart, leFlRule, leFlItem, leFlPart, b0]; first | done | rfl) rfl (by decide) ?_ ?_ ?_ | refine' ops_op0 rfl rfl ?_ ?_ ?_); rotate_left 2; (focus (simp only [evOp, opd, constAV, constCell, Ev.get, reduceIte, Nat.reduceEqDiff, reduceCtorEq, evBinN, nilCmp, evBin, evInt, evUn, evConvert, evBuiltin, evLen, evField, evPart, tStr, tInt, tElem, tArr, tBool, tAgg, tField, Try.underlying9, Try.underlying3, Try.underlying4, Try.underlying5, Try.underlying21, Try.underlying121, Try.underlying38, Try.underlying25, Try.underlying135, Try.underlying33, Try.underlying2, Try.underlying147, Try.underlying22, Try.underlying56, Try.underlying54, List.zipWith, Option.map_some, Option.map_none, List.length_cons, List.length_nil, ne_eq, Int.reduceEq, not_false_eq_true, and_self, and_true, true_and, szStr, szInt, Option.getD_some, isNil, evStr, iv, rowsFl_len, rowsS_len, rwLen, loadStr, feFlRule, feFlItem, feFlPart, leFlRule, leFlItem, leFlPart, evCall, List.size_toArray, List.append_nil, List.nil_append, List.map_cons, List.map_nil, argAV, argCell, List.toList_toArray, fieldTy, b0]; first | done | rfl)); exact (fun h => by first | rfl | (simp at h; done) | exact absurd (Bool.and_eq_true_iff.mp h).2 (by decide)))
            | refine ops_no rfl rfl (by simp only [Ev.get, reduceIte, Nat.reduceEqDiff, szStr, szInt, Option.getD_some, isNil, evStr, iv, rowsFl_len, rowsS_len, rwLen, loadStr, feFlRule, feFlItem, feFlPart, leFlRule, leFlItem, leFlPart, b0]; first | done | rfl) (by decide) rfl (by decide) ?_
            | refine ops_off rfl rfl rfl rfl (by decide) ?_
            | (refine ops_nil ?_; intro e2 h2; simp only [restr, kpCheckLinesLaw, List.map_cons, List.map_nil, Ev.get, reduceIte, Nat.reduceEqDiff] at h2; subst h2))
          refine runs_cond rfl (fun hc => ?_) (fun hc => by cases hc)
          repeat (first
            | refine runs_seq ?_ | refine runs_block ?_ | refine next_normal ?_ | refine inside_normal ?_ | refine next_exit ?_ | refine inside_exit ?_ | refine inside_other (by decide) ?_ | refine next_ret ?_ | refine inside_ret ?_
            | refine runs_ops_kept ?_ | refine runs_skip ?_ | refine runs_exit ?_ | refine runs_ret ?_
            | ((first | refine' ops_op rfl rfl (by decide) ?_ ?_ ?_ | refine' ops_yes rfl rfl (by simp only [Ev.get, reduceIte, Nat.reduceEqDiff, szStr, szInt, Option.getD_some, isNil, evStr, iv, rowsFl_len, rowsS_len, rwLen, loadStr, feFlRule, feFlItem, feFlPart, leFlRule, leFlItem, leFlPart, t1, yes_eq]; first | done | rfl) rfl (by decide) ?_ ?_ ?_ | refine' ops_op0 rfl rfl ?_ ?_ ?_); rotate_left 2; (focus (simp only [evOp, opd, constAV, constCell, Ev.get, reduceIte, Nat.reduceEqDiff, reduceCtorEq, evBinN, nilCmp, evBin, evInt, evUn, evConvert, evBuiltin, evLen, evField, evPart, tStr, tInt, tElem, tArr, tBool, tAgg, tField, Try.underlying9, Try.underlying3, Try.underlying4, Try.underlying5, Try.underlying21, Try.underlying121, Try.underlying38, Try.underlying25, Try.underlying135, Try.underlying33, Try.underlying2, Try.underlying147, Try.underlying22, Try.underlying56, Try.underlying54, List.zipWith, Option.map_some, Option.map_none, List.length_cons, List.length_nil, ne_eq, Int.reduceEq, not_false_eq_true, and_self, and_true, true_and, szStr, szInt, Option.getD_some, isNil, evStr, iv, rowsFl_len, rowsS_len, rwLen, loadStr, feFlRule, feFlItem, feFlPart, leFlRule, leFlItem, leFlPart, evCall, List.size_toArray, List.append_nil, List.nil_append, List.map_cons, List.map_nil, argAV, argCell, List.toList_toArray, fieldTy, t1, yes_eq]; first | done | rfl)); exact (fun h => by first | rfl | (simp at h; done) | exact absurd (Bool.and_eq_true_iff.mp h).2 (by decide)))
            | refine ops_no rfl rfl (by simp only [Ev.get, reduceIte, Nat.reduceEqDiff, szStr, szInt, Option.getD_some, isNil, evStr, iv, rowsFl_len, rowsS_len, rwLen, loadStr, feFlRule, feFlItem, feFlPart, leFlRule, leFlItem, leFlPart, t1, yes_eq]; first | done | rfl) (by decide) rfl (by decide) ?_
            | refine ops_off rfl rfl rfl rfl (by decide) ?_
            | (refine ops_nil ?_; intro e2 h2; simp only [restr, kpCheckLinesLaw, List.map_cons, List.map_nil, Ev.get, reduceIte, Nat.reduceEqDiff] at h2; subst h2))
          exact leaves_v rfl rfl
      · cases h
    · cases h
  · cases h
end Go.Proofs.Ytojaokhkbmiidaa.Ev

namespace Go.Proofs.Ytojaokhkbmiidaa.checkLines
open Go Go.Proofs Go.ChangeShapes Go.WideShapes Go.ChangeAt Go.RowKit
set_option linter.unusedVariables false
theorem own : ownKnob Try.prog.godebug = none := by kernel_rfl
theorem laid : laidOutB Try.prog = true := by kernel_rfl
theorem same_left {H : Type} : ∀ ds : List (DataW H), ds.length = 2 → Rows.checkLinesSpec.fn H ds = { results := [.lit (.bool true)], args := ds }
  | [d0, d1], _ => rfl
set_option maxRecDepth 100000 in
theorem holds_at : ∀ vs, Ev.TypedAll Try.prog 6 [37, 3] vs → ∃ m', Ev.checkLinesLawG vs ⟨[], []⟩ = some (.v (.bool true), m') := by
  rintro (_ | ⟨a, _ | ⟨b, _ | ⟨x, r⟩⟩⟩) h
  · exact h.elim
  · exact h.2.elim
  · obtain ⟨h0, h1, _⟩ := h
    obtain ⟨l, ok, hl, rfl⟩ := Ev.arg_flaws h0
    obtain ⟨n, rfl, n0, n1⟩ := Ev.arg_int Try.underlying3 h1
    refine ⟨⟨[], []⟩, ?_⟩
    simp only [Ev.checkLinesLawG, Ev.unsFl_rowsFl]
    exact if_pos ⟨hl, ok⟩
  · exact h.2.2.elim
set_option maxRecDepth 100000 in
theorem lifted (os : Os) (started : os.Started) (H : Type) (enc : TypeId × Value → H) :
    ReturnsInHanded {} Try.checked os 6 .any (Rows.checkLinesSpec.pre6 enc Try.prog Try.f6 Rows.checkLinesRow.domain false) (Rows.checkLinesSpec.post enc Try.prog Try.f6 false true false false) :=
  Ev.law_lifted (C := Try.checked) own started (by kernel_rfl) Try.func6
    (ChangeSpec.witness6 (enc := enc) (C := Try.checked) false ⟨#[], #[.slice none 0 0, .int .i64 0], []⟩ 8 (by kernel_rfl) (by kernel_rfl) (by kernel_rfl) (by kernel_rfl))
    laid rfl [37, 3] Try.params6 6 (by kernel_rfl) (tb := 4) rfl Try.underlying4 same_left Ev.checkLinesLaw_ok holds_at
theorem over : Rows.checkLinesRow.holds Try.pinned (OpenSpec.ofChange Rows.checkLinesSpec) :=
  OpenClaim.holds_of_wide 6 Try.f6 rfl rfl rfl rfl rfl rfl rfl ⟨rfl, rfl, rfl, rfl, rfl⟩ rfl rfl rfl rfl rfl (by kernel_rfl) Try.func6 (by kernel_rfl)
    (of_decide_eq_true (by kernel_rfl)) (by unfold Func.isWrapper; first | (rw [if_pos (by decide +kernel)]; kernel_rfl) | (rw [if_neg (by decide +kernel)]; exact ⟨rfl, rfl⟩))
    (fun os started H enc _ => lifted os started H enc)
theorem proved : Rows.CheckLinesSaid := over
end Go.Proofs.Ytojaokhkbmiidaa.checkLines
namespace Go.Proofs.Ytojaokhkbmiidaa
/-- The row, under a short name, for the claim. -/
theorem checkLines_holds : Rows.CheckLinesSaid := checkLines.proved
end Go.Proofs.Ytojaokhkbmiidaa
