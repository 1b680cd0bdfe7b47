/- Averages: sums in which all count alike, averages in which older ones fade. -/
import Derived.Test.YtmockbddhhmmeaaGreatMbmkl8
import Derived.Test.YtmockbddhhmmeaaGreatMbmkl5
import Derived.Test.YtmockbddhhmmeaaGreatMa8
namespace Go.Proofs.YtmockbddhhmmeaaGreat.Ev
open Go Go.Proofs
set_option maxRecDepth 10000
set_option maxHeartbeats 8000000
set_option linter.unusedVariables false
set_option linter.unusedSimpArgs false
section
attribute [local irreducible] Next Inside Runs Ops table
attribute [local go_sem] szStr szInt Option.getD_some isNil evMinMax evFoldI iv mapSm cellsSm newSm zrSm zoSm znSm mk0Sm fpSmCount fpSmSums rowsI_len List.cons_append
def tokOk (m0 m : Mem) (g : Grow) : Prop := g = .full ∨ ∃ id v, g = .tok id v ∧ m0.toks.length ≤ id ∧ m.toks[id]? = some v
def AboveT (m0 m : Mem) : Prop := ∃ L T, m = { vars := m0.vars ++ L, toks := m0.toks ++ T }
theorem aboveT_of {m0 m : Mem} (h : Above m0 m) : AboveT m0 m := by
 obtain ⟨L, rfl⟩ := h
 exact ⟨L, [], by simp⟩
theorem aboveT_push {m0 m : Mem} {cs : List AV} (h : AboveT m0 m) : AboveT m0 (m.push cs) := by
 obtain ⟨L, T, rfl⟩ := h
 exact ⟨L ++ [some cs], T, by simp [Mem.push]⟩
theorem aboveT_setv {m0 m : Mem} {q : Nat} {cs : List AV} (h : AboveT m0 m) (hq : m0.vars.length ≤ q) : AboveT m0 (setv m q cs) := by
 obtain ⟨L, T, rfl⟩ := h
 refine ⟨L.set (q - m0.vars.length) (some cs), T, ?_⟩
 unfold setv Mem.putv
 simp only [List.set_append_right _ _ hq]
theorem aboveT_fin {m0 m : Mem} (h : AboveT m0 m) : finMem m0 m = m0 := by
 obtain ⟨L, T, rfl⟩ := h
 unfold finMem
 rw [if_pos (by simp)]
 simp
theorem tokOk_push {m0 m : Mem} {g : Grow} {cs : List AV} (h : tokOk m0 m g) : tokOk m0 (m.push cs) g := h
theorem tokOk_setv {m0 m : Mem} {g : Grow} {q : Nat} {cs : List AV} (h : tokOk m0 m g) : tokOk m0 (setv m q cs) g := h
theorem app_live1 {P : Program} {t t2 : TypeId} {k : Nat} (ha : appB P t t2 k = true) {m0 m : Mem} {g g2 : Grow} {xs ys : List (List AV)} (hg : tokOk m0 m g) (hA : AboveT m0 m) (hl : xs.length + ys.length ≤ lim) :
  ∃ g' m2, evAppend P t t2 m (.lst g k xs) (.lst g2 k ys) = some (.lst g' k (xs ++ ys), m2) ∧ tokOk m0 m2 g' ∧ AboveT m0 m2 ∧ (∀ q, m2.var q = m.var q) ∧ m2.vars.length = m.vars.length := by
 obtain ⟨L, T, rfl⟩ := hA
 rcases hg with rfl | ⟨id, v, rfl, h1, h2⟩
 ·exact ⟨_, _, app_of ha asList_lst asList_lst hl, .inr ⟨_, 0, rfl, by simp, by simp⟩, ⟨L, T ++ [0], by simp⟩, fun q => rfl, rfl⟩
 ·have happ := app_of (m := { vars := m0.vars ++ L, toks := m0.toks ++ T }) ha (asList_lst (g := .tok id v) (k := k) (rows := xs)) (asList_lst (g := g2) (k := k) (rows := ys)) hl
  dsimp only at happ
  rw [if_pos h2] at happ
  have hlt := (List.getElem?_eq_some_iff.1 h2).1
  exact ⟨_, _, happ, .inr ⟨id, v + 1, rfl, h1, by rw [List.getElem?_set_self hlt]⟩, ⟨L, T.set (id - m0.toks.length) (v + 1), by rw [List.set_append_right _ _ h1]⟩, fun q => rfl, rfl⟩
def iC (b : List Int) : List AV := b.map fun x => .v (.int .i64 x)
theorem iC_len (b : List Int) : (iC b).length = b.length := List.length_map ..
theorem vsAtI {r n i : Nat} {kk : IntKind} (hi : i < n) : evIndexAddr Tryz.prog 42 (.vs r 0 1 n n) (.v (.int kk (i : Int))) = some (.ptr r i) := by
 unfold evIndexAddr
 simp only [naInts, elInts, szInt]
 rw [if_pos ⟨trivial, by omega, by omega⟩, Int.toNat_natCast]
 simp
def setI (m : Mem) (r : Nat) (b : List Int) : Mem := { m with vars := m.vars.set r (some (iC b)) }
theorem splice_setI : ∀ (l : List Int) (i : Nat) (v : Int), i < l.length → splice (iC l) i [.v (.int .i64 v)] = iC (l.set i v)
 | [], i, v, h => by simp at h
 | a :: l, 0, v, _ => by simp [splice, iC]
 | a :: l, i + 1, v, h => by
  have := splice_setI l i v (by simpa using h)
  simp only [splice, iC, List.map_cons, List.length_cons, List.length_nil, List.take_succ_cons, List.set_cons_succ] at this ⊢
  rw [show i + 1 + (0 + 1) = (i + (0 + 1)) + 1 by omega, List.drop_succ_cons]
  simpa using this
theorem storeI {m : Mem} {r i : Nat} {b : List Int} {v : Int} (hv : m.var r = some (iC b)) (hi : i < b.length) : evStore Tryz.prog m 3 (.ptr r i) (.v (.int .i64 v)) = some (setI m r (b.set i v)) := by
 unfold evStore
 have h1 : cellsOf (.v (.int .i64 v)) = some [.v (.int .i64 v)] := by simp [cellsOf, flat, okCell, one]
 simp only [h1, szInt, hv]
 rw [if_pos ⟨rfl, by rw [iC_len]; exact hi, rfl⟩, splice_setI b i v hi]
 rfl
theorem makeInts {n : Nat} (h : n ≤ 4294967296) : evMakeSlice Tryz.prog 42 (.v (.int .i64 (n : Int))) (.v (.int .i64 (n : Int))) = some (iC (List.replicate n (0 : Int)), 1, n) := by
 have hb : tBytes Tryz.prog 3 = some 8 := by kernel_rfl
 have hz : zeroCells Tryz.prog 3 = some [.v (.int .i64 0)] := by kernel_rfl
 unfold evMakeSlice
 simp only [elInts, szInt, hb, hz]
 rw [if_pos ⟨rfl, trivial, by omega, by omega, by omega⟩, Int.toNat_natCast]
 simp [iC]
theorem newInts {m : Mem} {l : List Int} : newVar m m.vars.length (iC l) = some (m.push (iC l)) := newVar_push (by
 rw [List.all_eq_true]
 intro c hc
 obtain ⟨n, _, rfl⟩ := List.mem_map.1 hc
 rfl)
theorem cells_iC : ∀ b : List Int, (iC b).mapM rowCell = some (iC b)
 | [] => rfl
 | x :: b => by
  have := cells_iC b
  unfold iC at this ⊢
  rw [List.map_cons, List.mapM_cons]
  simp only [show rowCell (AV.v (Value.int .i64 x)) = some (AV.v (Value.int .i64 x)) from rfl, this, Option.pure_def, Option.bind_eq_bind, Option.bind_some]
theorem setI_push {m : Mem} {b c : List Int} : setI (m.push (iC b)) m.vars.length c = m.push (iC c) := by
 unfold setI Mem.push
 simp
/-! ### swa.Add -/
def addTo (s w : List Int) : Nat → Option (List Int)
 | 0 => some []
 | i + 1 => (addTo s w i).bind fun L => if (addV (s.getD i 0) (w.getD i 0)).2 = 0 then some (L ++ [(addV (s.getD i 0) (w.getD i 0)).1]) else none
theorem addTo_len {s w : List Int} : ∀ {i : Nat} {L : List Int}, addTo s w i = some L → L.length = i
 | 0, L, h => by cases h; rfl
 | i + 1, L, h => by
  rw [addTo, Option.bind_eq_some_iff] at h
  obtain ⟨L0, h1, h2⟩ := h
  split at h2
  ·cases h2
   rw [List.length_append, addTo_len h1]
   rfl
  ·cases h2
theorem addTo_none {s w : List Int} {i n : Nat} (h : addTo s w i = none) (hn : i ≤ n) : addTo s w n = none := by
 induction n with
 | zero =>
  have : i = 0 := by omega
  subst this
  exact h
 | succ n ih =>
  by_cases he : i = n + 1
  ·subst he; exact h
  ·rw [addTo, ih (by omega)]
   rfl
theorem addV_err (a b : Int) : (addV a b).2 = 0 ∨ (addV a b).2 = 4 := by unfold addV; split <;> simp
def swaV (s : Sm) (w : List Int) : Sm × Int :=
 if swaChk s ≠ 0 then (sm0, swaChk s) else if s.count = 1048576 then (sm0, 9) else if s.count = 0 then (⟨1, w⟩, 0) else if (s.sums.length : Int) ≠ (w.length : Int) then (sm0, 1) else
 match addTo s.sums w w.length with
 | some L => (⟨IntKind.i64.wrap (s.count + 1), L⟩, 0)
 | none => (sm0, 4)
def swaG : List AV → Mem → Option (AV × Mem)
 | [.agg ss, .lst _ 1 rows], m =>
  match unSm ss, unJ rows with
  | some s, some w => if s.sums.length ≤ 1000000 ∧ w.length ≤ 1000000 then some (.tup [.agg (swaV s w).1.row, .v (.int .i64 (swaV s w).2)], m) else none
  | _, _ => none
 | _, _ => none
theorem swa_eq {s : Sm} {w : List Int} {g : Grow} (h : s.sums.length ≤ 1000000 ∧ w.length ≤ 1000000) (m : Mem) : swaG [.agg s.row, .lst g 1 (rowsI w)] m = some (.tup [.agg (swaV s w).1.row, .v (.int .i64 (swaV s w).2)], m) := by
 simp only [swaG, unSm_row, unJ_rowsI]
 exact if_pos h
def smG (c : Int) (g : Grow) (l : List Int) : List AV := [.v (.int .i64 c), .lst g 1 (rowsI l)]
theorem mkSmC {c : Int} : evBuild Tryz.prog 44 [(0, .v (.int .i64 c))] = some (.agg (smG c .full [])) := by kernel_rfl
theorem mkSmL {c : Int} {g : Grow} {l : List Int} : evBuild Tryz.prog 44 [(0, .v (.int .i64 c)), (1, .lst g 1 (rowsI l))] = some (.agg (smG c g l)) := by kernel_rfl
theorem cellsSmG {c : Int} {g : Grow} {l : List Int} : cellsOf (.agg (smG c g l)) = some (smG c g l) := rfl
theorem zSm : cellsOf (.agg zeroSm) = some zeroSm := rfl
attribute [local go_sem] zSm
theorem vrSmG {m : Mem} {r : Nat} {c : Int} {g : Grow} {l : List Int} (hv : m.var r = some (smG c g l)) : evLoad Tryz.prog m 44 (.ptr r 0) = some (.agg (smG c g l)) := load_sub (off := 0) hv szSm agSm (Nat.le_of_ble_eq_true rfl) rfl
theorem lpSmG {m : Mem} {r : Nat} {c : Int} {g : Grow} {l : List Int} (hv : m.var r = some (smG c g l)) : evLoad Tryz.prog m 42 (.ptr r 1) = some (.lst g 1 (rowsI l)) := load_cell (k := 1) hv (by kernel_rfl) (by kernel_rfl) rfl
theorem mk1I {n : Int} : evBuildSlice Tryz.prog 42 1 [(0, .v (.int .i64 n))] = some (.lst .full 1 [[.v (.int .i64 n)]]) := by kernel_rfl
attribute [local go_sem] mk1I
theorem szInts : tSize Tryz.prog 42 = some 1 := by kernel_rfl
def kpSwaAdd : Nat → Option (List Nat) := fun
 | 0 => some [1, 2, 4]
 | 1 => some [1, 2, 4, 6]
 | 2 => some [1, 2, 4, 6, 14]
 | 3 => some [4, 5]
 | 4 => some [1, 2, 4, 19]
 | 5 => some [4, 5]
 | 6 => some [1, 2, 4, 24]
 | 7 => some [4, 5]
 | 8 => some [1, 2, 4, 31]
 | 9 => some [4, 5]
 | 10 => some [1, 2, 4, 7]
 | 11 => some [2, 4, 7, 43, 44, 45]
 | 12 => some [2, 4, 7, 43, 44, 45, 46]
 | 13 => some [2, 4, 7, 8, 9, 43, 44, 45]
 | 14 => some [2, 4, 7, 10, 11, 43, 44, 45]
 | 15 => some [2, 4, 7, 10, 11, 43, 44, 45, 61]
 | 16 => some [4, 5]
 | 17 => some [2, 4, 7, 43, 44, 45]
 | 18 => some [2, 4, 7, 43, 44, 45]
 | 19 => some [4, 5]
 | _ => none
attribute [go_sem] kpSwaAdd
def tab_swa_ok : List (FuncId × (List AV → Mem → Option (AV × Mem))) := [(133, swaChkG), (134, (clone0G 1)), (135, addG)]
theorem swa_ok : FunOk Tryz.prog 117 swaG := by
 have hC := table_ok (P := Tryz.prog) (l := tab_swa_ok) (table_more swaChk_ok (table_more cloneI_ok (table_more add_ok table_nil)))
 have t1 := fun args mm => table_at (l := tab_swa_ok) (f := 133) (args := args) (m := mm) rfl
 have t2 := fun args mm => table_at (l := tab_swa_ok) (f := 134) (args := args) (m := mm) rfl
 have t3 := fun args mm => table_at (l := tab_swa_ok) (f := 135) (args := args) (m := mm) rfl
 refine fun_ok mixed hC Tryz.func117 rfl kpSwaAdd false rfl fun args m r h => ?_
 unfold swaG at h
 split at h
 ·rename_i ss g rows
  split at h
  ·rename_i s w hs0 hw0
   obtain rfl := unSm_some hs0
   obtain rfl := unJ_some hw0
   split at h
   ·rename_i hd
    obtain ⟨hs6, hw6⟩ := hd
    simp only [Option.some.injEq] at h
    subst h
    refine ⟨Nat.le_of_ble_eq_true rfl, ?_⟩
    refine en ?_
    have v2 : ((m.push s.row).push zeroSm).var m.vars.length = some s.row := push_old push_var
    have v4 : ((m.push s.row).push zeroSm).var (m.push s.row).vars.length = some zeroSm := push_var
    have n1 := newSm (m := m) (x := s)
    have n2 := znSm (m := m.push s.row)
    have hA := above_push (cs := zeroSm) (above_push (cs := s.row) (above_self m))
    have hge : m.vars.length ≤ (m.push s.row).vars.length := by rw [push_len]; omega
    have hne : m.vars.length ≠ (m.push s.row).vars.length := by rw [push_len]; omega
    refine go1 (jn @n1 @n2) ?_
    generalize (m.push s.row).push zeroSm = m2 at v2 v4 hA
    generalize (m.push s.row).vars.length = r4 at v4 hge hne
    generalize hr2 : m.vars.length = r2 at v2 hne
    have l1 := vrSm v2
    have l2 := lpSmCount v2
    have l3 := lpSmSums v2
    have c1 := swaChk_eq s
    have st0 : evStore Tryz.prog m2 44 (.ptr r4 0) (.agg zeroSm) = some (setv m2 r4 zeroSm) := store_part v4 szSm rfl rfl (Nat.le_refl _) rfl rfl
    have fin0 : ∀ (e : Env) (b : Int), Ev.get e 4 = .ptr r4 0 → Ev.get e 5 = .v (.int .i64 b) → Leaves Tryz.prog false Tryz.f117 m (.tup [.agg sm0.row, .v (.int .i64 b)], m) .ret e (setv m2 r4 zeroSm) := fun e b h1 h2 =>
     leaves_ct rfl (by rw [h1]; exact load_sub (off := 0) (setv_var v4) szSm agSm (Nat.le_refl _) rfl) rfl (by rw [h2]; rfl) (above_fin (above_setv hA (by omega)))
    unfold swaV
    refine go1 (jn @l1 (jn @t1 @c1)) ?_
    refine runs_cond rfl (fun hc => ?_) (fun hc => ?_)
    ·rw [if_pos (by simpa using hc)]
     refine go1 (jn @mk0Sm @st0) ?_
     exact fin0 _ _ rfl rfl
    ·have h0 : swaChk s = 0 := by simpa using hc
     rw [if_neg (by rw [h0]; decide)]
     refine go1 @l2 ?_
     refine runs_cond rfl (fun hc => ?_) (fun hc => ?_)
     ·rw [if_pos (by simpa using hc)]
      refine go1 (jn @mk0Sm @st0) ?_
      exact fin0 _ _ rfl rfl
     ·have h1 : ¬ s.count = 1048576 := by simpa using hc
      rw [if_neg h1]
      refine go1 @l2 ?_
      refine runs_cond rfl (fun hc => ?_) (fun hc => ?_)
      ·rw [if_pos (by simpa using hc)]
       have c2 := clone0_eq (k := 1) (g := .no) (rows := rowsI w) (by rw [rowsI_len]; unfold lim; omega)
       have mk := mkSmL (c := 1) (g := .no) (l := w)
       have st1 : evStore Tryz.prog m2 44 (.ptr r4 0) (.agg (smG 1 .no w)) = some (setv m2 r4 (smG 1 .no w)) := store_part v4 szSm rfl rfl (Nat.le_refl _) rfl rfl
       refine go1 (jn @t2 (jn @c2 (jn @mk @st1))) ?_
       exact leaves_ct rfl (vrSmG (setv_var v4)) rfl rfl (above_fin (above_setv hA (by omega)))
      ·have h2 : ¬ s.count = 0 := by simpa using hc
       rw [if_neg h2]
       refine go1 @l3 ?_
       refine runs_cond rfl (fun hc => ?_) (fun hc => ?_)
       ·rw [if_pos (by simpa using hc)]
        refine go1 (jn @mk0Sm @st0) ?_
        exact fin0 _ _ rfl rfl
       ·have h3 : (s.sums.length : Int) = (w.length : Int) := by simpa using hc
        rw [if_neg (fun hh => hh h3)]
        have mk := mkSmC (c := IntKind.i64.wrap (s.count + 1))
        have st7 : evStore Tryz.prog (m2.push zeroSm) 44 (.ptr m2.vars.length 0) (.agg (smG (IntKind.i64.wrap (s.count + 1)) .full [])) = some (m2.push (smG (IntKind.i64.wrap (s.count + 1)) .full [])) := by
         rw [store_push (cs := smG (IntKind.i64.wrap (s.count + 1)) .full []) rfl szSm (Nat.le_refl _) rfl]
         rfl
        have n7 := znSm (m := m2)
        have v7 : (m2.push (smG (IntKind.i64.wrap (s.count + 1)) .full [])).var m2.vars.length = some (smG (IntKind.i64.wrap (s.count + 1)) .full []) := push_var
        have u2 : (m2.push (smG (IntKind.i64.wrap (s.count + 1)) .full [])).var r2 = some s.row := push_old v2
        have u4 : (m2.push (smG (IntKind.i64.wrap (s.count + 1)) .full [])).var r4 = some zeroSm := push_old v4
        have hA7 := aboveT_of (above_push (cs := smG (IntKind.i64.wrap (s.count + 1)) .full []) hA)
        have hne2 : m2.vars.length ≠ r2 := by have := (var_lt v2).1; omega
        have hne4 : m2.vars.length ≠ r4 := by have := (var_lt v4).1; omega
        have hge7 : m.vars.length ≤ m2.vars.length := by have := above_len hA; omega
        refine go1 (jn @l2 (jn @mk (jn @st7 @n7))) ?_
        generalize m2.push (smG (IntKind.i64.wrap (s.count + 1)) .full []) = m3 at v7 u2 u4 hA7
        generalize m2.vars.length = r7 at v7 hne2 hne4 hge7
        refine runs_loop (fun k e m' => ∃ (i : Nat) (L : List Int) (gg : Grow), i ≤ w.length ∧ addTo s.sums w i = some L ∧ AboveT m m' ∧ tokOk m m' gg ∧ m'.var r2 = some s.row ∧ m'.var r4 = some zeroSm ∧ m'.var r7 = some (smG (IntKind.i64.wrap (s.count + 1)) gg L) ∧ k = w.length - i ∧
         e = [(2, AV.ptr r2 0), (4, .ptr r4 0), (7, .ptr r7 0), (43, .lst g 1 (rowsI w)), (44, .v (.int .i64 w.length)), (45, .v (.int .i64 (i : Int)))]) (k := w.length) ⟨0, [], _, Nat.zero_le _, rfl, hA7, .inl rfl, u2, u4, v7, rfl, rfl⟩ ?_
        rintro k e m' ⟨i, L, gg, hi, hL, hA', hg', q2, q4, q7, rfl, rfl⟩
        have hLl := addTo_len hL
        refine go0 ?_
        refine runs_cond rfl (fun hc => ?_) (fun hc => ?_)
        ·have hi1 : i < w.length := by have := of_decide_eq_true hc; omega
         have f1 := atInts (g := g) (kk := .i64) hi1
         have f2 := atInts (g := .no) (kk := .i64) (show i < s.sums.length by omega)
         have r6 := next_i64 (i := i) (by omega)
         have l4 := lpSmSums q2
         have hN : addTo s.sums w (i + 1) = if (addV (s.sums.getD i 0) (w.getD i 0)).2 = 0 then some (L ++ [(addV (s.sums.getD i 0) (w.getD i 0)).1]) else none := by rw [addTo, hL]; rfl
         have herr := addV_err (s.sums.getD i 0) (w.getD i 0)
         have c3 := add_eq (s.sums.getD i 0) (w.getD i 0)
         generalize s.sums.getD i 0 = x at f2 hN herr c3
         generalize w.getD i 0 = y at f1 hN herr c3
         generalize addV x y = Z at hN herr c3
         refine go1 (jn @f1 (jn @l4 (jn @f2 (jn @t3 @c3)))) ?_
         refine runs_cond rfl (fun hc => ?_) (fun hc => ?_)
         ·have hz : ¬ Z.2 = 0 := by simpa using hc
          rw [if_neg hz] at hN
          rw [addTo_none hN hi1]
          have st9 : evStore Tryz.prog m' 44 (.ptr r4 0) (.agg zeroSm) = some (setv m' r4 zeroSm) := store_part q4 szSm rfl rfl (Nat.le_refl _) rfl rfl
          refine go1 (jn @mk0Sm @st9) ?_
          have h4 : Z.2 = 4 := herr.resolve_left hz
          exact leaves_ct rfl (load_sub (off := 0) (setv_var q4) szSm agSm (Nat.le_refl _) rfl) rfl (by rw [← h4]; rfl) (aboveT_fin (aboveT_setv hA' (by omega)))
         ·have hz : Z.2 = 0 := by simpa using hc
          rw [if_pos hz] at hN
          have l7 := lpSmG q7
          obtain ⟨g2, m4, a1, hg4, hA4, hv4, hl4⟩ := app_live1 appInts (g2 := .full) (xs := rowsI L) (ys := [[.v (.int .i64 Z.1)]]) hg' hA' (by rw [rowsI_len]; unfold lim; simp; omega)
          have e1 : rowsI L ++ [[.v (.int .i64 Z.1)]] = rowsI (L ++ [Z.1]) := by unfold rowsI; rw [List.map_append]; rfl
          rw [e1] at a1
          have q7' : m4.var r7 = some (smG (IntKind.i64.wrap (s.count + 1)) gg L) := by rw [hv4]; exact q7
          have st10 : evStore Tryz.prog m4 42 (.ptr r7 1) (.lst g2 1 (rowsI (L ++ [Z.1]))) = some (setv m4 r7 (smG (IntKind.i64.wrap (s.count + 1)) g2 (L ++ [Z.1]))) := store_part q7' szInts rfl rfl (Nat.le_of_ble_eq_true rfl) rfl rfl
          refine go1 (jn @l7 (jn @a1 (jn @st10 @r6))) ?_
          exact ⟨w.length - (i + 1), by omega, i + 1, L ++ [Z.1], g2, hi1, hN, aboveT_setv hA4 hge7, tokOk_setv hg4, setv_other (by rw [hv4]; exact q2) (fun h => hne2 h.symm), setv_other (by rw [hv4]; exact q4) (fun h => hne4 h.symm), setv_var q7', rfl, rfl⟩
        ·have hi1 : i = w.length := by have := of_decide_eq_false hc; omega
         subst hi1
         rw [hL]
         have l8 := vrSmG q7
         have st11 : evStore Tryz.prog m' 44 (.ptr r4 0) (.agg (smG (IntKind.i64.wrap (s.count + 1)) gg L)) = some (setv m' r4 (smG (IntKind.i64.wrap (s.count + 1)) gg L)) := store_part q4 szSm rfl rfl (Nat.le_refl _) rfl rfl
         refine go1 (jn @l8 (jn @cellsSmG @st11)) ?_
         exact leaves_ct rfl (vrSmG (setv_var q4)) rfl rfl (aboveT_fin (aboveT_setv hA' (by omega)))
   ·cases h
  ·cases h
 ·cases h
end
section
attribute [local irreducible] Next Inside Runs Ops table
attribute [local go_sem] szStr szInt Option.getD_some isNil evMinMax evFoldI iv rowsI_len List.cons_append
def emaF (avg w : List Int) (d : Int) (i : Nat) : Int := (lerpV (w.getD i 0) (avg.getD i 0) d).1
def emaV (avg w : List Int) (d : Int) : List Int × Int :=
 if d < 0 ∨ d > 4294967296 then ([], 1) else if (avg.length : Int) = 0 then (w, 0) else if (avg.length : Int) ≠ (w.length : Int) then ([], 1) else ((List.range w.length).map (emaF avg w d), 0)
def emaDom (avg w : List Int) : Prop := avg.length ≤ 1000000 ∧ w.length ≤ 1000000 ∧ (∀ x ∈ avg, inI x) ∧ ∀ x ∈ w, inI x
open Classical in
noncomputable def emaG : List AV → Mem → Option (AV × Mem)
 | [.lst _ 1 ra, .lst _ 1 rw, .v (.int .i64 d)], m =>
  match unJ ra, unJ rw with
  | some a, some w => if emaDom a w then some (.tup [.lst .no 1 (rowsI (emaV a w d).1), .v (.int .i64 (emaV a w d).2)], m) else none
  | _, _ => none
 | _, _ => none
theorem ema_eq {a w : List Int} {g g2 : Grow} {d : Int} (h : emaDom a w) (m : Mem) : emaG [.lst g 1 (rowsI a), .lst g2 1 (rowsI w), .v (.int .i64 d)] m = some (.tup [.lst .no 1 (rowsI (emaV a w d).1), .v (.int .i64 (emaV a w d).2)], m) := by
 simp only [emaG, unJ_rowsI]
 exact if_pos h
def upTo0 (f : Nat → Int) (n i : Nat) : List Int := (List.range n).map fun j => if j < i then f j else 0
theorem upTo0_len (f : Nat → Int) (n i : Nat) : (upTo0 f n i).length = n := by unfold upTo0; simp
theorem upTo0_zero (f : Nat → Int) (n : Nat) : upTo0 f n 0 = List.replicate n 0 := by
 unfold upTo0
 apply List.ext_getElem <;> simp
theorem upTo0_next {f : Nat → Int} {n i : Nat} (hi : i < n) : (upTo0 f n i).set i (f i) = upTo0 f n (i + 1) := by
 unfold upTo0
 apply List.ext_getElem
 ·simp
 ·intro j h1 h2
  rw [List.getElem_set]
  simp only [List.getElem_map, List.getElem_range]
  by_cases h : i = j
  ·subst h
   rw [if_pos rfl, if_pos (by omega)]
  ·rw [if_neg h]
   by_cases h3 : j < i
   ·rw [if_pos h3, if_pos (by omega)]
   ·rw [if_neg h3, if_neg (by omega)]
theorem upTo0_end (f : Nat → Int) (n : Nat) : upTo0 f n n = (List.range n).map f := by
 unfold upTo0
 apply List.ext_getElem
 ·simp
 ·intro j h1 h2
  simp at h1 ⊢
  intro h
  omega
theorem res_ints {m m' : Mem} {r n : Nat} {b : List Int} (hr : m.vars.length ≤ r) (hv : m'.var r = some (iC b)) (hn : n = b.length) : resAV m.vars.length m' (.vs r 0 1 n n) = some (.lst .no 1 (rowsI b)) := by
 have hnr : ¬ r < m.vars.length := by omega
 simp only [resAV, hnr, if_false, hv, hn, iC_len, and_self, if_true, cells_iC, Option.map_some]
 simp [chunk1, iC, rowsI]
def kpEma : Nat → Option (List Nat) := fun
 | 0 => some [0, 1, 2]
 | 1 => some [0, 1, 2, 11]
 | 2 => some [6, 7]
 | 3 => some [0, 1, 2, 18]
 | 4 => some [6, 7]
 | 5 => some [0, 1, 2, 24]
 | 6 => some [6, 7]
 | 7 => some [0, 1, 2, 8]
 | 8 => some [0, 2, 8, 33, 34, 35]
 | 9 => some [0, 2, 8, 33, 34, 35, 36]
 | 10 => some [0, 2, 8, 9, 10, 33, 34, 35]
 | 11 => some [0, 2, 8, 33, 34, 35]
 | 12 => some [0, 2, 8, 33, 34, 35]
 | 13 => some [6, 7]
 | _ => none
attribute [go_sem] kpEma
def tab_ema_ok : List (FuncId × (List AV → Mem → Option (AV × Mem))) := [(134, (clone0G 1)), (136, lerpG)]
theorem ema_ok : FunOk Tryz.prog 118 emaG := by
 have hC := table_ok (P := Tryz.prog) (l := tab_ema_ok) (table_more cloneI_ok (table_more lerp_ok table_nil))
 have t1 := fun args mm => table_at (l := tab_ema_ok) (f := 134) (args := args) (m := mm) rfl
 have t2 := fun args mm => table_at (l := tab_ema_ok) (f := 136) (args := args) (m := mm) rfl
 refine fun_ok mixed hC Tryz.func118 rfl kpEma false rfl fun args m r h => ?_
 unfold emaG at h
 split at h
 ·rename_i g ra g2 rw' d
  split at h
  ·rename_i a w ha0 hw0
   obtain rfl := unJ_some ha0
   obtain rfl := unJ_some hw0
   split at h
   ·rename_i hd
    obtain ⟨ha6, hw6, hai, hwi⟩ := hd
    simp only [Option.some.injEq] at h
    subst h
    refine ⟨Nat.le_of_ble_eq_true rfl, ?_⟩
    refine en ?_
    have fin0 : ∀ (e : Env) (b : Int), Ev.get e 6 = .lst .full 1 [] → Ev.get e 7 = .v (.int .i64 b) → Leaves Tryz.prog false Tryz.f118 m (.tup [.lst .no 1 (rowsI []), .v (.int .i64 b)], m) .ret e m := fun e b h1 h2 =>
     leaves_two rfl (by rw [h1]; rfl) (by rw [h2]; rfl) (finMem_self _)
    unfold emaV
    cases h1 : decide (d < 0) with
    | true =>
     have k1 := of_decide_eq_true h1
     rw [if_pos (.inl k1)]
     refine go1 @h1 ?_
     refine runs_cond rfl (fun hc => ?_) (fun hc => by cases hc)
     refine go0 ?_
     exact fin0 _ _ rfl rfl
    | false =>
     have k1 := of_decide_eq_false h1
     refine go1 @h1 ?_
     refine runs_cond rfl (fun hc => ?_) (fun hc => ?_)
     ·rw [if_pos (.inr (of_decide_eq_true hc))]
      refine go0 ?_
      exact fin0 _ _ rfl rfl
     ·have k2 := of_decide_eq_false hc
      rw [if_neg (by omega)]
      refine go0 ?_
      refine runs_cond rfl (fun hc => ?_) (fun hc => ?_)
      ·rw [if_pos (by simpa using hc)]
       have c2 := clone0_eq (k := 1) (g := .no) (rows := rowsI w) (by rw [rowsI_len]; unfold lim; omega)
       refine go1 (jn @t1 @c2) ?_
       exact leaves_two rfl rfl rfl (finMem_self _)
      ·have k3 : ¬ (a.length : Int) = 0 := by simpa using hc
       rw [if_neg k3]
       refine go0 ?_
       refine runs_cond rfl (fun hc => ?_) (fun hc => ?_)
       ·rw [if_pos (by simpa using hc)]
        refine go0 ?_
        exact fin0 _ _ rfl rfl
       ·have k4 : (a.length : Int) = (w.length : Int) := by simpa using hc
        rw [if_neg (fun hh => hh k4)]
        have mi := makeInts (n := w.length) (by omega)
        have nv := newInts (m := m) (l := List.replicate w.length 0)
        have e0 := upTo0_zero (emaF a w d) w.length
        refine go1 (jn @mi @nv) ?_
        refine runs_loop (fun k e m' => ∃ (i : Nat), i ≤ w.length ∧ m' = m.push (iC (upTo0 (emaF a w d) w.length i)) ∧ k = w.length - i ∧
         e = [(0, AV.lst g 1 (rowsI a)), (2, .v (.int .i64 d)), (8, .vs m.vars.length 0 1 w.length w.length), (33, .lst g2 1 (rowsI w)), (34, .v (.int .i64 w.length)), (35, .v (.int .i64 (i : Int)))]) (k := w.length) ⟨0, Nat.zero_le _, by rw [e0], rfl, rfl⟩ ?_
        rintro k e m' ⟨i, hi, rfl, rfl, rfl⟩
        refine go0 ?_
        refine runs_cond rfl (fun hc => ?_) (fun hc => ?_)
        ·have hi1 : i < w.length := by have := of_decide_eq_true hc; omega
         have f1 := atInts (g := g2) (kk := .i64) hi1
         have f2 := atInts (g := g) (kk := .i64) (show i < a.length by omega)
         have r6 := next_i64 (i := i) (by omega)
         have f3 := vsAtI (r := m.vars.length) (n := w.length) (kk := .i64) hi1
         have c3 := lerpG_eq (a := w.getD i 0) (b := a.getD i 0) (t := d) (hwi _ (getD_in hi1)) (hai _ (getD_in (by omega)))
         have st := storeI (m := m.push (iC (upTo0 (emaF a w d) w.length i))) (r := m.vars.length) (i := i) (v := (lerpV (w.getD i 0) (a.getD i 0) d).1) push_var (by rw [upTo0_len]; exact hi1)
         rw [show (lerpV (w.getD i 0) (a.getD i 0) d).1 = emaF a w d i from rfl, upTo0_next hi1, setI_push] at st
         rw [show (lerpV (w.getD i 0) (a.getD i 0) d).1 = emaF a w d i from rfl] at c3
         generalize (lerpV (w.getD i 0) (a.getD i 0) d).2 = z2 at c3
         generalize emaF a w d i = z1 at c3 st
         generalize a.getD i 0 = x at f2 c3
         generalize w.getD i 0 = y at f1 c3
         refine go1 (jn @f1 (jn @f2 (jn @f3 (jn @t2 (jn @c3 (jn @st @r6)))))) ?_
         exact ⟨w.length - (i + 1), by omega, i + 1, hi1, rfl, rfl, rfl⟩
        ·have hi1 : i = w.length := by have := of_decide_eq_false hc; omega
         subst hi1
         refine go0 ?_
         refine leaves_two rfl (res_ints (b := (List.range w.length).map (emaF a w d)) (Nat.le_refl _) (by rw [← upTo0_end]; exact push_var) (by simp)) rfl fin_push
   ·cases h
  ·cases h
 ·cases h
end
noncomputable section
attribute [local irreducible] Next Inside Runs Ops table
attribute [local irreducible] XRuns XOps XLin
attribute [local go_sem] szStr szInt Option.getD_some isNil evMinMax evFoldI iv mapPn cellsPn newPn mapSs cellsSs newSs mapCt fpPnFrozen fpPnCutAt fpPnPlateau fpPnPlateauFloor fpSsStep fpSsCut rowsBs_len rowsBo_len ldBs ldBool
theorem xs_callF2 {P : Program} {nt : Nat} {φ₀ : Phi} {m₀ : Mem} {w₀ : World} {ops : Array Oper} {o : Oper} {e : Env} {m : Mem} {F : Objs} {K : Env → Mem → Objs → Prop} {f : FuncId} {Pre : List AV → Mem → Prop} {Post : List AV → Mem → AV → Mem → Objs → Prop}
  (hf : FunOkF P f Pre Post) {c : Call} {x y : Operand} {av bv : AV} {d : Nat} (hg : wantedAV ops e o = some true) (hd : o.dst = some d) (hlt : d < nt) (ho : o.op = .call c) (hc : c.callee = .value (.func f)) (ha : c.args = #[x, y]) (hx : opd P e 0 x = av) (hy : opd P e 0 y = bv) (hpre : Pre [argAV av, argAV bv] m)
  (h : ∀ r m' F', Post [argAV av, argAV bv] m r m' F' → (∀ p ∈ F', ∀ q ∈ F, p.1 ≠ q.1) → K ((d, r) :: e) m' (F' ++ F)) : XStep P φ₀ m₀ w₀ nt ops o e m F K :=
 xs_callF hf (args := [av, bv]) hg hd hlt ho hc (fun φ w a hE => by
  rw [ha]
  refine ⟨by simp, fun i b u e1 e2 => ?_⟩
  match i with
  | 0 =>
   have hb : av = b := by simpa using e1
   have hu : a.eval x = u := by simpa using e2
   subst hb
   subst hu
   have := rep_opd (P := P) hE 0 x
   rw [hx] at this
   exact this
  | 1 =>
   have hb : bv = b := by simpa using e1
   have hu : a.eval y = u := by simpa using e2
   subst hb
   subst hu
   have := rep_opd (P := P) hE 0 y
   rw [hy] at this
   exact this
  | i + 2 => simp at e1) hpre h
/-! ### numbers -/
theorem lerpV_in {a b t : Int} : inI (lerpV a b t).1 := by
 unfold lerpV
 split
 ·exact (by decide : inI 0)
 ·split <;> exact wrapI_in _
theorem curveAtV_in (c : Cv) (i n : Int) : inI (curveAtV c i n).1 := by
 unfold curveAtV
 split
 ·exact (by decide : inI 0)
 ·rename_i h
  split
  ·have hc : curveOk c = true := by
    cases hx : curveOk c with
    | true => rfl
    | false => exact absurd (.inl hx) h
   obtain ⟨ha, hb, hk⟩ := curveOk_in hc
   have hp := mulV_in ha (powV_in (x := c.k) i hk)
   show inI (mx c.b (mulV c.a (powV c.k i).1).1)
   unfold mx
   split <;> assumption
  ·split <;> exact lerpV_in
theorem segV_in (s : Sg) (step : Int) : inI (segV s step).1 := by
 unfold segV
 split
 ·exact curveAtV_in _ _ _
 ·split
  ·exact (by decide : inI 0)
  ·exact curveAtV_in _ _ _
theorem rowV_in (p : Pn) (step : Int) (j : Nat) : inI (rowV p step j) := by
 unfold rowV segsAtV
 split
 ·exact (by decide : inI 0)
 ·split
  ·exact (by decide : inI 0)
  ·exact segV_in _ _
/-! ### the list -/
def rowAt (p : Pn) (s : Ss) (ph : Nat) (j : Nat) : Int := if (p.frozen.getD ph []).getD (j / 3) false = true then 0 else if j % 3 = 0 ∧ p.cutAt ≥ 0 then rateV s.cut (rowV p s.step j) p.plateau.Floor else rowV p s.step j
def valsTo (p : Pn) (s : Ss) (ph i : Nat) : List Int := (List.range p.tracks.length).map fun j => if j / 3 < i then rowAt p s ph j else rowV p s.step j
def valsV (p : Pn) (s : Ss) (ph : Nat) : List Int := (List.range p.tracks.length).map (rowAt p s ph)
theorem splice_map {f g : Nat → Int} {n off : Nat} {new : List Int} (h : off + new.length ≤ n) (h1 : ∀ j, j < n → ¬ (off ≤ j ∧ j < off + new.length) → g j = f j) (h2 : ∀ j, j < new.length → g (off + j) = new.getD j 0) :
  splice (((List.range n).map f).map iv) off (new.map iv) = ((List.range n).map g).map iv := by
 apply List.ext_getElem?
 intro j
 unfold splice
 rw [getElem?_splice (by simp; omega)]
 simp only [List.length_map]
 by_cases hc : off ≤ j ∧ j < off + new.length
 ·have hjn : j - off < new.length := by omega
  have h5 := h2 (j - off) hjn
  rw [show off + (j - off) = j by omega, List.getD, List.getElem?_eq_getElem hjn, Option.getD_some] at h5
  have hj : j < n := by omega
  rw [if_pos hc]
  simp [List.getElem?_eq_getElem hjn, hj, h5]
 ·rw [if_neg hc]
  by_cases hj : j < n
  ·simp [hj, h1 j hj hc]
  ·simp [hj]
theorem valsTo_0 (p : Pn) (s : Ss) (ph : Nat) : valsTo p s ph 0 = rowL p s.step p.tracks.length := by
 unfold valsTo rowL
 apply List.map_congr_left
 intro j _
 rw [if_neg (by omega)]
theorem valsTo_end {p : Pn} {s : Ss} {ph n : Nat} (h : p.tracks.length = 3 * n) : valsTo p s ph n = valsV p s ph := by
 unfold valsTo valsV
 apply List.map_congr_left
 intro j hj
 have := List.mem_range.1 hj
 rw [if_pos (by omega)]
theorem valsTo_len (p : Pn) (s : Ss) (ph i : Nat) : (valsTo p s ph i).length = p.tracks.length := by unfold valsTo; simp
theorem valsTo_frozen {p : Pn} {s : Ss} {ph i : Nat} (hi : 3 * i + 3 ≤ p.tracks.length) (h : (p.frozen.getD ph []).getD i false = true) : splice ((valsTo p s ph i).map iv) (3 * i) (List.replicate 3 (iv 0)) = (valsTo p s ph (i + 1)).map iv := by
 have e : List.replicate 3 (iv 0) = [0, 0, 0].map iv := rfl
 rw [e]
 refine splice_map (by simpa using hi) (fun j hj hn => ?_) fun j hj => ?_
 ·simp only [List.length_cons, List.length_nil] at hn
  by_cases h1 : j / 3 < i
  ·rw [if_pos h1, if_pos (by omega)]
  ·rw [if_neg h1, if_neg (by omega)]
 ·simp only [List.length_cons, List.length_nil] at hj
  have hd : (3 * i + j) / 3 = i := by omega
  rw [if_pos (by omega)]
  unfold rowAt
  rw [hd, if_pos h]
  match j, hj with
  | 0, _ => rfl
  | 1, _ => rfl
  | 2, _ => rfl
theorem valsTo_cut {p : Pn} {s : Ss} {ph i : Nat} (hi : 3 * i + 3 ≤ p.tracks.length) (h : (p.frozen.getD ph []).getD i false = false) (hc : p.cutAt ≥ 0) : splice ((valsTo p s ph i).map iv) (3 * i) [iv (rateV s.cut (rowV p s.step (3 * i)) p.plateau.Floor)] = (valsTo p s ph (i + 1)).map iv := by
 have e : [iv (rateV s.cut (rowV p s.step (3 * i)) p.plateau.Floor)] = [rateV s.cut (rowV p s.step (3 * i)) p.plateau.Floor].map iv := rfl
 rw [e]
 refine splice_map (by simp; omega) (fun j hj hn => ?_) fun j hj => ?_
 ·simp only [List.length_cons, List.length_nil] at hn
  by_cases h1 : j / 3 < i
  ·rw [if_pos h1, if_pos (by omega)]
  ·rw [if_neg h1]
   by_cases h2 : j / 3 < i + 1
   ·have h3 : j / 3 = i := by omega
    rw [if_pos h2]
    unfold rowAt
    rw [h3, if_neg (by rw [h]; decide), if_neg (by omega)]
   ·rw [if_neg h2]
 ·simp only [List.length_cons, List.length_nil] at hj
  obtain rfl : j = 0 := by omega
  rw [if_pos (by omega)]
  unfold rowAt
  rw [show (3 * i + 0) / 3 = i by omega, if_neg (by rw [h]; decide), if_pos ⟨by omega, hc⟩]
  rfl
theorem valsTo_same {p : Pn} {s : Ss} {ph i : Nat} (h : (p.frozen.getD ph []).getD i false = false) (hc : ¬ p.cutAt ≥ 0) : valsTo p s ph i = valsTo p s ph (i + 1) := by
 unfold valsTo
 apply List.map_congr_left
 intro j _
 by_cases h1 : j / 3 < i
 ·rw [if_pos h1, if_pos (by omega)]
 ·rw [if_neg h1]
  by_cases h2 : j / 3 < i + 1
  ·have h3 : j / 3 = i := by omega
   rw [if_pos h2]
   unfold rowAt
   rw [h3, if_neg (by rw [h]; decide), if_neg (fun hh => hc hh.2)]
  ·rw [if_neg h2]
theorem valsTo_at {p : Pn} {s : Ss} {ph i : Nat} (hi : 3 * i < p.tracks.length) : (valsTo p s ph i)[3 * i]? = some (rowV p s.step (3 * i)) := by
 unfold valsTo
 simp [hi]
def valsDom (p : Pn) (s : Ss) (ph : Int) : Prop := p.fit ∧ planOkB p = true ∧ (0 ≤ s.step ∧ s.step < p.steps) ∧ 0 ≤ ph ∧ ph < (p.frozen.length : Int)
instance (p : Pn) (s : Ss) (ph : Int) : Decidable (valsDom p s ph) := by unfold valsDom; exact inferInstance
def valsG : List AV → Mem → Option (AV × Mem)
 | [.agg ps, .agg ss, .v (.int .i64 ph)], m =>
  match unPn ps, unSs ss with
  | some p, some s => if valsDom p s ph then some (.lst .no 1 (rowsI (valsV p s ph.toNat)), m) else none
  | _, _ => none
 | _, _ => none
theorem vals_eq {p : Pn} {s : Ss} {ph : Int} (h : valsDom p s ph) (m : Mem) : valsG [.agg p.row, .agg s.row, .v (.int .i64 ph)] m = some (.lst .no 1 (rowsI (valsV p s ph.toNat)), m) := by
 simp only [valsG, unPn_row, unSs_row]
 exact if_pos h
theorem frozen_len {p : Pn} (h : planOkB p = true) {i : Nat} (hi : i < p.frozen.length) : ((p.frozen.getD i []).length : Int) = p.groups := by
 obtain ⟨_, _, _, _, _, _, hf, _⟩ := planOk_parts h
 unfold frozenOkB at hf
 rw [Bool.and_eq_true] at hf
 have := List.all_eq_true.1 hf.1 i (List.mem_range.2 hi)
 unfold frAt at this
 exact eq_of_beq this
theorem fz_ints {F : Objs} {b c : Nat} {cs : List AV} {L : List Int} (hb : (b, XOb.arr cs) ∈ F) (hc : L.length ≤ c) (h : cs.take L.length = L.map iv) : Fz F (.v (rawSl b 0 L.length c)) (.lst .no 1 (rowsI L)) := by
 refine .list b 0 1 L.length c cs (rowsI L) (fun i _ => iv (L.getD i 0)) hb (rowsI_len L) hc (fun i row hr => ?_) (fun i row j x h1 h2 => ?_) fun i row j x h1 h2 => ?_
 ·obtain ⟨n, _, rfl⟩ := List.mem_map.1 (List.mem_of_getElem? hr)
  exact ⟨rfl, rfl⟩
 ·have hi : i < L.length := by have := (List.getElem?_eq_some_iff.1 h1).1; rwa [rowsI_len] at this
  have e := rowsI_get (l := L) hi
  rw [e] at h1
  cases h1
  have hj : j = 0 := by have := (List.getElem?_eq_some_iff.1 h2).1; simpa using this
  subst hj
  have e2 : (cs.take L.length)[i]? = some (iv (L.getD i 0)) := by
   rw [h]
   simp [List.getD, List.getElem?_eq_getElem hi]
  rw [List.getElem?_take, if_pos hi] at e2
  simpa using e2
 ·have hi : i < L.length := by have := (List.getElem?_eq_some_iff.1 h1).1; rwa [rowsI_len] at this
  have e := rowsI_get (l := L) hi
  rw [e] at h1
  cases h1
  have hj : j = 0 := by have := (List.getElem?_eq_some_iff.1 h2).1; simpa using this
  subst hj
  cases h2
  exact .same _
end
noncomputable section
attribute [local irreducible] Next Inside Runs Ops table
attribute [local irreducible] XRuns XOps XLin
attribute [local go_sem] szStr szInt Option.getD_some isNil evMinMax evFoldI iv mapPn cellsPn newPn mapSs cellsSs newSs mapCt fpPnFrozen fpPnCutAt fpPnPlateau fpPnPlateauFloor fpSsStep fpSsCut rowsBs_len rowsBo_len ldBs ldBool
theorem set_mem {F : Objs} {b : Nat} {o o' : XOb} (h : (b, o) ∈ F) : (b, o') ∈ setObjs F b o' := List.mem_map.2 ⟨_, h, by simp⟩
theorem take_splice {cs new : List AV} {L : List Int} {off : Nat} {L2 : List Int} (h : cs.take L.length = L.map iv) (hl : L.length ≤ cs.length) (hn : off + new.length ≤ L.length) (h2 : splice (L.map iv) off new = L2.map iv) (h3 : L2.length = L.length) : (splice cs off new).take L2.length = L2.map iv := by
 rw [h3, ← h2, ← h]
 apply List.ext_getElem?
 intro j
 unfold splice
 rw [List.getElem?_take]
 rw [getElem?_splice (by omega), getElem?_splice (by simp; omega)]
 by_cases h1 : off ≤ j ∧ j < off + new.length
 ·rw [if_pos h1, if_pos h1, if_pos (by omega)]
 ·rw [if_neg h1, if_neg h1, List.getElem?_take]
theorem bound_nat {n d : Nat} : evBound (some (.v (.int .i64 (n : Int)))) d = some n := by
 unfold evBound
 simp
theorem zrI : zeroCells Tryz.prog 3 = some [.v (.int .i64 0)] := by kernel_rfl
theorem part_int {cs : List AV} {i : Nat} {v : AV} (h : cs[i]? = some v) : evPart Tryz.prog 3 cs i = some v := by
 unfold evPart
 simp only [agInt, szInt, h]
def kpVals : Nat → Option (List Nat) := fun
 | 0 => some [2, 3, 4]
 | 1 => some [2, 3, 4, 7]
 | 2 => some [3, 4, 7, 23, 24, 25]
 | 3 => some [3, 4, 7, 23, 24, 25, 26]
 | 4 => some [3, 4, 7, 9, 10, 23, 24, 25]
 | 5 => some [3, 4, 7, 10, 11, 23, 24, 25]
 | 6 => some [3, 4, 7, 11, 23, 24, 25, 32]
 | 7 => some [3, 4, 7, 23, 24, 25]
 | 8 => some [3, 4, 7, 11, 23, 24, 25, 40]
 | 9 => some [3, 4, 7, 23, 24, 25]
 | 10 => some [3, 4, 7, 23, 24, 25]
 | 11 => some [6]
 | _ => none
attribute [go_sem] kpVals
theorem vals_ok : FunOk Tryz.prog 68 valsG := by
 have hC := table_ok (P := Tryz.prog) (l := [(97, rateG)]) (table_more rate_ok table_nil)
 have t1 := fun args mm => table_at (l := [(97, rateG)]) (f := 97) (args := args) (m := mm) rfl
 refine fun_okX Tryz.func68 rfl false rfl fun args m r h => ?_
 unfold valsG at h
 split at h
 ·rename_i ps ss ph
  split at h
  ·rename_i p s hp0 hs0
   obtain rfl := unPn_some hp0
   obtain rfl := unSs_some hs0
   split at h
   ·rename_i hdom
    obtain ⟨hfit, hok, ⟨s0, s1⟩, p0, p1⟩ := hdom
    simp only [Option.some.injEq] at h
    subst h
    obtain ⟨q, rfl⟩ := Int.eq_ofNat_of_zero_le p0
    have hq : q < p.frozen.length := by omega
    rw [Int.toNat_natCast]
    refine ⟨Nat.le_of_ble_eq_true rfl, fun φ wd => ?_⟩
    refine en ?_
    have v3 : ((m.push p.row).push s.row).var m.vars.length = some p.row := push_old push_var
    have v4 : ((m.push p.row).push s.row).var (m.push p.row).vars.length = some s.row := push_var
    have n1 := newPn (m := m) (x := p)
    have n2 := newSs (m := m.push p.row) (x := s)
    have hA := above_push (cs := s.row) (above_push (cs := p.row) (above_self m))
    refine xq ?_
    refine x_region (kp := kpVals) mixed hC ?_
    refine go1 (jn @n1 @n2) ?_
    refine xq ?_
    generalize (m.push p.row).push s.row = m2 at v3 v4 hA
    generalize (m.push p.row).vars.length = r4 at v4
    generalize m.vars.length = r3 at v3
    have l1 := vrPn v3
    have l2 := lpSsStep v4
    have l3 := lpPnFrozen v3
    have l4 := lpPnCutAt v3
    have l5 := lpSsCut v4
    have l6 := lpPnPlateauFloor v3
    have hfl := frozen_len hok hq
    have htl := tracks_len hok
    have hg8 := (planOk_parts hok).2.2.2.1
    generalize hfr : p.frozen.getD q [] = fr at hfl
    have hn : p.tracks.length = 3 * fr.length := by omega
    have hfr8 : fr.length ≤ 8 := by omega
    refine x_ops (l2 := kpVals 1) ?_
    refine gox1 hC (jn @l1 @l2) ?_
    refine xops_step (xs_callF2 (x := .tmp 13) (y := .tmp 15) (av := .agg p.row) (bv := .v (.int .i64 s.step)) row_ok rfl rfl (by decide) rfl rfl rfl rfl rfl ⟨p, s.step, rfl, hfit, hok, s0, s1⟩ fun r m3 F3 hpost hdis => ?_)
    obtain ⟨rfl, a, rfl, hraw⟩ := hpost p s.step rfl
    obtain ⟨b, c, cs0, rfl, hm0, g1, g2, g3⟩ := hraw
    rw [← valsTo_0 p s q] at g1 g3
    rw [rowL_len]
    refine gox0 hC ?_
    refine xq ?_
    have a1 := atBs (g := .no) (kk := .i64) hq
    rw [hfr] at a1
    refine x_region (kp := kpVals) mixed hC ?_
    refine go1 (jn @l3 @a1) ?_
    refine xq ?_
    refine x_loop (fun k e m' F => ∃ (i : Nat) (cs : List AV), i ≤ fr.length ∧ m3 = m' ∧ (b, XOb.arr cs) ∈ F ∧ c ≤ cs.length ∧ cs.take (valsTo p s q i).length = (valsTo p s q i).map iv ∧ k = fr.length - i ∧ e = [(3, AV.ptr r3 0), (4, .ptr r4 0), (7, .v (rawSl b 0 p.tracks.length c)), (23, .lst .no 1 (rowsBo fr)), (24, .v (.int .i64 (fr.length : Int))), (25, .v (.int .i64 (i : Int)))]) (k := fr.length) ⟨0, cs0, Nat.zero_le _, rfl, List.mem_append_left _ hm0, g2, g3, rfl, rfl⟩ ?_
    rintro k e m' F ⟨i, cs, hi0, rfl, hm, g2, g3, rfl, rfl⟩
    rw [valsTo_len] at g1 
    refine xq ?_
    refine x_region (kp := kpVals) mixed hC ?_
    refine go0 ?_
    refine xq ?_
    refine x_cond rfl (fun hc => ?_) (fun hc => ?_)
    ·have hi1 : i < fr.length := by have := of_decide_eq_true hc; omega
     have f1 := atBools (g := .no) (kk := .i64) hi1
     have r6 := next_i64 (i := i) (by omega)
     have w1 : IntKind.i64.wrap ((i : Int) * 3) = ((3 * i : Nat) : Int) := by rw [wrap_i64 (by omega) (by omega)]; omega
     have w2 : IntKind.i64.wrap (((3 * i : Nat) : Int) + 3) = ((3 * i + 3 : Nat) : Int) := by rw [wrap_i64 (by omega) (by omega)]; omega
     have w3 : IntKind.i64.wrap (((3 * i : Nat) : Int) + 0) = ((3 * i : Nat) : Int) := by rw [wrap_i64 (by omega) (by omega)]; omega
     have hb3 : 3 * i + 3 ≤ p.tracks.length := by omega
     have hcl : (valsTo p s q i).length ≤ cs.length := by rw [valsTo_len]; omega
     have hll := valsTo_len p s q i
     refine xq ?_
     refine x_region (kp := kpVals) mixed hC ?_
     refine go1 @f1 ?_
     refine xq ?_
     refine x_region (kp := kpVals) mixed hC ?_
     refine go1 @w1 ?_
     refine xq ?_
     refine x_region (kp := kpVals) mixed hC ?_
     refine go0 ?_
     refine xq ?_
     cases hz : fr.getD i false with
     | true =>
      have hz2 := hz
      rw [← hfr] at hz2
      have hsp := valsTo_frozen (s := s) hb3 hz2
      refine x_cond rfl (fun hc => ?_) (fun hc => by cases hc)
      refine xq ?_
      refine x_ops (l2 := kpVals 7) ?_
      refine gox1 hC @w2 ?_
      refine xops_step (xs_sliceRaw (t1 := 0) (t2 := 0) rfl rfl elInts szInt rfl bound_nat bound_nat (by omega) (by omega) (by omega) rfl ?_)
      have heq : rawSl b (if c = 3 * i then 0 else 0 + 3 * i * 1) (3 * i + 3 - 3 * i) (c - 3 * i) = rawSl b (3 * i) (2 + 1) (c - 3 * i) := by
       rw [if_neg (by omega), show 0 + 3 * i * 1 = 3 * i by omega, show 3 * i + 3 - 3 * i = 2 + 1 by omega]
      refine xops_step (xs_clearRaw rfl rfl rfl rfl rfl rfl elInts zrI hm (congrArg AV.v heq) rfl (by omega) ?_)
      refine gox0 hC ?_
      refine xq ?_
      refine x_region (kp := kpVals) mixed hC ?_
      refine go1 @r6 ?_
      refine xq ?_
      refine ⟨fr.length - (i + 1), by omega, i + 1, _, hi1, rfl, set_mem hm, ?_, take_splice g3 hcl (by simp; omega) hsp (by rw [valsTo_len, valsTo_len]), rfl, rfl⟩
      rw [splice_length (by simp; omega)]
      exact g2
     | false =>
      have hz2 := hz
      rw [← hfr] at hz2
      refine x_cond rfl (fun hc => by cases hc) (fun hc => ?_)
      refine xq ?_
      refine x_region (kp := kpVals) mixed hC ?_
      refine go1 @l4 ?_
      refine xq ?_
      by_cases hcut : p.cutAt ≥ 0
      ·have hsp := valsTo_cut (s := s) hb3 hz2 hcut
       have hat := valsTo_at (s := s) (ph := q) (i := i) (p := p) (by omega)
       have hin := rowV_in p s.step (3 * i)
       generalize rowV p s.step (3 * i) = v at hsp hat hin
       have c1 := rate_eq (c := s.cut) hin p.plateau.Floor
       generalize rateV s.cut v p.plateau.Floor = u at hsp c1
       have ld : evPart Tryz.prog 3 cs (0 + 3 * i * 1) = some (.v (.int .i64 v)) := by
        rw [show 0 + 3 * i * 1 = 3 * i by omega]
        refine part_int ?_
        have h1 : (cs.take (valsTo p s q i).length)[3 * i]? = some (iv v) := by rw [g3]; simp [hat]
        rw [List.getElem?_take, if_pos (by rw [hll]; omega)] at h1
        exact h1
       refine x_cond rfl (fun hc => ?_) (fun hc => absurd hcut (of_decide_eq_false hc))
       refine xq ?_
       refine x_drawnX mixed (l2 := kpVals 9) (by kernel_rfl) (by kernel_rfl) ?_
       refine goxl1 hC (jn @w3 @l5) ?_
       refine xl_step rfl (xra_indexRaw (t1 := 0) (t2 := 0) (j := 3 * i) rfl elInts szInt rfl rfl (by omega)) rfl ?_
       refine xl_step rfl (xra_loadRaw (t1 := 0) rfl hm rfl ld) rfl ?_
       refine goxl1 hC (jn @l6 (jn @t1 @c1)) ?_
       refine xl_step rfl (xra_indexRaw (t1 := 0) (t2 := 0) (j := 3 * i) rfl elInts szInt rfl rfl (by omega)) rfl ?_
       refine xl_last (m1 := m3) rfl (xra_storeRaw (t1 := 0) (t2 := 0) (row := [iv u]) rfl rfl hm rfl rfl rfl szInt rfl (by omega)) rfl ?_
       intro e2 h2
       simp only [go_sem, reduceIte, Nat.reduceEqDiff] at h2
       subst h2
       rw [show 0 + 3 * i * 1 = 3 * i by omega]
       refine xq ?_
       refine x_region (kp := kpVals) mixed hC ?_
       refine go1 @r6 ?_
       refine xq ?_
       refine ⟨fr.length - (i + 1), by omega, i + 1, _, hi1, rfl, set_mem hm, ?_, take_splice g3 hcl (by simp; omega) hsp (by rw [valsTo_len, valsTo_len]), rfl, rfl⟩
       rw [splice_length (by simp; omega)]
       exact g2
      ·have hsame := valsTo_same (s := s) hz2 hcut
       refine x_cond rfl (fun hc => absurd (of_decide_eq_true hc) hcut) (fun hc => ?_)
       refine xq ?_
       refine x_region (kp := kpVals) mixed hC ?_
       refine go1 @r6 ?_
       refine xq ?_
       exact ⟨fr.length - (i + 1), by omega, i + 1, cs, hi1, rfl, hm, g2, by rw [← hsame]; exact g3, rfl, rfl⟩
    ·have hi1 : i = fr.length := by have := of_decide_eq_false hc; omega
     subst hi1
     rw [valsTo_end hn] at g3
     have hvl : (valsV p s q).length = p.tracks.length := by unfold valsV; simp
     have hfz := fz_ints hm (L := valsV p s q) (by rw [hvl]; exact g1) g3
     rw [hvl] at hfz
     refine x_rest (FzEnv.cons _ (.same _) (FzEnv.cons _ (.same _) (FzEnv.cons _ hfz (FzEnv.cons _ (.same _) (FzEnv.cons _ (.same _) (FzEnv.cons _ (.same _) (FzEnv.cons _ (.same _) .nil))))))) ?_
     refine xq ?_
     refine x_region (kp := kpVals) mixed hC ?_
     refine go0 ?_
     refine xq ?_
     exact x_leaves (leaves_lst rfl rfl (above_fin hA))
   ·cases h
  ·cases h
 ·cases h
end
section
attribute [local irreducible] Next Inside Runs Ops table
attribute [local irreducible] XRuns XOps
attribute [local go_sem] szStr szInt Option.getD_some isNil evMinMax evFoldI iv mapPn cellsPn newPn mapSs cellsSs newSs mapWt cellsWt newWt mapCt fpPnSteps fpPnWeights fpPnEval fpPnStop fpPnStopPatience fpPnPlateau fpPnPlateauPatience fpPnPlateauCooldown fpPnKeep fpPnKeepMax fpPnKeepCount fpPnEma fpPnEmaOn fpPnStopAt fpPnCutAt fpPnKeepAt fpPnSwaFrom fpPnSwaEvery fpSsStep fpSsStatus fpSsEnded fpSsStop fpSsCut fpSsCutWatch fpSsCutWatchBad fpSsCutRest fpSsKept fpSsEma fpSsSwa fpSsSwaCount fpSsSwaSums fpWtHas fpWtBad mk0Wt niWt niCt rowsI_len rowsKt_len
def Ss.fit (s : Ss) : Prop := 0 ≤ s.step ∧ s.step ≤ 2000000 ∧ s.kept.length ≤ 1000000 ∧ s.ema.length ≤ 1000000 ∧ s.swa.sums.length ≤ 1000000
instance (s : Ss) : Decidable s.fit := by unfold Ss.fit; exact inferInstance
def takenV (s : Ss) : Int := if s.status = 3 then IntKind.i64.wrap (s.step - 1) else s.step
def takenVG : List AV → Mem → Option (AV × Mem)
 | [.agg ss], m =>
  match unSs ss with
  | some s => some (.v (.int .i64 (takenV s)), m)
  | _ => none
 | _, _ => none
theorem takenV_eq (s : Ss) (m : Mem) : takenVG [.agg s.row] m = some (.v (.int .i64 (takenV s)), m) := by
 simp only [takenVG, unSs_row]
def kpTaken : Nat → Option (List Nat) := fun
 | 0 => some [1]
 | 1 => some [1, 5]
 | 2 => some [2]
 | 3 => some [2]
 | _ => none
attribute [go_sem] kpTaken
theorem takenV_ok : FunOk Tryz.prog 90 takenVG := by
 have hC := table_ok (P := Tryz.prog) (l := []) table_nil
 refine fun_ok mixed hC Tryz.func90 rfl kpTaken false rfl fun args m r h => ?_
 unfold takenVG at h
 split at h
 ·rename_i ss
  split at h
  ·rename_i s hs0
   obtain rfl := unSs_some hs0
   simp only [Option.some.injEq] at h
   subst h
   refine ⟨Nat.le_of_ble_eq_true rfl, ?_⟩
   refine en ?_
   have vs : (m.push s.row).var m.vars.length = some s.row := push_var
   have n1 := newSs (m := m) (x := s)
   have hA := above_push (cs := s.row) (above_self m)
   refine go1 @n1 ?_
   generalize m.push s.row = m2 at vs hA
   generalize m.vars.length = rs at vs
   have k1 : (!true) = false := rfl
   have k2 : (!false) = true := rfl
   have l1 := lpSsStatus vs
   have l2 := lpSsStep vs
   unfold takenV
   refine go1 @l1 ?_
   by_cases hz : s.status = 3
   ·rw [if_pos hz]
    refine runs_cond rfl (fun hc => ?_) (fun hc => absurd hc (by rw [hz]; decide))
    refine go1 @l2 ?_
    exact leaves_fin rfl rfl (above_fin hA)
   ·rw [if_neg hz]
    refine runs_cond rfl (fun hc => absurd (eq_of_beq hc) hz) (fun hc => ?_)
    refine go1 @l2 ?_
    exact leaves_fin rfl rfl (above_fin hA)
  ·cases h
 ·cases h
def sumsV (p : Pn) (n : Int) : Int := if p.swaEvery < 1 ∨ p.swaFrom < 0 ∨ n ≤ p.swaFrom then 0 else IntKind.i64.wrap (IntKind.i64.wrap ((IntKind.i64.wrap (IntKind.i64.wrap (n - 1) - p.swaFrom)).tdiv p.swaEvery) + 1)
def sumsVG : List AV → Mem → Option (AV × Mem)
 | [.agg ps, .v (.int .i64 n)], m =>
  match unPn ps with
  | some p => some (.v (.int .i64 (sumsV p n)), m)
  | _ => none
 | _, _ => none
theorem sumsV_eq (p : Pn) (n : Int) (m : Mem) : sumsVG [.agg p.row, .v (.int .i64 n)] m = some (.v (.int .i64 (sumsV p n)), m) := by
 simp only [sumsVG, unPn_row]
def kpSums : Nat → Option (List Nat) := fun
 | 0 => some [1, 2]
 | 1 => some [1, 2, 18]
 | 2 => some [4]
 | 3 => some [4]
 | _ => none
attribute [go_sem] kpSums
theorem sumsV_ok : FunOk Tryz.prog 91 sumsVG := by
 have hC := table_ok (P := Tryz.prog) (l := []) table_nil
 refine fun_ok mixed hC Tryz.func91 rfl kpSums false rfl fun args m r h => ?_
 unfold sumsVG at h
 split at h
 ·rename_i ps n
  split at h
  ·rename_i p hp0
   obtain rfl := unPn_some hp0
   simp only [Option.some.injEq] at h
   subst h
   refine ⟨Nat.le_of_ble_eq_true rfl, ?_⟩
   refine en ?_
   have vp : (m.push p.row).var m.vars.length = some p.row := push_var
   have n1 := newPn (m := m) (x := p)
   have hA := above_push (cs := p.row) (above_self m)
   refine go1 @n1 ?_
   generalize m.push p.row = m2 at vp hA
   generalize m.vars.length = rp at vp
   have k1 : (!true) = false := rfl
   have k2 : (!false) = true := rfl
   have l1 := lpPnSwaEvery vp
   have l2 := lpPnSwaFrom vp
   unfold sumsV
   by_cases h1 : p.swaEvery < 1
   ·have q1 : decide (p.swaEvery < 1) = true := decide_eq_true h1
    refine go1 (jn @l1 @q1) ?_
    refine runs_cond rfl (fun hc => ?_) (fun hc => by cases hc)
    refine go0 ?_
    rw [if_pos (.inl h1)]
    exact leaves_fin rfl rfl (above_fin hA)
   ·have q1 : decide (p.swaEvery < 1) = false := decide_eq_false h1
    by_cases h2 : p.swaFrom < 0
    ·have q2 : decide (p.swaFrom < 0) = true := decide_eq_true h2
     refine go1 (jn @l1 (jn @q1 (jn @l2 @q2))) ?_
     refine runs_cond rfl (fun hc => ?_) (fun hc => by cases hc)
     refine go0 ?_
     rw [if_pos (.inr (.inl h2))]
     exact leaves_fin rfl rfl (above_fin hA)
    ·have q2 : decide (p.swaFrom < 0) = false := decide_eq_false h2
     by_cases h3 : n ≤ p.swaFrom
     ·have q3 : decide (n ≤ p.swaFrom) = true := decide_eq_true h3
      refine go1 (jn @l1 (jn @q1 (jn @l2 (jn @q2 @q3)))) ?_
      refine runs_cond rfl (fun hc => ?_) (fun hc => by cases hc)
      refine go0 ?_
      rw [if_pos (.inr (.inr h3))]
      exact leaves_fin rfl rfl (above_fin hA)
     ·have q3 : decide (n ≤ p.swaFrom) = false := decide_eq_false h3
      refine go1 (jn @l1 (jn @q1 (jn @l2 (jn @q2 @q3)))) ?_
      refine runs_cond rfl (fun hc => by cases hc) (fun hc => ?_)
      have hz : (p.swaEvery = 0) = False := eq_false (by omega)
      refine go1 (jn @l1 (jn @l2 @hz)) ?_
      rw [if_neg (by omega)]
      exact leaves_fin rfl rfl (above_fin hA)
  ·cases h
 ·cases h
def failedB (p : Pn) (s : Ss) : Bool := decide (p.swaEvery > 0) && decide (IntKind.i64.wrap (s.step - 1) > p.swaFrom) && ((IntKind.i64.wrap (IntKind.i64.wrap (s.step - 1) - p.swaFrom)).tmod p.swaEvery == 0)
def failedBG : List AV → Mem → Option (AV × Mem)
 | [.agg ps, .agg ss], m =>
  match unPn ps, unSs ss with
  | some p, some s => some (.v (.bool (failedB p s)), m)
  | _, _ => none
 | _, _ => none
theorem failedB_eq (p : Pn) (s : Ss) (m : Mem) : failedBG [.agg p.row, .agg s.row] m = some (.v (.bool (failedB p s)), m) := by
 simp only [failedBG, unPn_row, unSs_row]
def kpFailed : Nat → Option (List Nat) := fun
 | 0 => some [2, 3]
 | 1 => some [2, 5]
 | 2 => some [4]
 | _ => none
attribute [go_sem] kpFailed
theorem failedB_ok : FunOk Tryz.prog 83 failedBG := by
 have hC := table_ok (P := Tryz.prog) (l := []) table_nil
 refine fun_ok mixed hC Tryz.func83 rfl kpFailed false rfl fun args m r h => ?_
 unfold failedBG at h
 split at h
 ·rename_i ps ss
  split at h
  ·rename_i p s hp0 hs0
   obtain rfl := unPn_some hp0
   obtain rfl := unSs_some hs0
   simp only [Option.some.injEq] at h
   subst h
   refine ⟨Nat.le_of_ble_eq_true rfl, ?_⟩
   refine en ?_
   have vp : ((m.push p.row).push s.row).var m.vars.length = some p.row := push_old push_var
   have vs : ((m.push p.row).push s.row).var (m.push p.row).vars.length = some s.row := push_var
   have n1 := newPn (m := m) (x := p)
   have n2 := newSs (m := m.push p.row) (x := s)
   have hA := above_push (cs := s.row) (above_push (cs := p.row) (above_self m))
   refine go1 (jn @n1 @n2) ?_
   generalize (m.push p.row).push s.row = m2 at vp vs hA
   generalize (m.push p.row).vars.length = rs at vs
   generalize m.vars.length = rp at vp
   have k1 : (!true) = false := rfl
   have k2 : (!false) = true := rfl
   have l1 := lpPnSwaEvery vp
   have l2 := lpPnSwaFrom vp
   have l3 := lpSsStep vs
   unfold failedB
   cases h1 : decide (p.swaEvery > 0) with
   | false =>
    refine go1 (jn @l3 (jn @l1 @h1)) ?_
    exact leaves_fin rfl rfl (above_fin hA)
   | true =>
    have hz : (p.swaEvery = 0) = False := eq_false (by have := of_decide_eq_true h1; omega)
    cases h2 : decide (IntKind.i64.wrap (s.step - 1) > p.swaFrom) with
    | false =>
     refine go1 (jn @l3 (jn @l1 (jn @h1 (jn @l2 @h2)))) ?_
     exact leaves_fin rfl rfl (above_fin hA)
    | true =>
     refine go1 (jn @l3 (jn @l1 (jn @h1 (jn @l2 (jn @h2 @hz))))) ?_
     exact leaves_fin rfl rfl (above_fin hA)
  ·cases h
 ·cases h
def watchB (w : Wt) (n : Int) : Bool := if w.has = true then inB w.bad 0 (mn (IntKind.i64.wrap (n - 1)) 1099511627776) else wt0B w
def watchBG : List AV → Mem → Option (AV × Mem)
 | [.agg ws, .v (.int .i64 n)], m =>
  match unWt ws with
  | some w => some (.v (.bool (watchB w n)), m)
  | _ => none
 | _, _ => none
theorem watchB_eq (w : Wt) (n : Int) (m : Mem) : watchBG [.agg w.row, .v (.int .i64 n)] m = some (.v (.bool (watchB w n)), m) := by
 simp only [watchBG, unWt_row]
def kpWatch : Nat → Option (List Nat) := fun
 | 0 => some [1, 2]
 | 1 => some [1, 2, 7]
 | 2 => some [4]
 | 3 => some [4]
 | _ => none
attribute [go_sem] kpWatch
def tab_watchB_ok : List (FuncId × (List AV → Mem → Option (AV × Mem))) := [(82, inBG)]
theorem watchB_ok : FunOk Tryz.prog 84 watchBG := by
 have hC := table_ok (P := Tryz.prog) (l := tab_watchB_ok) (table_more stateIn_ok table_nil)
 have t1 := fun args mm => table_at (l := tab_watchB_ok) (f := 82) (args := args) (m := mm) rfl
 refine fun_ok mixed hC Tryz.func84 rfl kpWatch false rfl fun args m r h => ?_
 unfold watchBG at h
 split at h
 ·rename_i ws n
  split at h
  ·rename_i w hw0
   obtain rfl := unWt_some hw0
   simp only [Option.some.injEq] at h
   subst h
   refine ⟨Nat.le_of_ble_eq_true rfl, ?_⟩
   refine en ?_
   have vw : (m.push w.row).var m.vars.length = some w.row := push_var
   have n1 := newWt (m := m) (x := w)
   have hA := above_push (cs := w.row) (above_self m)
   refine go1 @n1 ?_
   generalize m.push w.row = m2 at vw hA
   generalize m.vars.length = rw at vw
   have k1 : (!true) = false := rfl
   have k2 : (!false) = true := rfl
   have l1 := lpWtHas vw
   have l2 := vrWt vw
   have l3 := lpWtBad vw
   have c1 := inB_eq w.bad 0 (mn (IntKind.i64.wrap (n - 1)) 1099511627776)
   have e1 : eqTy Tryz.prog 8 38 (.agg w.row) (.agg zeroWt) = some (wt0B w) := eqWt (x := w) (y := wt0)
   unfold watchB
   cases hh : w.has with
   | false =>
    rw [hh] at l1
    refine go1 (jn @l1 @k2) ?_
    refine runs_cond rfl (fun hc => ?_) (fun hc => by cases hc)
    refine go1 (jn @l2 @e1) ?_
    rw [if_neg (by decide)]
    exact leaves_fin rfl rfl (above_fin hA)
   | true =>
    rw [hh] at l1
    refine go1 (jn @l1 @k1) ?_
    refine runs_cond rfl (fun hc => by cases hc) (fun hc => ?_)
    refine go1 (jn @l3 (jn @t1 @c1)) ?_
    rw [if_pos rfl]
    exact leaves_fin rfl rfl (above_fin hA)
  ·cases h
 ·cases h
def longV (p : Pn) (b : Bool) : Int := if b = true then p.weights else 0
def longVG : List AV → Mem → Option (AV × Mem)
 | [.agg ps, .v (.bool b)], m =>
  match unPn ps with
  | some p => some (.v (.int .i64 (longV p b)), m)
  | _ => none
 | _, _ => none
theorem longV_eq (p : Pn) (b : Bool) (m : Mem) : longVG [.agg p.row, .v (.bool b)] m = some (.v (.int .i64 (longV p b)), m) := by
 simp only [longVG, unPn_row]
def kpLong : Nat → Option (List Nat) := fun
 | 0 => some [1, 2]
 | 1 => some [2, 5]
 | 2 => some [4]
 | 3 => some [4]
 | _ => none
attribute [go_sem] kpLong
theorem longV_ok : FunOk Tryz.prog 92 longVG := by
 have hC := table_ok (P := Tryz.prog) (l := []) table_nil
 refine fun_ok mixed hC Tryz.func92 rfl kpLong false rfl fun args m r h => ?_
 unfold longVG at h
 split at h
 ·rename_i ps b
  split at h
  ·rename_i p hp0
   obtain rfl := unPn_some hp0
   simp only [Option.some.injEq] at h
   subst h
   refine ⟨Nat.le_of_ble_eq_true rfl, ?_⟩
   refine en ?_
   have vp : (m.push p.row).var m.vars.length = some p.row := push_var
   have n1 := newPn (m := m) (x := p)
   have hA := above_push (cs := p.row) (above_self m)
   refine go1 @n1 ?_
   generalize m.push p.row = m2 at vp hA
   generalize m.vars.length = rp at vp
   have k1 : (!true) = false := rfl
   have k2 : (!false) = true := rfl
   have l1 := lpPnWeights vp
   unfold longV
   refine go0 ?_
   cases b with
   | false =>
    refine runs_cond rfl (fun hc => by cases hc) (fun hc => ?_)
    refine go0 ?_
    rw [if_neg (by decide)]
    exact leaves_fin rfl rfl (above_fin hA)
   | true =>
    refine runs_cond rfl (fun hc => ?_) (fun hc => by cases hc)
    refine go1 @l1 ?_
    rw [if_pos rfl]
    exact leaves_fin rfl rfl (above_fin hA)
  ·cases h
 ·cases h
def looksV (p : Pn) (s : Ss) : Int := if p.eval = 0 then 0 else IntKind.i64.wrap ((takenV s).tdiv p.eval)
def looksVG : List AV → Mem → Option (AV × Mem)
 | [.agg ps, .agg ss], m =>
  match unPn ps, unSs ss with
  | some p, some s => some (.v (.int .i64 (looksV p s)), m)
  | _, _ => none
 | _, _ => none
theorem looksV_eq (p : Pn) (s : Ss) (m : Mem) : looksVG [.agg p.row, .agg s.row] m = some (.v (.int .i64 (looksV p s)), m) := by
 simp only [looksVG, unPn_row, unSs_row]
def kpLooks : Nat → Option (List Nat) := fun
 | 0 => some [2, 3]
 | 1 => some [2, 3, 7]
 | 2 => some [4]
 | 3 => some [4]
 | _ => none
attribute [go_sem] kpLooks
def tab_looksV : List (FuncId × (List AV → Mem → Option (AV × Mem))) := [(90, takenVG)]
theorem looksV_ok : FunOk Tryz.prog 85 looksVG := by
 have hC := table_ok (P := Tryz.prog) (l := tab_looksV) (table_more takenV_ok table_nil)
 have t1 := fun args mm => table_at (l := tab_looksV) (f := 90) (args := args) (m := mm) rfl
 refine fun_okX Tryz.func85 rfl false rfl fun args m r h => ?_
 unfold looksVG at h
 split at h
 ·rename_i ps ss
  split at h
  ·rename_i p s hp0 hs0
   obtain rfl := unPn_some hp0
   obtain rfl := unSs_some hs0
   simp only [Option.some.injEq] at h
   subst h
   refine ⟨Nat.le_of_ble_eq_true rfl, fun φ wd => ?_⟩
   refine en ?_
   have vp : ((m.push p.row).push s.row).var m.vars.length = some p.row := push_old push_var
   have vs : ((m.push p.row).push s.row).var (m.push p.row).vars.length = some s.row := push_var
   have n1 := newPn (m := m) (x := p)
   have n2 := newSs (m := m.push p.row) (x := s)
   have hA := above_push (cs := s.row) (above_push (cs := p.row) (above_self m))
   refine xq ?_
   refine x_region (kp := kpLooks) mixed hC ?_
   refine go1 (jn @n1 @n2) ?_
   refine xq ?_
   generalize (m.push p.row).push s.row = m2 at vp vs hA
   generalize (m.push p.row).vars.length = rs at vs
   generalize m.vars.length = rp at vp
   have k1 : (!true) = false := rfl
   have k2 : (!false) = true := rfl
   have l1 := lpPnEval vp
   have l2 := vrSs vs
   have c1 := takenV_eq s
   unfold looksV
   refine x_region (kp := kpLooks) mixed hC ?_
   refine go1 @l1 ?_
   refine xq ?_
   by_cases hz : p.eval = 0
   ·rw [if_pos hz]
    refine x_cond rfl (fun hc => ?_) (fun hc => absurd hc (by rw [hz]; decide))
    refine xq ?_
    refine x_region (kp := kpLooks) mixed hC ?_
    refine go0 ?_
    refine xq ?_
    exact x_leaves (leaves_fin rfl rfl (above_fin hA))
   ·rw [if_neg hz]
    refine x_cond rfl (fun hc => absurd (eq_of_beq hc) hz) (fun hc => ?_)
    have hz0 : (p.eval = 0) = False := eq_false hz
    refine xq ?_
    refine x_walk0 (l2 := kpLooks 3) mixed hC (by kernel_rfl) ?_
    refine gof1 (jn @l2 (jn @t1 (jn @c1 (jn @l1 @hz0)))) ?_
    refine xq ?_
    exact x_leaves (leaves_fin rfl rfl (above_fin hA))
  ·cases h
 ·cases h
end
end Go.Proofs.YtmockbddhhmmeaaGreat.Ev
