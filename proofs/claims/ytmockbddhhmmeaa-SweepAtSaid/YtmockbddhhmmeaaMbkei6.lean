/- The document's variant. -/
import Derived.Test.YtmockbddhhmmeaaMbkei5
import Derived.Test.YtmockbddhhmmeaaMa8
import Derived.Test.YtmockbddhhmmeaaMbkei1
namespace Go.Proofs.Ytmockbddhhmmeaa.Ev
open Go Go.Proofs
set_option maxRecDepth 10000
set_option maxHeartbeats 8000000
set_option linter.unusedVariables false
set_option linter.unusedSimpArgs false
noncomputable section
attribute [local irreducible] Next Inside Runs Ops table
attribute [local go_sem] szStr szInt Option.getD_some isNil evStr iv loadInt mapRc cellsRc newRc zrRc zoRc znRc zrPh zoPh znPh zsPh zrGs zoGs znGs zsGs rowsPh_len rowsGs_len rowsN_len fpRcPhases fePhSets lePhSets feGsNodes leGsNodes ldPh ldGs fpPhSets fpGsNodes szPh5 szGs3
theorem nodesTo_eq {l : List Ax} {c : List Int} {i j : Nat} {L : List Nd} : ∀ (k : Nat), (∀ n, n < k → hitB i j (l.getD n ax0) = true → 0 ≤ (l.getD n ax0).atNode ∧ (l.getD n ax0).atNode < (L.length : Int) ∧ 0 ≤ (l.getD n ax0).atField ∧ (l.getD n ax0).atField ≤ 2) →
  nodesTo l c i j L k = nodesS (lastV l c k) i j L
 | 0, _ => by show L = nodesS (fun _ => none) i j L; rw [nodesS_none]
 | k + 1, h => by
  have ih := nodesTo_eq (l := l) (c := c) (i := i) (j := j) (L := L) k fun n hn => h n (by omega)
  show putAx i j (l.getD k ax0) (valC l c k) (nodesTo l c i j L k) = nodesS (updS (lastV l c k) (l.getD k ax0).pl (valC l c k)) i j L
  rw [ih]
  have h9 := h k (Nat.lt_succ_self k)
  generalize valC l c k = v
  generalize l.getD k ax0 = x at h9 ⊢
  unfold putAx
  by_cases hh : hitB i j x = true
  ·rw [if_pos hh]
   obtain ⟨a1, a2, a3, a4⟩ := h9 hh
   obtain ⟨d, hd⟩ := Int.eq_ofNat_of_zero_le a1
   unfold hitB at hh
   simp only [Bool.and_eq_true, beq_iff_eq] at hh
   rw [nodesS_hit (p := x.pl) (v := v) hh.1 hh.2 hd ⟨a3, a4⟩ (by omega), hd]
   rfl
  ·rw [if_neg hh, nodesS_miss (p := x.pl)]
   rintro ⟨e1, e2⟩
   apply hh
   unfold hitB
   simp only [Bool.and_eq_true, beq_iff_eq]
   exact ⟨e1, e2⟩
theorem lpWph {m : Mem} {r : Nat} {x : Ph} {a : AV} (hv : m.var r = some (x.rowW a)) : evLoad Try.prog m 64 (.ptr r 4) = some a := by
 unfold evLoad
 simp only [ptrCells, hv, Option.map_some, szSl1, aggSl1]
 rfl
theorem vrWph {m : Mem} {r : Nat} {x : Ph} {a : AV} (hv : m.var r = some (x.rowW a)) : evLoad Try.prog m 66 (.ptr r 0) = some (.agg (x.rowW a)) := by
 unfold evLoad
 simp only [ptrCells, hv, Option.map_some, szPh5, aggPh]
 rfl
theorem mkWph {x : Ph} {g : Grow} {l : List Gs} : evBuildSlice Try.prog 23 1 [(0, .agg (x.rowW (.lst g 3 (rowsGs l))))] = some (.lst .full 5 [({ x with sets := l } : Ph).row]) := build_one appPh (by decide) rfl rfl
theorem take_snoc {α : Type} {l : List α} {d : α} {i : Nat} (hi : i < l.length) : l.take (i + 1) = l.take i ++ [l.getD i d] := by
 rw [List.take_add_one, List.getElem?_eq_getElem hi, List.getD, List.getElem?_eq_getElem hi]
 rfl
open Classical in
def rdocG : List AV → Mem → Option (AV × Mem)
 | [.agg cs, .lst _ 5 rows, .lst _ 1 rows2], m =>
  match unRc cs, unsAx rows, unJ rows2 with
  | some R, some l, some c => if R.small ∧ chosen l c ∧ ∀ n, n < l.length → thereB R (l.getD n ax0).pl = true then some (.agg ({ R with phases := docS (lastV l c l.length) R.phases } : Rc).row, m) else none
  | _, _, _ => none
 | _, _ => none
def rdocPre (args : List AV) (_ : Mem) : Prop := ∃ (R : Rc) (g g2 : Grow) (l : List Ax) (c : List Int), args = [.agg R.row, .lst g 5 (rowsAx l), .lst g2 1 (rowsI c)] ∧ R.small ∧ chosen l c ∧ ∀ n, n < l.length → thereB R (l.getD n ax0).pl = true
def rdocPost (args : List AV) (m : Mem) (r : AV) (m' : Mem) (F : Objs) : Prop := ∀ (R : Rc) (g g2 : Grow) (l : List Ax) (c : List Int), args = [.agg R.row, .lst g 5 (rowsAx l), .lst g2 1 (rowsI c)] →
 m' = m ∧ Fz F r (.agg ({ R with phases := docS (lastV l c l.length) R.phases } : Rc).row)
theorem rpost_of {R : Rc} {g g2 : Grow} {l : List Ax} {c : List Int} {m m' : Mem} {r : AV} {F : Objs} (h : m' = m ∧ Fz F r (.agg ({ R with phases := docS (lastV l c l.length) R.phases } : Rc).row)) : rdocPost [.agg R.row, .lst g 5 (rowsAx l), .lst g2 1 (rowsI c)] m r m' F := by
 intro R2 h2 h3 l2 c2 e
 obtain rfl : R = R2 := by
  injection e with e _
  injection e with e
  have := congrArg unRc e
  rw [unRc_row, unRc_row] at this
  injection this
 obtain rfl : l = l2 := by
  injection e with _ e
  injection e with e _
  injection e with _ _ e
  have := congrArg unsAx e
  rw [unsAx_rowsAx, unsAx_rowsAx] at this
  injection this
 obtain rfl : c = c2 := by
  injection e with _ e
  injection e with _ e
  injection e with e _
  injection e with _ _ e
  have := congrArg unJ e
  rw [unJ_rowsI, unJ_rowsI] at this
  injection this
 exact h
theorem mk1Ph {x : Ph} : evBuildSlice Try.prog 23 1 [(0, .agg x.row)] = some (.lst .full 5 [x.row]) := build_one appPh (by decide) rfl rfl
attribute [local go_sem] mk1Ph
theorem mk1Gs {x : Gs} : evBuildSlice Try.prog 64 1 [(0, .agg x.row)] = some (.lst .full 3 [x.row]) := build_one appGs (by decide) rfl rfl
attribute [local go_sem] mk1Gs
/-! ### lists that grow in variables -/
def tokOk (m0 m : Mem) (g : Grow) : Prop := g = .full ∨ ∃ id v, g = .tok id v ∧ m0.toks.length ≤ id ∧ m.toks[id]? = some v
def tokId : Grow → Option Nat
 | .tok id _ => some id
 | _ => none
def AboveT (m0 m : Mem) : Prop := ∃ L T, m = { vars := m0.vars ++ L, toks := m0.toks ++ T }
theorem aboveT_of {m0 m : Mem} (h : Above m0 m) : AboveT m0 m := by
 obtain ⟨L, rfl⟩ := h
 exact ⟨L, [], by simp⟩
theorem aboveT_push {m0 m : Mem} {cs : List AV} (h : AboveT m0 m) : AboveT m0 (m.push cs) := by
 obtain ⟨L, T, rfl⟩ := h
 exact ⟨L ++ [some cs], T, by simp [Mem.push]⟩
theorem aboveT_setv {m0 m : Mem} {q : Nat} {cs : List AV} (h : AboveT m0 m) (hq : m0.vars.length ≤ q) : AboveT m0 (setv m q cs) := by
 obtain ⟨L, T, rfl⟩ := h
 refine ⟨L.set (q - m0.vars.length) (some cs), T, ?_⟩
 unfold setv
 simp only [List.set_append_right _ _ hq]
theorem aboveT_fin {m0 m : Mem} (h : AboveT m0 m) : finMem m0 m = m0 := by
 obtain ⟨L, T, rfl⟩ := h
 unfold finMem
 rw [if_pos (by simp)]
 simp
theorem tokOk_push {m0 m : Mem} {g : Grow} {cs : List AV} (h : tokOk m0 m g) : tokOk m0 (m.push cs) g := h
theorem app_live {P : Program} {t t2 : TypeId} {k : Nat} (ha : appB P t t2 k = true) {m0 m : Mem} {g g2 : Grow} {x y : AV} {xs ys : List (List AV)} (hg : tokOk m0 m g) (hA : AboveT m0 m) (hx : asList k x = some (g, xs)) (hy : asList k y = some (g2, ys)) (hl : xs.length + ys.length ≤ lim) :
  ∃ g' m2, evAppend P t t2 m x y = some (.lst g' k (xs ++ ys), m2) ∧ tokOk m0 m2 g' ∧ AboveT m0 m2 ∧ (∀ q, m2.var q = m.var q) ∧ m2.vars.length = m.vars.length ∧ ∀ g9, tokOk m0 m g9 → (∀ id, tokId g9 = some id → tokId g ≠ some id) → tokOk m0 m2 g9 ∧ ∀ id, tokId g9 = some id → tokId g' ≠ some id := by
 obtain ⟨L, T, rfl⟩ := hA
 rcases hg with rfl | ⟨id, v, rfl, h1, h2⟩
 ·refine ⟨_, _, app_of ha hx hy hl, .inr ⟨_, 0, rfl, by simp, by simp⟩, ⟨L, T ++ [0], by simp⟩, fun q => rfl, rfl, fun g9 h9 _ => ⟨?_, ?_⟩⟩
  ·rcases h9 with rfl | ⟨i9, v9, rfl, e1, e2⟩
   ·exact .inl rfl
   ·exact .inr ⟨i9, v9, rfl, e1, by
     have hlt := (List.getElem?_eq_some_iff.1 e2).1
     rw [List.getElem?_append_left hlt]
     exact e2⟩
  ·rcases h9 with rfl | ⟨i9, v9, rfl, e1, e2⟩
   ·intro id h; cases h
   ·intro id h e
    cases h
    have hlt := (List.getElem?_eq_some_iff.1 e2).1
    injection e with e
    rw [← e] at hlt
    exact Nat.lt_irrefl _ hlt
 ·have happ := app_of (m := { vars := m0.vars ++ L, toks := m0.toks ++ T }) ha hx hy hl
  dsimp only at happ
  rw [if_pos h2] at happ
  have hlt := (List.getElem?_eq_some_iff.1 h2).1
  refine ⟨_, _, happ, .inr ⟨id, v + 1, rfl, h1, by rw [List.getElem?_set_self hlt]⟩, ⟨L, T.set (id - m0.toks.length) (v + 1), by rw [List.set_append_right _ _ h1]⟩, fun q => rfl, rfl, fun g9 h9 hne => ⟨?_, ?_⟩⟩
  ·rcases h9 with rfl | ⟨i9, v9, rfl, e1, e2⟩
   ·exact .inl rfl
   ·refine .inr ⟨i9, v9, rfl, e1, ?_⟩
    have : id ≠ i9 := fun e => hne i9 rfl (by rw [e]; rfl)
    rw [List.getElem?_set_ne this]
    exact e2
  ·intro i9 h e
   exact hne i9 h e
def kpRdoc : Nat → Option (List Nat) := fun
 | 0 => some [1, 2, 3, 6]
 | 1 => some [1, 2, 3, 6, 7]
 | 2 => some [1, 2, 3, 6, 7]
 | 3 => some [1, 2, 3, 6, 7, 8]
 | 4 => some [1, 2, 3, 6, 7, 8, 18]
 | 5 => some [1, 2, 3, 6, 7, 8]
 | 6 => some [1, 2, 3, 6, 7, 8, 9]
 | 7 => some [1, 2, 3, 6, 7, 8, 9]
 | 8 => some [1, 2, 3, 6, 7, 8, 9, 10]
 | 9 => some [1, 2, 3, 6, 7, 8, 9, 10, 35]
 | 10 => some [1, 2, 3, 6, 7, 8, 9, 10]
 | 11 => some [1, 2, 3, 6, 7, 8, 9, 10, 11]
 | 12 => some [1, 2, 3, 6, 7, 8, 9, 10, 11]
 | 13 => some [1, 2, 3, 6, 7, 8, 9, 10]
 | 14 => some [1, 2, 3, 6, 7, 8]
 | 15 => some [6]
 | _ => none
attribute [go_sem] kpRdoc
def tabRdoc : List (FuncId × (List AV → Mem → Option (AV × Mem))) := [(25, nodesG)]
theorem rdocF_ok : FunOkF Try.prog 15 rdocPre rdocPost := by
 have hC := table_ok (P := Try.prog) (l := tabRdoc) (table_more nodes_ok table_nil)
 have t1 := fun args mm => table_at (l := tabRdoc) (f := 25) (args := args) (m := mm) rfl
 refine fun_okF Try.func15 rfl rfl fun args m h => ?_
 obtain ⟨R, g, g2, l, c, rfl, hsm, hch, hth⟩ := h
 refine ⟨Nat.le_of_ble_eq_true rfl, fun φ w => ?_⟩
 refine en ?_
 refine x_lift (kp := kpRdoc) mixed hC ?_
 have hA := above_push (cs := zeroRc) (above_push (cs := R.row) (above_self m))
 have v3 : ((m.push R.row).push zeroRc).var m.vars.length = some R.row := push_old push_var
 have v6 : ((m.push R.row).push zeroRc).var (m.push R.row).vars.length = some zeroRc := push_var
 have hge : m.vars.length ≤ (m.push R.row).vars.length := by rw [push_len]; omega
 have nr := newRc (m := m) (x := R)
 have zr := znRc (m := m.push R.row)
 generalize (m.push R.row).push zeroRc = m2 at hA v3 v6 zr
 refine go1 (jn @nr @zr) ?_
 generalize (m.push R.row).vars.length = r6 at v6 hge ⊢
 generalize hr3 : m.vars.length = r3 at v3 ⊢
 have l1 := vrRc v3
 have zs1 : evStore Try.prog (m2.push zeroRc) 37 (.ptr m2.vars.length 0) (.agg R.row) = some (m2.push R.row) := zsRc
 have st1 : evStore Try.prog (m2.push R.row) 23 (.ptr m2.vars.length 7) (.lst .full 5 []) = some (m2.push (R.rowW (.lst .full 5 []))) := by
  rw [store_cell (old := R.row) push_var (by show 7 < 32; decide) szSl3 rfl rfl, setv_push]
  rfl
 have u23 : Try.prog.underlying 23 = some (.slice 66) := Try.underlying23
 refine go1 (jn @l1 (jn @zs1 (jn @st1 @u23))) ?_
 have w3 := push_old (cs' := R.rowW (.lst .full 5 [])) v3
 have w6 := push_old (cs' := R.rowW (.lst .full 5 [])) v6
 have w7 : (m2.push (R.rowW (.lst .full 5 []))).var m2.vars.length = some (R.rowW (.lst .full 5 [])) := push_var
 have hA2 := aboveT_of (above_push (cs := R.rowW (.lst .full 5 [])) hA)
 generalize m2.push (R.rowW (.lst .full 5 [])) = m3 at w3 w6 w7 hA2
 have n37 : r3 ≠ m2.vars.length := Nat.ne_of_lt (var_lt v3).1
 have n67 : r6 ≠ m2.vars.length := Nat.ne_of_lt (var_lt v6).1
 have n07 : m.vars.length ≤ m2.vars.length := by obtain ⟨L, rfl⟩ := hA; simp
 generalize m2.vars.length = r7 at w7 n37 n67 n07 ⊢
 generalize hD : docS (lastV l c l.length) R.phases = D
 have hDl : D.length = R.phases.length := by rw [← hD, docS_len]
 refine runs_loop (fun k e m' => ∃ (i : Nat) (gr : Grow), i ≤ R.phases.length ∧ AboveT m m' ∧ tokOk m m' gr ∧ m'.var r3 = some R.row ∧ m'.var r6 = some zeroRc ∧ m'.var r7 = some (R.rowW (.lst gr 5 (rowsPh (D.take i)))) ∧ k = R.phases.length - i ∧
  e = [(1, AV.lst g 5 (rowsAx l)), (2, .lst g2 1 (rowsI c)), (3, .ptr r3 0), (6, .ptr r6 0), (7, .ptr r7 0), (8, .v (.int .i64 (i : Int)))]) (k := R.phases.length) ⟨0, .full, Nat.zero_le _, hA2, .inl rfl, w3, w6, w7, rfl, rfl⟩ ?_
 rintro k e m' ⟨i, gr, hi0, hA, hgr, v3, v6, v7, rfl, rfl⟩
 have l1 := lpRcPhases v3
 refine go1 @l1 ?_
 refine runs_cond rfl (fun hc => ?_) (fun hc => ?_)
 ·have hi1 : i < R.phases.length := by have := of_decide_eq_true hc; omega
  have g1 := atPh (g := .no) (kk := .i64) hi1
  have hsl : (setsOf R.phases i).length ≤ 1000000 := (hsm.2 _ (getD_in (d := ph0) hi1)).1
  have hPs : (R.phases.getD i ph0).sets = setsOf R.phases i := rfl
  have zs2 : evStore Try.prog (m'.push zeroPh) 66 (.ptr m'.vars.length 0) (.agg (R.phases.getD i ph0).row) = some (m'.push (R.phases.getD i ph0).row) := zsPh
  have st2 : evStore Try.prog (m'.push (R.phases.getD i ph0).row) 64 (.ptr m'.vars.length 4) (.lst .full 3 []) = some (m'.push ((R.phases.getD i ph0).rowW (.lst .full 3 []))) := by
   rw [store_cell (old := (R.phases.getD i ph0).row) push_var (by show 4 < 5; decide) szSl1 rfl rfl, setv_push]
   rfl
  have u64 : Try.prog.underlying 64 = some (.slice 69) := Try.underlying64
  refine go1 (jn @l1 (jn @g1 (jn @zs2 (jn @st2 @u64)))) ?_
  have x3 := push_old (cs' := (R.phases.getD i ph0).rowW (.lst .full 3 [])) v3
  have x6 := push_old (cs' := (R.phases.getD i ph0).rowW (.lst .full 3 [])) v6
  have x7 := push_old (cs' := (R.phases.getD i ph0).rowW (.lst .full 3 [])) v7
  have x9 : (m'.push ((R.phases.getD i ph0).rowW (.lst .full 3 []))).var m'.vars.length = some ((R.phases.getD i ph0).rowW (.lst .full 3 [])) := push_var
  have hA3 := aboveT_push (cs := (R.phases.getD i ph0).rowW (.lst .full 3 [])) hA
  have hg3 := tokOk_push (cs := (R.phases.getD i ph0).rowW (.lst .full 3 [])) hgr
  generalize m'.push ((R.phases.getD i ph0).rowW (.lst .full 3 [])) = m5 at x3 x6 x7 x9 hA3 hg3
  have n3 : r3 ≠ m'.vars.length := Nat.ne_of_lt (var_lt v3).1
  have n6 : r6 ≠ m'.vars.length := Nat.ne_of_lt (var_lt v6).1
  have n7 : r7 ≠ m'.vars.length := Nat.ne_of_lt (var_lt v7).1
  have n9 : m.vars.length ≤ m'.vars.length := by obtain ⟨L, T, rfl⟩ := hA; simp
  generalize m'.vars.length = r9 at x9 n3 n6 n7 n9 ⊢
  generalize hS : (setsOf R.phases i).mapIdx (fun j s => gsS (lastV l c l.length) i j s) = S
  have hSl : S.length = (setsOf R.phases i).length := by rw [← hS, List.length_mapIdx]
  refine runs_loop (fun k e m' => ∃ (j : Nat) (gs : Grow), j ≤ (setsOf R.phases i).length ∧ AboveT m m' ∧ tokOk m m' gr ∧ tokOk m m' gs ∧ (∀ id, tokId gr = some id → tokId gs ≠ some id) ∧ m'.var r3 = some R.row ∧ m'.var r6 = some zeroRc ∧ m'.var r7 = some (R.rowW (.lst gr 5 (rowsPh (D.take i)))) ∧ m'.var r9 = some ((R.phases.getD i ph0).rowW (.lst gs 3 (rowsGs (S.take j)))) ∧ k = (setsOf R.phases i).length - j ∧
   e = [(1, AV.lst g 5 (rowsAx l)), (2, .lst g2 1 (rowsI c)), (3, .ptr r3 0), (6, .ptr r6 0), (7, .ptr r7 0), (8, .v (.int .i64 (i : Int))), (9, .ptr r9 0), (10, .v (.int .i64 (j : Int)))]) (k := (setsOf R.phases i).length) ⟨0, .full, Nat.zero_le _, hA3, hg3, .inl rfl, (fun id _ e => by cases e), x3, x6, x7, x9, rfl, rfl⟩ ?_
  rintro k e m' ⟨j, gs, hj0, hA, hgr, hgs, hne, v3, v6, v7, v9, rfl, rfl⟩
  have l1 := lpRcPhases v3
  have u64 : Try.prog.underlying 64 = some (.slice 69) := Try.underlying64
  have lS : ∀ mm, evLoad Try.prog mm 64 (.eptr ((R.phases.getD i ph0).row.drop 4)) = some (.lst .no 3 (rowsGs (setsOf R.phases i))) := fun mm => lePhSets
  refine go1 (jn @l1 (jn @g1 @lS)) ?_
  refine runs_cond rfl (fun hc => ?_) (fun hc => ?_)
  ·have hj1 : j < (setsOf R.phases i).length := by have := of_decide_eq_true hc; omega
   have g3 := atGs (g := .no) (kk := .i64) (l := setsOf R.phases i) hj1
   have hnl : (nodesOf R.phases i j).length ≤ 1000000 := (hsm.2 _ (getD_in (d := ph0) hi1)).2 _ (getD_in (d := gs0) hj1)
   have hhit : ∀ n, n < l.length → hitB i j (l.getD n ax0) = true → 0 ≤ (l.getD n ax0).atNode ∧ (l.getD n ax0).atNode < ((nodesOf R.phases i j).length : Int) ∧ 0 ≤ (l.getD n ax0).atField ∧ (l.getD n ax0).atField ≤ 2 := fun n hn hh => by
    obtain ⟨a, b, d, ha, hb, hd, ha1, hb1, hd1, hf⟩ := there_nat (hth n hn)
    unfold hitB at hh
    simp only [Bool.and_eq_true, beq_iff_eq] at hh
    have e1 : (l.getD n ax0).atPhase = (a : Int) := ha
    have e2 : (l.getD n ax0).atSet = (b : Int) := hb
    have e3 : (l.getD n ax0).atNode = (d : Int) := hd
    obtain rfl : a = i := by omega
    obtain rfl : b = j := by omega
    exact ⟨by omega, by omega, hf⟩
   have f1 := fun mm => nodesG_eq (m := mm) (g := .no) (g2 := .no) (g3 := .no) (ph := i) (st := j) hnl hch fun n hn hh => ⟨(hhit n hn hh).1, (hhit n hn hh).2.1⟩
   rw [nodesTo_eq l.length hhit] at f1
   have hSj : S.getD j gs0 = gsS (lastV l c l.length) i j ((setsOf R.phases i).getD j gs0) := by
    rw [← hS]
    simp [List.getD, List.getElem?_mapIdx, List.getElem?_eq_getElem hj1]
   have zs3 : evStore Try.prog (m'.push zeroGs) 69 (.ptr m'.vars.length 0) (.agg ((setsOf R.phases i).getD j gs0).row) = some (m'.push ((setsOf R.phases i).getD j gs0).row) := zsGs
   have y11 : (m'.push ((setsOf R.phases i).getD j gs0).row).var m'.vars.length = some ((setsOf R.phases i).getD j gs0).row := push_var
   have l4 : evLoad Try.prog (m'.push ((setsOf R.phases i).getD j gs0).row) 67 (.ptr m'.vars.length 2) = some (.lst .no 7 (rowsN (nodesOf R.phases i j))) := lpGsNodes y11
   have st3 : evStore Try.prog (m'.push ((setsOf R.phases i).getD j gs0).row) 67 (.ptr m'.vars.length 2) (.lst .no 7 (rowsN (nodesS (lastV l c l.length) i j (nodesOf R.phases i j)))) = some (m'.push (S.getD j gs0).row) := by
    rw [store_cell (old := ((setsOf R.phases i).getD j gs0).row) push_var (by show 2 < 3; decide) szSl2 rfl rfl, setv_push, hSj]
    rfl
   refine go1 (jn @l1 (jn @g1 (jn @lS (jn @g3 (jn @zs3 (jn @l4 (jn @t1 (jn @f1 @st3)))))))) ?_
   have z3 := push_old (cs' := (S.getD j gs0).row) v3
   have z6 := push_old (cs' := (S.getD j gs0).row) v6
   have z7 := push_old (cs' := (S.getD j gs0).row) v7
   have z9 := push_old (cs' := (S.getD j gs0).row) v9
   have z11 : (m'.push (S.getD j gs0).row).var m'.vars.length = some (S.getD j gs0).row := push_var
   have hA4 := aboveT_push (cs := (S.getD j gs0).row) hA
   have hg4 := tokOk_push (cs := (S.getD j gs0).row) hgr
   have hs4 := tokOk_push (cs := (S.getD j gs0).row) hgs
   generalize m'.push (S.getD j gs0).row = m6 at z3 z6 z7 z9 z11 hA4 hg4 hs4 ⊢
   generalize m'.vars.length = r11 at z11 ⊢
   have l9 := lpWph z9
   have l11 := vrGs z11
   obtain ⟨gs', m8, happ, hs8, hA8, hv8, hl8, hkeep⟩ := app_live (t := 64) (t2 := 64) appGs hs4 hA4 (x := .lst gs 3 (rowsGs (S.take j))) (y := .lst .full 3 [(S.getD j gs0).row]) asList_lst asList_lst (by rw [rowsGs_len, List.length_take]; unfold lim; simp; omega)
   obtain ⟨hg8, hne8⟩ := hkeep gr hg4 hne
   have r6' := next_i64 (i := j) (by omega)
   have st4 : evStore Try.prog m8 64 (.ptr r9 4) (.lst gs' 3 (rowsGs (S.take j) ++ [(S.getD j gs0).row])) = some (setv m8 r9 ((R.phases.getD i ph0).rowW (.lst gs' 3 (rowsGs (S.take j) ++ [(S.getD j gs0).row])))) := by
    rw [store_cell (old := (R.phases.getD i ph0).rowW (.lst gs 3 (rowsGs (S.take j)))) (by rw [hv8]; exact z9) (by show 4 < 5; decide) szSl1 rfl rfl]
    rfl
   refine go1 (jn @l9 (jn @l11 (jn @happ (jn @st4 @r6')))) ?_
   have e9 : rowsGs (S.take j) ++ [(S.getD j gs0).row] = rowsGs (S.take (j + 1)) := by
    rw [take_snoc (d := gs0) (by omega)]
    exact rowsGs_app (S.take j) [S.getD j gs0]
   rw [e9]
   exact ⟨(setsOf R.phases i).length - (j + 1), by omega, j + 1, gs', hj1, aboveT_setv hA8 n9, hg8, hs8, hne8, setv_other (by rw [hv8]; exact z3) n3, setv_other (by rw [hv8]; exact z6) n6, setv_other (by rw [hv8]; exact z7) n7, setv_var (by rw [hv8]; exact z9), rfl, rfl⟩
  ·obtain rfl : j = (setsOf R.phases i).length := by have := of_decide_eq_false hc; omega
   rw [← hSl, List.take_length] at v9
   have l7 := lpW v7
   have l9 := vrWph v9
   have hDi : D.getD i ph0 = { R.phases.getD i ph0 with sets := S } := by
    rw [← hD, ← hS]
    simp [docS, List.getD, List.getElem?_mapIdx, List.getElem?_eq_getElem hi1, phS, setsOf]
   have mk := mkWph (x := R.phases.getD i ph0) (g := gs) (l := S)
   rw [← hDi] at mk
   obtain ⟨gr', m8, happ, hs8, hA8, hv8, hl8, _⟩ := app_live (t := 23) (t2 := 23) appPh hgr hA (x := .lst gr 5 (rowsPh (D.take i))) (y := .lst .full 5 [(D.getD i ph0).row]) asList_lst asList_lst (by rw [rowsPh_len, List.length_take]; have := hsm.1; unfold lim; simp; omega)
   have r6' := next_i64 (i := i) (by have := hsm.1; omega)
   have st4 : evStore Try.prog m8 23 (.ptr r7 7) (.lst gr' 5 (rowsPh (D.take i) ++ [(D.getD i ph0).row])) = some (setv m8 r7 (R.rowW (.lst gr' 5 (rowsPh (D.take i) ++ [(D.getD i ph0).row])))) := by
    rw [store_cell (old := R.rowW (.lst gr 5 (rowsPh (D.take i)))) (by rw [hv8]; exact v7) (by show 7 < 32; decide) szSl3 rfl rfl]
    rfl
   refine go1 (jn @l7 (jn @l9 (jn @mk (jn @happ (jn @st4 @r6'))))) ?_
   have e9 : rowsPh (D.take i) ++ [(D.getD i ph0).row] = rowsPh (D.take (i + 1)) := by
    rw [take_snoc (d := ph0) (by omega)]
    exact rowsPh_app (D.take i) [D.getD i ph0]
   rw [e9]
   exact ⟨R.phases.length - (i + 1), by omega, i + 1, gr', hi1, aboveT_setv hA8 n07, hs8, setv_other (by rw [hv8]; exact v3) n37, setv_other (by rw [hv8]; exact v6) n67, setv_var (by rw [hv8]; exact v7), rfl, rfl⟩
 ·obtain rfl : i = R.phases.length := by have := of_decide_eq_false hc; omega
  rw [← hDl, List.take_length] at v7
  have lw := vrW v7
  have st2 : evStore Try.prog m' 37 (.ptr r6 0) (.agg (R.rowW (.lst gr 5 (rowsPh D)))) = some (setv m' r6 (R.rowW (.lst gr 5 (rowsPh D)))) := store_whole v6 rfl rfl szRc rfl rfl
  have y1 : (setv m' r6 (R.rowW (.lst gr 5 (rowsPh D)))).var r6 = some (R.rowW (.lst gr 5 (rowsPh D))) := setv_var v6
  have hA9 := aboveT_setv (cs := R.rowW (.lst gr 5 (rowsPh D))) hA hge
  refine go1 (jn @lw @st2) ?_
  exact ⟨_, _, leaves_cell1 rfl (vrW y1) rfl (aboveT_fin hA9), rpost_of ⟨rfl, by rw [hD]; exact .same _⟩⟩
theorem rdoc_ok : FunOk Try.prog 15 rdocG := fun_of_F rdocF_ok fun args m r m' h => by
 unfold rdocG at h
 split at h
 ·rename_i cs g rows g2 rows2
  split at h
  ·rename_i R l c hR hl hc0
   obtain rfl := unRc_some hR
   obtain rfl := unsAx_some hl
   obtain rfl := unJ_some hc0
   split at h
   ·rename_i hyp
    simp only [Option.some.injEq, Prod.mk.injEq] at h
    obtain ⟨rfl, rfl⟩ := h
    exact ⟨⟨R, g, g2, l, c, rfl, hyp⟩, fun r1 m1 F hp => ⟨(hp R g g2 l c rfl).1, .inl (hp R g g2 l c rfl).2⟩⟩
   ·cases h
  ·cases h
 ·cases h
end
noncomputable section
attribute [local irreducible] Next Inside Runs Ops table
attribute [local go_sem] szStr szInt Option.getD_some isNil evStr iv loadInt loadStr rowsS_len rowsN_len ldNode
open Classical in
def textsG : List AV → Mem → Option (AV × Mem)
 | [.lst _ 1 rows, .lst _ 1 rows2], m =>
  match unS rows with
  | some l => if rows2 = rowsS l ∧ l.length ≤ 1000000 then some (.v (.bool true), m) else none
  | none => none
 | _, _ => none
def kpTexts : Nat → Option (List Nat) := fun
 | 0 => some [0, 1]
 | 1 => some [0, 1, 10]
 | 2 => some [4]
 | 3 => some [0, 1, 5]
 | 4 => some [0, 1, 5, 14]
 | 5 => some [0, 1, 5]
 | 6 => some [0, 1, 5, 25]
 | 7 => some [4]
 | 8 => some [4]
 | _ => none
attribute [go_sem] kpTexts
theorem texts_ok : FunOk Try.prog 23 textsG := by
 have hC := table_ok (P := Try.prog) (l := []) table_nil
 refine fun_ok mixed hC Try.func23 rfl kpTexts false rfl fun args m r h => ?_
 unfold textsG at h
 split at h
 ·rename_i g rows g2 rows2
  split at h
  ·rename_i l hl
   obtain rfl := unS_some hl
   split at h
   ·rename_i hyp
    obtain ⟨rfl, hlen⟩ := hyp
    simp only [Option.some.injEq] at h
    subst h
    refine ⟨Nat.le_of_ble_eq_true rfl, ?_⟩
    refine en ?_
    have b0 : (((l.length : Nat) : Int) != ((l.length : Nat) : Int)) = false := bne_self_eq_false _
    refine go1 @b0 ?_
    refine runs_cond rfl (fun hc => by cases hc) (fun hc => ?_)
    refine go0 ?_
    refine runs_loop (fun k e m' => ∃ (i : Nat), i ≤ l.length ∧ m' = m ∧ k = l.length - i ∧ e = [(0, AV.lst g 1 (rowsS l)), (1, .lst g2 1 (rowsS l)), (5, .v (.int .i64 (i : Int)))]) (k := l.length) ⟨0, Nat.zero_le _, rfl, rfl, rfl⟩ ?_
    rintro k e m' ⟨i, hi0, rfl, rfl, rfl⟩
    refine go0 ?_
    refine runs_cond rfl (fun hc => ?_) (fun hc => ?_)
    ·have hi1 : i < l.length := by have := of_decide_eq_true hc; omega
     have f1 := atStrs (g := g) (kk := .i64) hi1
     have f2 := atStrs (g := g2) (kk := .i64) hi1
     have r6 := next_i64 (i := i) (by omega)
     generalize l.getD i ⟨#[]⟩ = s at f1 f2
     have bb : (s == s) = true := bytes_self s
     refine go0 ?_
     refine runs_ops_drawn_tight (by kernel_rfl) (by kernel_rfl) ?_
     refine go1 (jn @f1 (jn @f2 @bb)) ?_
     refine runs_cond rfl (fun hc => ?_) (fun hc => ?_)
     ·unfold bne at hc; rw [bb] at hc; cases hc
     ·refine go1 @r6 ?_
      exact ⟨l.length - (i + 1), by omega, i + 1, hi1, rfl, rfl, rfl⟩
    ·refine go0 ?_
     exact leaves_v rfl rfl
   ·cases h
  ·cases h
 ·cases h
open Classical in
def nodes2G : List AV → Mem → Option (AV × Mem)
 | [.lst _ 7 rows, .lst _ 7 rows2], m =>
  match unN rows with
  | some l => if rows2 = rowsN l ∧ l.length ≤ 1000000 then some (.v (.bool true), m) else none
  | none => none
 | _, _ => none
theorem eqNd9 {x : Nd} : eqTy Try.prog 8 71 (.agg x.row) (.agg x.row) = some true := by
 have h : eqTy Try.prog 8 71 (.agg x.row) (.agg x.row) = some ((x.op == x.op) && ((x.a == x.a) && ((x.b == x.b) && ((x.c == x.c) && ((x.k == x.k) && (((x.u == x.u) && ((x.n == x.n) && true)) && true)))))) := by kernel_rfl
 rw [h]
 simp
def kpNodes2 : Nat → Option (List Nat) := fun
 | 0 => some [0, 1]
 | 1 => some [0, 1, 10]
 | 2 => some [4]
 | 3 => some [0, 1, 5]
 | 4 => some [0, 1, 5, 14]
 | 5 => some [0, 1, 5]
 | 6 => some [0, 1, 5, 25]
 | 7 => some [4]
 | 8 => some [4]
 | _ => none
attribute [go_sem] kpNodes2
theorem nodes2_ok : FunOk Try.prog 33 nodes2G := by
 have hC := table_ok (P := Try.prog) (l := []) table_nil
 refine fun_ok mixed hC Try.func33 rfl kpNodes2 false rfl fun args m r h => ?_
 unfold nodes2G at h
 split at h
 ·rename_i g rows g2 rows2
  split at h
  ·rename_i l hl
   obtain rfl := unN_some hl
   split at h
   ·rename_i hyp
    obtain ⟨rfl, hlen⟩ := hyp
    simp only [Option.some.injEq] at h
    subst h
    refine ⟨Nat.le_of_ble_eq_true rfl, ?_⟩
    refine en ?_
    have b0 : (((l.length : Nat) : Int) != ((l.length : Nat) : Int)) = false := bne_self_eq_false _
    refine go1 @b0 ?_
    refine runs_cond rfl (fun hc => by cases hc) (fun hc => ?_)
    refine go0 ?_
    refine runs_loop (fun k e m' => ∃ (i : Nat), i ≤ l.length ∧ m' = m ∧ k = l.length - i ∧ e = [(0, AV.lst g 7 (rowsN l)), (1, .lst g2 7 (rowsN l)), (5, .v (.int .i64 (i : Int)))]) (k := l.length) ⟨0, Nat.zero_le _, rfl, rfl, rfl⟩ ?_
    rintro k e m' ⟨i, hi0, rfl, rfl, rfl⟩
    refine go0 ?_
    refine runs_cond rfl (fun hc => ?_) (fun hc => ?_)
    ·have hi1 : i < l.length := by have := of_decide_eq_true hc; omega
     have f1 := atNodes (g := g) (kk := .i64) hi1
     have f2 := atNodes (g := g2) (kk := .i64) hi1
     have r6 := next_i64 (i := i) (by omega)
     generalize l.getD i nd0 = s at f1 f2
     have bb := eqNd9 (x := s)
     refine go0 ?_
     refine runs_ops_drawn_tight (by kernel_rfl) (by kernel_rfl) ?_
     refine go1 (jn @f1 (jn @f2 @bb)) ?_
     refine runs_cond rfl (fun hc => ?_) (fun hc => ?_)
     ·cases hc
     ·refine go1 @r6 ?_
      exact ⟨l.length - (i + 1), by omega, i + 1, hi1, rfl, rfl, rfl⟩
    ·refine go0 ?_
     exact leaves_v rfl rfl
   ·cases h
  ·cases h
 ·cases h
end
section
attribute [local irreducible] Next Inside Runs Ops table
end
noncomputable section
attribute [local irreducible] Next Inside Runs Ops table
attribute [local irreducible] XRuns XOps
attribute [local go_sem] szStr szInt Option.getD_some isNil evStr iv loadInt loadStr rowsS_len rowsN_len rowsPh_len rowsGs_len fePhSets lePhSets fePhName lePhName
attribute [local go_sem] fePhLen lePhLen fePhFrozen lePhFrozen ldGs zrGs szGs fpGsGroup fpGsParam fpGsNodes
theorem niLn9 : noIface Try.prog 8 33 = true := by kernel_rfl
theorem eqLn9 {u n : Int} : eqTy Try.prog 8 33 (.agg [.v (.int .i64 u), .v (.int .i64 n)]) (.agg [.v (.int .i64 u), .v (.int .i64 n)]) = some true := by
 have h : eqTy Try.prog 8 33 (.agg [.v (.int .i64 u), .v (.int .i64 n)]) (.agg [.v (.int .i64 u), .v (.int .i64 n)]) = some ((u == u) && ((n == n) && true)) := by kernel_rfl
 rw [h]
 simp
open Classical in
def phases2G : List AV → Mem → Option (AV × Mem)
 | [.lst _ 5 rows, .lst _ 5 rows2], m =>
  match unsPh rows with
  | some l => if rows2 = rowsPh l ∧ l.length ≤ 1000000 ∧ ∀ p ∈ l, p.frozen.length ≤ 1000000 ∧ p.sets.length ≤ 1000000 ∧ ∀ s ∈ p.sets, s.nodes.length ≤ 1000000 then some (.v (.bool true), m) else none
  | none => none
 | _, _ => none
def kpPhases2 : Nat → Option (List Nat) := fun
 | 0 => some [0, 1]
 | 1 => some [0, 1, 13]
 | 2 => some [4]
 | 3 => some [0, 1, 5]
 | 4 => some [0, 1, 5, 17]
 | 5 => some [0, 1, 5]
 | 6 => some [0, 1, 5, 72]
 | 7 => some [4]
 | 8 => some [0, 1, 5, 6]
 | 9 => some [0, 1, 5, 6, 80]
 | 10 => some [0, 1, 5, 6]
 | 11 => some [0, 1, 5, 6, 7, 8]
 | 12 => some [0, 1, 5, 6, 118]
 | 13 => some [4]
 | 14 => some [4]
 | _ => none
attribute [go_sem] kpPhases2
def tabPh2 : List (FuncId × (List AV → Mem → Option (AV × Mem))) := [(23, textsG), (33, nodes2G)]
theorem phases2_ok : FunOk Try.prog 24 phases2G := by
 have hC := table_ok (P := Try.prog) (l := tabPh2) (table_more texts_ok (table_more nodes2_ok table_nil))
 have t1 := fun args mm => table_at (l := tabPh2) (f := 23) (args := args) (m := mm) rfl
 have t2 := fun args mm => table_at (l := tabPh2) (f := 33) (args := args) (m := mm) rfl
 refine fun_okX Try.func24 rfl false rfl fun args m r h => ?_
 unfold phases2G at h
 split at h
 ·rename_i g rows g2 rows2
  split at h
  ·rename_i l hl
   obtain rfl := unsPh_some hl
   split at h
   ·rename_i hyp
    obtain ⟨rfl, hlen, hin⟩ := hyp
    simp only [Option.some.injEq] at h
    subst h
    refine ⟨Nat.le_of_ble_eq_true rfl, fun φ w => ?_⟩
    refine en ?_
    have b0 : (((l.length : Nat) : Int) != ((l.length : Nat) : Int)) = false := bne_self_eq_false _
    repeat (first | refine x_seq ?_ | refine x_block ?_ | refine xn_normal ?_ | refine xi_normal ?_ | refine xn_exit ?_ | refine xi_exit ?_ | refine xi_other (by decide) ?_ | refine xn_ret ?_ | refine xi_ret ?_ | refine x_skip ?_ | refine x_exit ?_ | refine x_ret ?_)
    refine x_region (kp := kpPhases2) mixed hC ?_
    refine go0 ?_
    repeat (first | refine x_seq ?_ | refine x_block ?_ | refine xn_normal ?_ | refine xi_normal ?_ | refine xn_exit ?_ | refine xi_exit ?_ | refine xi_other (by decide) ?_ | refine xn_ret ?_ | refine xi_ret ?_ | refine x_skip ?_ | refine x_exit ?_ | refine x_ret ?_)
    refine x_region (kp := kpPhases2) mixed hC ?_
    refine go1 @b0 ?_
    repeat (first | refine x_seq ?_ | refine x_block ?_ | refine xn_normal ?_ | refine xi_normal ?_ | refine xn_exit ?_ | refine xi_exit ?_ | refine xi_other (by decide) ?_ | refine xn_ret ?_ | refine xi_ret ?_ | refine x_skip ?_ | refine x_exit ?_ | refine x_ret ?_)
    refine x_cond rfl (fun hc => by cases hc) (fun hc => ?_)
    repeat (first | refine x_seq ?_ | refine x_block ?_ | refine xn_normal ?_ | refine xi_normal ?_ | refine xn_exit ?_ | refine xi_exit ?_ | refine xi_other (by decide) ?_ | refine xn_ret ?_ | refine xi_ret ?_ | refine x_skip ?_ | refine x_exit ?_ | refine x_ret ?_)
    refine x_region (kp := kpPhases2) mixed hC ?_
    refine go0 ?_
    repeat (first | refine x_seq ?_ | refine x_block ?_ | refine xn_normal ?_ | refine xi_normal ?_ | refine xn_exit ?_ | refine xi_exit ?_ | refine xi_other (by decide) ?_ | refine xn_ret ?_ | refine xi_ret ?_ | refine x_skip ?_ | refine x_exit ?_ | refine x_ret ?_)
    refine x_loop (fun k e m' F => ∃ (i : Nat), i ≤ l.length ∧ Above m m' ∧ k = l.length - i ∧ e = [(0, AV.lst g 5 (rowsPh l)), (1, .lst g2 5 (rowsPh l)), (5, .v (.int .i64 (i : Int)))]) (k := l.length) ⟨0, Nat.zero_le _, above_self m, rfl, rfl⟩ ?_
    rintro k e m' F ⟨i, hi0, hA, rfl, rfl⟩
    repeat (first | refine x_seq ?_ | refine x_block ?_ | refine xn_normal ?_ | refine xi_normal ?_ | refine xn_exit ?_ | refine xi_exit ?_ | refine xi_other (by decide) ?_ | refine xn_ret ?_ | refine xi_ret ?_ | refine x_skip ?_ | refine x_exit ?_ | refine x_ret ?_)
    refine x_region (kp := kpPhases2) mixed hC ?_
    refine go0 ?_
    repeat (first | refine x_seq ?_ | refine x_block ?_ | refine xn_normal ?_ | refine xi_normal ?_ | refine xn_exit ?_ | refine xi_exit ?_ | refine xi_other (by decide) ?_ | refine xn_ret ?_ | refine xi_ret ?_ | refine x_skip ?_ | refine x_exit ?_ | refine x_ret ?_)
    refine x_cond rfl (fun hc => ?_) (fun hc => ?_)
    ·have hi1 : i < l.length := by have := of_decide_eq_true hc; omega
     have q1 := atPh (g := g) (kk := .i64) hi1
     have q2 := atPh (g := g2) (kk := .i64) hi1
     have hP := hin (l.getD i ph0) (by rw [List.getD_eq_getElem?_getD, List.getElem?_eq_getElem hi1]; exact List.getElem_mem ..)
     generalize l.getD i ph0 = P at q1 q2 hP
     have b1 : (P.name != P.name) = false := by unfold bne; rw [bytes_self]; rfl
     have b2 : (((P.sets.length : Nat) : Int) != ((P.sets.length : Nat) : Int)) = false := bne_self_eq_false _
     have c1 : ∀ mm : Mem, textsG [.lst .no 1 (rowsS P.frozen), .lst .no 1 (rowsS P.frozen)] mm = some (.v (.bool true), mm) := fun mm => by
      simp only [textsG, unS_rowsS, true_and]
      exact if_pos hP.1
     have r6 := next_i64 (i := i) (by omega)
     repeat (first | refine x_seq ?_ | refine x_block ?_ | refine xn_normal ?_ | refine xi_normal ?_ | refine xn_exit ?_ | refine xi_exit ?_ | refine xi_other (by decide) ?_ | refine xn_ret ?_ | refine xi_ret ?_ | refine x_skip ?_ | refine x_exit ?_ | refine x_ret ?_)
     refine x_walk0 (l2 := kpPhases2 6) mixed hC (by kernel_rfl) ?_
     refine gof1 (jn @q1 (jn @q2 (jn @b1 (jn @b2 (jn @niLn9 (jn @eqLn9 (jn @t1 @c1))))))) ?_
     repeat (first | refine x_seq ?_ | refine x_block ?_ | refine xn_normal ?_ | refine xi_normal ?_ | refine xn_exit ?_ | refine xi_exit ?_ | refine xi_other (by decide) ?_ | refine xn_ret ?_ | refine xi_ret ?_ | refine x_skip ?_ | refine x_exit ?_ | refine x_ret ?_)
     refine x_cond rfl (fun hc => by cases hc) (fun hc => ?_)
     repeat (first | refine x_seq ?_ | refine x_block ?_ | refine xn_normal ?_ | refine xi_normal ?_ | refine xn_exit ?_ | refine xi_exit ?_ | refine xi_other (by decide) ?_ | refine xn_ret ?_ | refine xi_ret ?_ | refine x_skip ?_ | refine x_exit ?_ | refine x_ret ?_)
     refine x_region (kp := kpPhases2) mixed hC ?_
     refine go0 ?_
     repeat (first | refine x_seq ?_ | refine x_block ?_ | refine xn_normal ?_ | refine xi_normal ?_ | refine xn_exit ?_ | refine xi_exit ?_ | refine xi_other (by decide) ?_ | refine xn_ret ?_ | refine xi_ret ?_ | refine x_skip ?_ | refine x_exit ?_ | refine x_ret ?_)
     refine x_loop (fun k e m2 F => ∃ (j : Nat), j ≤ P.sets.length ∧ Above m m2 ∧ k = P.sets.length - j ∧ e = [(0, AV.lst g 5 (rowsPh l)), (1, AV.lst g2 5 (rowsPh l)), (5, AV.v (.int .i64 (i : Int))), (6, .v (.int .i64 (j : Int)))]) (k := P.sets.length) ⟨0, Nat.zero_le _, hA, rfl, rfl⟩ ?_
     rintro k e m2 F ⟨j, hj0, hA2, rfl, rfl⟩
     repeat (first | refine x_seq ?_ | refine x_block ?_ | refine xn_normal ?_ | refine xi_normal ?_ | refine xn_exit ?_ | refine xi_exit ?_ | refine xi_other (by decide) ?_ | refine xn_ret ?_ | refine xi_ret ?_ | refine x_skip ?_ | refine x_exit ?_ | refine x_ret ?_)
     refine x_region (kp := kpPhases2) mixed hC ?_
     refine go1 @q1 ?_
     repeat (first | refine x_seq ?_ | refine x_block ?_ | refine xn_normal ?_ | refine xi_normal ?_ | refine xn_exit ?_ | refine xi_exit ?_ | refine xi_other (by decide) ?_ | refine xn_ret ?_ | refine xi_ret ?_ | refine x_skip ?_ | refine x_exit ?_ | refine x_ret ?_)
     refine x_cond rfl (fun hc => ?_) (fun hc => ?_)
     ·have hj1 : j < P.sets.length := by have := of_decide_eq_true hc; omega
      have q3 := atGs (g := .no) (kk := .i64) hj1
      have hS := hP.2.2 (P.sets.getD j gs0) (by rw [List.getD_eq_getElem?_getD, List.getElem?_eq_getElem hj1]; exact List.getElem_mem ..)
      generalize P.sets.getD j gs0 = s at q3 hS
      repeat (first | refine x_seq ?_ | refine x_block ?_ | refine xn_normal ?_ | refine xi_normal ?_ | refine xn_exit ?_ | refine xi_exit ?_ | refine xi_other (by decide) ?_ | refine xn_ret ?_ | refine xi_ret ?_ | refine x_skip ?_ | refine x_exit ?_ | refine x_ret ?_)
      refine x_walk0 (l2 := kpPhases2 11) mixed hC (by kernel_rfl) ?_
      refine gof1 (jn @q1 (jn @q2 @q3)) ?_
      repeat (first | refine x_seq ?_ | refine x_block ?_ | refine xn_normal ?_ | refine xi_normal ?_ | refine xn_exit ?_ | refine xi_exit ?_ | refine xi_other (by decide) ?_ | refine xn_ret ?_ | refine xi_ret ?_ | refine x_skip ?_ | refine x_exit ?_ | refine x_ret ?_)
      have v7 : ((m2.push s.row).push s.row).var m2.vars.length = some s.row := push_old push_var
      have v8 : ((m2.push s.row).push s.row).var (m2.vars.length + 1) = some s.row := pushes_new (b := m2) (F := [s.row, s.row]) (i := 1)
      have hA3 := above_push (cs := s.row) (above_push (cs := s.row) hA2)
      generalize (m2.push s.row).push s.row = m3 at v7 v8 hA3
      generalize m2.vars.length + 1 = r8 at v8
      generalize m2.vars.length = r7 at v7
      have k1 := lpGsGroup v7
      have k2 := lpGsGroup v8
      have k3 := lpGsParam v7
      have k4 := lpGsParam v8
      have k5 := lpGsNodes v7
      have k6 := lpGsNodes v8
      have b3 : (s.group != s.group) = false := by unfold bne; rw [bytes_self]; rfl
      have b4 : (s.param != s.param) = false := bne_self_eq_false _
      have c2 : ∀ mm : Mem, nodes2G [.lst .no 7 (rowsN s.nodes), .lst .no 7 (rowsN s.nodes)] mm = some (.v (.bool true), mm) := fun mm => by
       simp only [nodes2G, unN_rowsN, true_and]
       exact if_pos hS
      have r7 := next_i64 (i := j) (by omega)
      refine x_region (kp := kpPhases2) mixed hC ?_
      refine go1 (jn @k1 (jn @k2 (jn @k3 (jn @k4 (jn @k5 (jn @k6 (jn @b3 (jn @b4 (jn @t2 @c2))))))))) ?_
      repeat (first | refine x_seq ?_ | refine x_block ?_ | refine xn_normal ?_ | refine xi_normal ?_ | refine xn_exit ?_ | refine xi_exit ?_ | refine xi_other (by decide) ?_ | refine xn_ret ?_ | refine xi_ret ?_ | refine x_skip ?_ | refine x_exit ?_ | refine x_ret ?_)
      refine x_cond rfl (fun hc => by cases hc) (fun hc => ?_)
      repeat (first | refine x_seq ?_ | refine x_block ?_ | refine xn_normal ?_ | refine xi_normal ?_ | refine xn_exit ?_ | refine xi_exit ?_ | refine xi_other (by decide) ?_ | refine xn_ret ?_ | refine xi_ret ?_ | refine x_skip ?_ | refine x_exit ?_ | refine x_ret ?_)
      refine x_region (kp := kpPhases2) mixed hC ?_
      refine go1 @r7 ?_
      repeat (first | refine x_seq ?_ | refine x_block ?_ | refine xn_normal ?_ | refine xi_normal ?_ | refine xn_exit ?_ | refine xi_exit ?_ | refine xi_other (by decide) ?_ | refine xn_ret ?_ | refine xi_ret ?_ | refine x_skip ?_ | refine x_exit ?_ | refine x_ret ?_)
      exact ⟨P.sets.length - (j + 1), by omega, j + 1, hj1, hA3, rfl, rfl⟩
     ·repeat (first | refine x_seq ?_ | refine x_block ?_ | refine xn_normal ?_ | refine xi_normal ?_ | refine xn_exit ?_ | refine xi_exit ?_ | refine xi_other (by decide) ?_ | refine xn_ret ?_ | refine xi_ret ?_ | refine x_skip ?_ | refine x_exit ?_ | refine x_ret ?_)
      refine x_region (kp := kpPhases2) mixed hC ?_
      refine go1 @r6 ?_
      repeat (first | refine x_seq ?_ | refine x_block ?_ | refine xn_normal ?_ | refine xi_normal ?_ | refine xn_exit ?_ | refine xi_exit ?_ | refine xi_other (by decide) ?_ | refine xn_ret ?_ | refine xi_ret ?_ | refine x_skip ?_ | refine x_exit ?_ | refine x_ret ?_)
      exact ⟨l.length - (i + 1), by omega, i + 1, hi1, hA2, rfl, rfl⟩
    ·repeat (first | refine x_seq ?_ | refine x_block ?_ | refine xn_normal ?_ | refine xi_normal ?_ | refine xn_exit ?_ | refine xi_exit ?_ | refine xi_other (by decide) ?_ | refine xn_ret ?_ | refine xi_ret ?_ | refine x_skip ?_ | refine x_exit ?_ | refine x_ret ?_)
     refine x_region (kp := kpPhases2) mixed hC ?_
     refine go0 ?_
     repeat (first | refine x_seq ?_ | refine x_block ?_ | refine xn_normal ?_ | refine xi_normal ?_ | refine xn_exit ?_ | refine xi_exit ?_ | refine xi_other (by decide) ?_ | refine xn_ret ?_ | refine xi_ret ?_ | refine x_skip ?_ | refine x_exit ?_ | refine x_ret ?_)
     exact x_leaves (leaves_fin rfl rfl (above_fin hA))
   ·cases h
  ·cases h
 ·cases h
end
section
attribute [local irreducible] Next Inside Runs Ops table
/-! ### api.Stop -/
structure Tp where
 On : Bool
 Metric : ByteArray
 Max : Bool
 Patience : Int
 Delta : Int
 Rel : Bool
def Tp.row (x : Tp) : List AV := [.v (.bool x.On), .v (.string x.Metric), .v (.bool x.Max), iv x.Patience, iv x.Delta, .v (.bool x.Rel)]
theorem niTp : noIface Try.prog 8 25 = true := by kernel_rfl
theorem eqTp {x y : Tp} : eqTy Try.prog 8 25 (.agg x.row) (.agg y.row) = some ((x.On == y.On) && ((x.Metric == y.Metric) && ((x.Max == y.Max) && ((x.Patience == y.Patience) && ((x.Delta == y.Delta) && ((x.Rel == y.Rel) && true)))))) := by kernel_rfl
/-! ### api.Plateau -/
structure Pt where
 On : Bool
 Metric : ByteArray
 Max : Bool
 Factor : Int
 Patience : Int
 Cooldown : Int
 Floor : Int
 Delta : Int
def Pt.row (x : Pt) : List AV := [.v (.bool x.On), .v (.string x.Metric), .v (.bool x.Max), iv x.Factor, iv x.Patience, iv x.Cooldown, iv x.Floor, iv x.Delta]
theorem niPt : noIface Try.prog 8 27 = true := by kernel_rfl
theorem eqPt {x y : Pt} : eqTy Try.prog 8 27 (.agg x.row) (.agg y.row) = some ((x.On == y.On) && ((x.Metric == y.Metric) && ((x.Max == y.Max) && ((x.Factor == y.Factor) && ((x.Patience == y.Patience) && ((x.Cooldown == y.Cooldown) && ((x.Floor == y.Floor) && ((x.Delta == y.Delta) && true)))))))) := by kernel_rfl
/-! ### api.Keep -/
structure Kp where
 On : Bool
 Metric : ByteArray
 Max : Bool
 Count : Int
def Kp.row (x : Kp) : List AV := [.v (.bool x.On), .v (.string x.Metric), .v (.bool x.Max), iv x.Count]
theorem niKp : noIface Try.prog 8 29 = true := by kernel_rfl
theorem eqKp {x y : Kp} : eqTy Try.prog 8 29 (.agg x.row) (.agg y.row) = some ((x.On == y.On) && ((x.Metric == y.Metric) && ((x.Max == y.Max) && ((x.Count == y.Count) && true)))) := by kernel_rfl
/-! ### api.Ema -/
structure Em where
 On : Bool
 Decay : Int
def Em.row (x : Em) : List AV := [.v (.bool x.On), iv x.Decay]
theorem niEm : noIface Try.prog 8 31 = true := by kernel_rfl
theorem eqEm {x y : Em} : eqTy Try.prog 8 31 (.agg x.row) (.agg y.row) = some ((x.On == y.On) && ((x.Decay == y.Decay) && true)) := by kernel_rfl
/-! ### api.Swa -/
structure Sw where
 On : Bool
 FromU : Int
 FromN : Int
 Every : Int
def Sw.row (x : Sw) : List AV := [.v (.bool x.On), iv x.FromU, iv x.FromN, iv x.Every]
theorem niSw : noIface Try.prog 8 35 = true := by kernel_rfl
theorem eqSw {x y : Sw} : eqTy Try.prog 8 35 (.agg x.row) (.agg y.row) = some ((x.On == y.On) && (((x.FromU == y.FromU) && ((x.FromN == y.FromN) && true)) && ((x.Every == y.Every) && true))) := by kernel_rfl
end
noncomputable section
attribute [local irreducible] Next Inside Runs Ops table
attribute [local go_sem] szStr szInt Option.getD_some isNil evStr iv loadInt loadStr rowsS_len rowsPh_len mapRc cellsRc newRc fpRcName fpRcSteps fpRcEpoch fpRcWeights fpRcMetrics fpRcGroups fpRcEval fpRcPhases fpRcStop fpRcPlateau fpRcKeep fpRcEma fpRcSwa niTp niPt niKp niEm niSw
def Rc.comp (R : Rc) : Prop := R.metrics.length ≤ 1000000 ∧ R.groups.length ≤ 1000000 ∧ R.phases.length ≤ 1000000 ∧ ∀ p ∈ R.phases, p.frozen.length ≤ 1000000 ∧ p.sets.length ≤ 1000000 ∧ ∀ s ∈ p.sets, s.nodes.length ≤ 1000000
open Classical in
def same2G : List AV → Mem → Option (AV × Mem)
 | [.agg cs, .agg cs2], m =>
  match unRc cs with
  | some R => if cs2 = R.row ∧ R.comp then some (.v (.bool true), m) else none
  | none => none
 | _, _ => none
theorem same2G_eq {R : Rc} (h : R.comp) {m : Mem} : same2G [.agg R.row, .agg R.row] m = some (.v (.bool true), m) := by
 simp only [same2G, unRc_row]
 exact if_pos ⟨rfl, h⟩
theorem bne_str (s : ByteArray) : (s != s) = false := by unfold bne; rw [bytes_self]; rfl
def kpSame2 : Nat → Option (List Nat) := fun
 | 0 => some [2, 3]
 | 1 => some [2, 3, 37]
 | 2 => some [4]
 | 3 => some [2, 3, 59]
 | 4 => some [4]
 | 5 => some [4]
 | _ => none
attribute [go_sem] kpSame2
def tab_same2_ok : List (FuncId × (List AV → Mem → Option (AV × Mem))) := [(23, textsG), (24, phases2G)]
theorem same2_ok : FunOk Try.prog 10 same2G := by
 have hC := table_ok (P := Try.prog) (l := tab_same2_ok) (table_more texts_ok (table_more phases2_ok table_nil))
 have t1 := fun args mm => table_at (l := tab_same2_ok) (f := 23) (args := args) (m := mm) rfl
 have t2 := fun args mm => table_at (l := tab_same2_ok) (f := 24) (args := args) (m := mm) rfl
 refine fun_ok mixed hC Try.func10 rfl kpSame2 false rfl fun args m r h => ?_
 unfold same2G at h
 split at h
 ·rename_i cs cs2
  split at h
  ·rename_i R hR
   obtain rfl := unRc_some hR
   split at h
   ·rename_i hyp
    obtain ⟨rfl, hm, hg, hp, hin⟩ := hyp
    simp only [Option.some.injEq] at h
    subst h
    refine ⟨Nat.le_of_ble_eq_true rfl, ?_⟩
    refine en ?_
    have hA := above_push (cs := R.row) (above_push (cs := R.row) (above_self m))
    have v2 : ((m.push R.row).push R.row).var m.vars.length = some R.row := push_old push_var
    have v3 : ((m.push R.row).push R.row).var (m.push R.row).vars.length = some R.row := push_var
    have nr := newRc (m := m) (x := R)
    have nr2 := newRc (m := m.push R.row) (x := R)
    generalize (m.push R.row).push R.row = m2 at hA v2 v3 nr2
    refine go1 (jn @nr @nr2) ?_
    generalize (m.push R.row).vars.length = r3 at v3 ⊢
    generalize m.vars.length = r2 at v2 ⊢
    have a1 := lpRcName v2
    have a2 := lpRcSteps v2
    have a3 := lpRcEpoch v2
    have a4 := lpRcWeights v2
    have a5 := lpRcEval v2
    have b1 := lpRcName v3
    have b2 := lpRcSteps v3
    have b3 := lpRcEpoch v3
    have b4 := lpRcWeights v3
    have b5 := lpRcEval v3
    have n1 := bne_str R.name
    have n2 : ∀ x : Int, (x != x) = false := fun x => bne_self_eq_false x
    refine go1 (jn @a1 (jn @a2 (jn @a3 (jn @a4 (jn @a5 (jn @b1 (jn @b2 (jn @b3 (jn @b4 (jn @b5 (jn @n1 @n2))))))))))) ?_
    refine runs_cond rfl (fun hc => by cases hc) (fun hc => ?_)
    have c1 := lpRcMetrics v2
    have c2 := lpRcGroups v2
    have c3 := lpRcPhases v2
    have d1 := lpRcMetrics v3
    have d2 := lpRcGroups v3
    have d3 := lpRcPhases v3
    have e1 : ∀ mm : Mem, textsG [.lst .no 1 (rowsS R.metrics), .lst .no 1 (rowsS R.metrics)] mm = some (.v (.bool true), mm) := fun mm => by
     simp only [textsG, unS_rowsS, true_and]
     exact if_pos hm
    have e2 : ∀ mm : Mem, textsG [.lst .no 1 (rowsS R.groups), .lst .no 1 (rowsS R.groups)] mm = some (.v (.bool true), mm) := fun mm => by
     simp only [textsG, unS_rowsS, true_and]
     exact if_pos hg
    have e3 : ∀ mm : Mem, phases2G [.lst .no 5 (rowsPh R.phases), .lst .no 5 (rowsPh R.phases)] mm = some (.v (.bool true), mm) := fun mm => by
     simp only [phases2G, unsPh_rowsPh, true_and]
     exact if_pos ⟨hp, hin⟩
    refine go1 (jn @c1 (jn @c2 (jn @c3 (jn @d1 (jn @d2 (jn @d3 (jn @t1 (jn @t2 (jn @e1 (jn @e2 @e3)))))))))) ?_
    refine runs_cond rfl (fun hc => by cases hc) (fun hc => ?_)
    have f1 := lpRcStop v2
    have f2 := lpRcPlateau v2
    have f3 := lpRcKeep v2
    have f4 := lpRcEma v2
    have f5 := lpRcSwa v2
    have g1 := lpRcStop v3
    have g2 := lpRcPlateau v3
    have g3 := lpRcKeep v3
    have g4 := lpRcEma v3
    have g5 := lpRcSwa v3
    have q1 : eqTy Try.prog 8 25 (.agg [.v (.bool R.stopOn), .v (.string R.stopMetric), .v (.bool R.stopMax), .v (.int .i64 R.stopPatience), .v (.int .i64 R.stopDelta), .v (.bool R.stopRel)]) (.agg [.v (.bool R.stopOn), .v (.string R.stopMetric), .v (.bool R.stopMax), .v (.int .i64 R.stopPatience), .v (.int .i64 R.stopDelta), .v (.bool R.stopRel)]) = some true := by
     exact (eqTp (x := ⟨R.stopOn, R.stopMetric, R.stopMax, R.stopPatience, R.stopDelta, R.stopRel⟩) (y := ⟨R.stopOn, R.stopMetric, R.stopMax, R.stopPatience, R.stopDelta, R.stopRel⟩)).trans (by simp [bytes_self])
    have q2 : eqTy Try.prog 8 27 (.agg [.v (.bool R.plateauOn), .v (.string R.plateauMetric), .v (.bool R.plateauMax), .v (.int .i64 R.plateauFactor), .v (.int .i64 R.plateauPatience), .v (.int .i64 R.plateauCooldown), .v (.int .i64 R.plateauFloor), .v (.int .i64 R.plateauDelta)]) (.agg [.v (.bool R.plateauOn), .v (.string R.plateauMetric), .v (.bool R.plateauMax), .v (.int .i64 R.plateauFactor), .v (.int .i64 R.plateauPatience), .v (.int .i64 R.plateauCooldown), .v (.int .i64 R.plateauFloor), .v (.int .i64 R.plateauDelta)]) = some true := by
     exact (eqPt (x := ⟨R.plateauOn, R.plateauMetric, R.plateauMax, R.plateauFactor, R.plateauPatience, R.plateauCooldown, R.plateauFloor, R.plateauDelta⟩) (y := ⟨R.plateauOn, R.plateauMetric, R.plateauMax, R.plateauFactor, R.plateauPatience, R.plateauCooldown, R.plateauFloor, R.plateauDelta⟩)).trans (by simp [bytes_self])
    have q3 : eqTy Try.prog 8 29 (.agg [.v (.bool R.keepOn), .v (.string R.keepMetric), .v (.bool R.keepMax), .v (.int .i64 R.keepCount)]) (.agg [.v (.bool R.keepOn), .v (.string R.keepMetric), .v (.bool R.keepMax), .v (.int .i64 R.keepCount)]) = some true := by
     exact (eqKp (x := ⟨R.keepOn, R.keepMetric, R.keepMax, R.keepCount⟩) (y := ⟨R.keepOn, R.keepMetric, R.keepMax, R.keepCount⟩)).trans (by simp [bytes_self])
    have q4 : eqTy Try.prog 8 31 (.agg [.v (.bool R.emaOn), .v (.int .i64 R.emaDecay)]) (.agg [.v (.bool R.emaOn), .v (.int .i64 R.emaDecay)]) = some true := by
     exact (eqEm (x := ⟨R.emaOn, R.emaDecay⟩) (y := ⟨R.emaOn, R.emaDecay⟩)).trans (by simp)
    have q5 : eqTy Try.prog 8 35 (.agg [.v (.bool R.swaOn), .v (.int .i64 R.swaFromU), .v (.int .i64 R.swaFromN), .v (.int .i64 R.swaEvery)]) (.agg [.v (.bool R.swaOn), .v (.int .i64 R.swaFromU), .v (.int .i64 R.swaFromN), .v (.int .i64 R.swaEvery)]) = some true := by
     exact (eqSw (x := ⟨R.swaOn, R.swaFromU, R.swaFromN, R.swaEvery⟩) (y := ⟨R.swaOn, R.swaFromU, R.swaFromN, R.swaEvery⟩)).trans (by simp)
    refine go1 (jn @f1 (jn @f2 (jn @f3 (jn @f4 (jn @f5 (jn @g1 (jn @g2 (jn @g3 (jn @g4 (jn @g5 (jn @q1 (jn @q2 (jn @q3 (jn @q4 @q5)))))))))))))) ?_
    exact leaves_fin rfl rfl (above_fin hA)
   ·cases h
  ·cases h
 ·cases h
end
end Go.Proofs.Ytmockbddhhmmeaa.Ev
