/- Trees: the least and the greatest number of a list of nodes; all numbers. -/
import Derived.Test.YtojaokhkbmiidaaGreatMbcia6
namespace Go.Proofs.YtojaokhkbmiidaaGreat.Ev
open Go Go.Proofs
set_option maxRecDepth 10000
set_option maxHeartbeats 8000000
set_option linter.unusedVariables false
set_option linter.unusedSimpArgs false
section
attribute [local irreducible] Next Inside Runs Ops table
attribute [local go_sem] szStr szInt Option.getD_some isNil evStr loadStr loadInt mkInts0 mkInts1 mkInts2 mkInts3 rowsI_len rowsN_len fldOp ldOp ldNode zeroNode okNode newNode evMinMax evFoldI
theorem mapRow {x : Nd} : List.map argCell x.row = x.row := rfl
attribute [local go_sem] mapRow
theorem putRow {m : Mem} {x : Nd} : evStore Tryz.prog (m.push (nrow 0 0 0 0 0 0 0)) 102 (.ptr m.vars.length 0) (.agg x.row) = some (m.push x.row) := putNode (op2 := x.op) (a2 := x.a) (b2 := x.b) (c2 := x.c) (k2 := x.k) (u2 := x.u) (n2 := x.n)
attribute [local go_sem] putRow
theorem topRow {m : Mem} {x : Nd} : evLoad Tryz.prog (m.push x.row) 102 (.ptr m.vars.length 0) = some (.agg x.row) := topNode (op := x.op) (a := x.a) (b := x.b) (c := x.c) (k := x.k) (u := x.u) (n := x.n)
attribute [local go_sem] topRow
/-! ### folds -/
def lohi (p : Int × Int) (xs : List Int) : Int × Int := xs.foldl (fun p x => (mn p.1 x, mx p.2 x)) p
theorem lohi_app (p : Int × Int) (xs ys : List Int) : lohi p (xs ++ ys) = lohi (lohi p xs) ys := List.foldl_append
theorem lohi_spec : ∀ (xs : List Int) (p : Int × Int), ((lohi p xs).1 ≤ p.1 ∧ (∀ x ∈ xs, (lohi p xs).1 ≤ x) ∧ ((lohi p xs).1 = p.1 ∨ (lohi p xs).1 ∈ xs)) ∧ (p.2 ≤ (lohi p xs).2 ∧ (∀ x ∈ xs, x ≤ (lohi p xs).2) ∧ ((lohi p xs).2 = p.2 ∨ (lohi p xs).2 ∈ xs))
  | [], p => by simp [lohi]
  | x :: xs, p => by
    have h := lohi_spec xs (mn p.1 x, mx p.2 x)
    have e : lohi p (x :: xs) = lohi (mn p.1 x, mx p.2 x) xs := rfl
    rw [e]
    obtain ⟨⟨h1, h2, h3⟩, h4, h5, h6⟩ := h
    have a1 : mn p.1 x ≤ p.1 ∧ mn p.1 x ≤ x ∧ (mn p.1 x = p.1 ∨ mn p.1 x = x) := by unfold mn; split <;> omega
    have a2 : p.2 ≤ mx p.2 x ∧ x ≤ mx p.2 x ∧ (mx p.2 x = p.2 ∨ mx p.2 x = x) := by unfold mx; split <;> omega
    simp only at h1 h3 h4 h6
    refine ⟨⟨by omega, ?_, ?_⟩, by omega, ?_, ?_⟩
    · intro y hy
      rcases List.mem_cons.1 hy with rfl | hy
      · omega
      · exact h2 y hy
    · rcases h3 with h3 | h3
      · rcases a1.2.2 with a | a
        · left; omega
        · right; rw [h3, a]; exact List.mem_cons_self ..
      · right; exact List.mem_cons_of_mem _ h3
    · intro y hy
      rcases List.mem_cons.1 hy with rfl | hy
      · omega
      · exact h5 y hy
    · rcases h6 with h6 | h6
      · rcases a2.2.2 with a | a
        · left; omega
        · right; rw [h6, a]; exact List.mem_cons_self ..
      · right; exact List.mem_cons_of_mem _ h6
def endsL (l : List Nd) : Int × Int := if checkT l = 0 then lohi (4503599627370496, 0) (l.flatMap endsN) else (0, 0)
theorem flat_next {α β : Type} {d : α} {f : α → List β} {l : List α} {i : Nat} (hi : i < l.length) : (l.take (i + 1)).flatMap f = (l.take i).flatMap f ++ f (l.getD i d) := by
  rw [take_next (d := d) hi, List.flatMap_append]
  simp
theorem lohi_next {p : Int × Int} {xs : List Int} {j : Nat} (hj : j < xs.length) : lohi p (xs.take (j + 1)) = (mn (lohi p (xs.take j)).1 (xs.getD j 0), mx (lohi p (xs.take j)).2 (xs.getD j 0)) := by
  rw [take_next (d := 0) hj, lohi_app]
  rfl
def endsG : List AV → Mem → Option (AV × Mem)
  | [.lst _ 7 rows], m =>
    match unN rows with
    | some l => if l.length ≤ big40 then some (.tup [iv (endsL l).1, iv (endsL l).2], m) else none
    | none => none
  | _, _ => none
theorem endsG_eq {m : Mem} {g : Grow} {l : List Nd} (h : l.length ≤ big40) : endsG [.lst g 7 (rowsN l)] m = some (.tup [iv (endsL l).1, iv (endsL l).2], m) := by
  simp only [endsG, unN_rowsN]
  rw [if_pos h]
def kpEnds : Nat → Option (List Nat) := fun
  | 0 => some [0, 3]
  | 1 => some [0, 3, 10]
  | 2 => some [2, 3]
  | 3 => some [0, 2, 3]
  | 4 => some [2, 3, 11, 12, 13]
  | 5 => some [2, 3, 11, 12, 13, 14]
  | 6 => some [2, 3, 5, 11, 12, 13]
  | 7 => some [2, 3, 11, 12, 13, 18, 19, 20]
  | 8 => some [2, 3, 11, 12, 13, 18, 19, 20, 21]
  | 9 => some [2, 3, 7, 11, 12, 13, 18, 19, 20]
  | 10 => some [2, 3, 11, 12, 13, 18, 19, 20]
  | 11 => some [2, 3, 11, 12, 13, 18, 19, 20]
  | 12 => some [2, 3, 11, 12, 13]
  | 13 => some [2, 3]
  | _ => none
attribute [go_sem] kpEnds
def tab_ends_ok : List (FuncId × (List AV → Mem → Option (AV × Mem))) := [(107, checkTG), (149, endsNG)]
theorem ends_ok : FunOk Tryz.prog 114 endsG := by
  have hC := table_ok (P := Tryz.prog) (l := tab_ends_ok) (table_more checkT_ok (table_more endsN_ok table_nil))
  have t1 := fun args mm => table_at (l := tab_ends_ok) (f := 107) (args := args) (m := mm) rfl
  have t2 := fun args mm => table_at (l := tab_ends_ok) (f := 149) (args := args) (m := mm) rfl
  refine fun_ok mixed hC Tryz.func114 rfl kpEnds false rfl fun args m r h => ?_
  unfold endsG at h
  split at h
  · rename_i g rows
    split at h
    · rename_i l hl0
      obtain rfl := unN_some hl0
      split at h
      · rename_i hlen
        simp only [Option.some.injEq] at h
        subst h
        refine ⟨Nat.le_of_ble_eq_true rfl, ?_⟩
        refine en ?_
        have f1 := fun mm => checkTG_eq (m := mm) (g := .no) hlen
        unfold big40 at hlen
        by_cases hc0 : checkT l = 0
        · have b1 : (checkT l != 0) = false := by rw [hc0]; rfl
          have hE : endsL l = lohi (4503599627370496, 0) (l.flatMap endsN) := if_pos hc0
          refine go1 (jn @t1 (jn @f1 @b1)) ?_
          refine runs_cond rfl (fun hc => by cases hc) (fun hc => ?_)
          refine go0 ?_
          refine runs_loop (fun k e m' => ∃ (lo hi : Int) (i : Nat), i ≤ l.length ∧ (lo, hi) = lohi (4503599627370496, 0) ((l.take i).flatMap endsN) ∧ Above m m' ∧ k = l.length - i ∧
            e = [(2, .v (.int .i64 lo)), (3, .v (.int .i64 hi)), (11, .lst g 7 (rowsN l)), (12, .v (.int .i64 (l.length : Int))), (13, .v (.int .i64 (i : Int)))]) (k := l.length) ⟨_, _, 0, Nat.zero_le _, rfl, above_self _, rfl, rfl⟩ ?_
          rintro k e m' ⟨lo, hi, i, hi0, hL, hA, rfl, rfl⟩
          refine go0 ?_
          refine runs_cond rfl (fun hc => ?_) (fun hc => ?_)
          · have hi1 : i < l.length := by have := of_decide_eq_true hc; omega
            have f2 := atNodes (g := g) (kk := .i64) hi1
            have f3 := endsNG_eq (l.getD i nd0)
            have h3 := endsN_len (l.getD i nd0)
            have hN := flat_next (f := endsN) (d := nd0) hi1
            generalize endsN (l.getD i nd0) = L at f3 h3 hN
            refine go1 (jn @f2 (jn @t2 @f3)) ?_
            refine runs_loop (fun k e m'' => ∃ (lo2 hi2 : Int) (j : Nat), j ≤ L.length ∧ (lo2, hi2) = lohi (lo, hi) (L.take j) ∧ Above m m'' ∧ k = L.length - j ∧
              e = [(2, .v (.int .i64 lo2)), (3, .v (.int .i64 hi2)), (11, .lst g 7 (rowsN l)), (12, .v (.int .i64 (l.length : Int))), (13, .v (.int .i64 (i : Int))), (18, .lst .no 1 (rowsI L)), (19, .v (.int .i64 (L.length : Int))), (20, .v (.int .i64 (j : Int)))]) (k := L.length)
              ⟨_, _, 0, Nat.zero_le _, rfl, above_push hA, rfl, rfl⟩ ?_
            rintro k e m'' ⟨lo2, hi2, j, hj0, hL2, hA2, rfl, rfl⟩
            refine go0 ?_
            refine runs_cond rfl (fun hc => ?_) (fun hc => ?_)
            · have hj1 : j < L.length := by have := of_decide_eq_true hc; omega
              have f4 := atInts (g := .no) (kk := .i64) hj1
              have r6 := next_i64 (i := j) (by omega)
              refine go1 (jn @f4 @r6) ?_
              refine ⟨L.length - (j + 1), by omega, _, _, j + 1, hj1, ?_, hA2, rfl, rfl⟩
              rw [lohi_next hj1, ← hL2]
            · have hj1 : j = L.length := by have := of_decide_eq_false hc; omega
              subst hj1
              have r6 := next_i64 (i := i) (by omega)
              refine go1 @r6 ?_
              refine ⟨l.length - (i + 1), by omega, _, _, i + 1, hi1, ?_, hA2, rfl, rfl⟩
              rw [hN, lohi_app, ← hL, hL2, List.take_length]
          · have hi1 : i = l.length := by have := of_decide_eq_false hc; omega
            subst hi1
            rw [List.take_length, ← hE] at hL
            refine go0 ?_
            rw [← hL]
            exact leaves_two rfl rfl rfl (above_fin hA)
        · have b1 : (checkT l != 0) = true := by rw [bne_iff_ne]; exact hc0
          rw [show endsL l = (0, 0) from if_neg hc0]
          refine go1 (jn @t1 (jn @f1 @b1)) ?_
          refine runs_cond rfl (fun hc => ?_) (fun hc => by cases hc)
          refine go0 ?_
          exact leaves_vv rfl rfl rfl
      · cases h
    · cases h
  · cases h
/-! ### all numbers, the document's way -/
def numsN (x : Nd) : List Int := if x.op = 9 then [] else [x.a] ++ (if 2 ≤ x.op ∧ x.op ≤ 7 then [x.b] else []) ++ (if x.op = 6 then [x.c] else [])
theorem numsN_len (x : Nd) : (numsN x).length ≤ 3 := by
  unfold numsN
  split
  · simp
  · split <;> split <;> simp
theorem numsN_ends {x : Nd} (h : 1 ≤ x.op ∧ x.op ≤ 9) : numsN x = endsN x := by
  unfold numsN endsN
  by_cases h9 : x.op = 9
  · rw [if_pos h9, if_pos h9]
  rw [if_neg h9, if_neg h9]
  by_cases h1 : x.op = 1 ∨ x.op = 8
  · rw [if_pos h1, if_neg (by omega), if_neg (by omega)]; rfl
  rw [if_neg h1, if_pos (by omega)]
  by_cases h6 : x.op = 6
  · rw [if_pos h6, if_pos h6]; rfl
  · rw [if_neg h6, if_neg h6]; rfl
theorem numsL_len (l : List Nd) : (l.flatMap numsN).length ≤ 3 * l.length := by
  induction l with
  | nil => simp
  | cons x l ih =>
    have := numsN_len x
    simp only [List.flatMap_cons, List.length_append, List.length_cons]
    omega
def numsG : List AV → Mem → Option (AV × Mem)
  | [.lst _ 7 rows], m =>
    match unN rows with
    | some l => if l.length ≤ 1000 then some (.lst .no 1 (rowsI (l.flatMap numsN)), m) else none
    | none => none
  | _, _ => none
theorem numsG_eq {m : Mem} {g : Grow} {l : List Nd} (h : l.length ≤ 1000) : numsG [.lst g 7 (rowsN l)] m = some (.lst .no 1 (rowsI (l.flatMap numsN)), m) := by
  simp only [numsG, unN_rowsN]
  rw [if_pos h]
theorem fldA {x : Nd} : evFieldAddr Tryz.prog 102 (.eptr x.row) 1 = some (.eptr (x.row.drop 1)) := by kernel_rfl
theorem fldB {x : Nd} : evFieldAddr Tryz.prog 102 (.eptr x.row) 2 = some (.eptr (x.row.drop 2)) := by kernel_rfl
theorem fldC {x : Nd} : evFieldAddr Tryz.prog 102 (.eptr x.row) 3 = some (.eptr (x.row.drop 3)) := by kernel_rfl
theorem ldA {m : Mem} {x : Nd} : evLoad Tryz.prog m 3 (.eptr (x.row.drop 1)) = some (.v (.int .i64 x.a)) := loadInt
theorem ldB {m : Mem} {x : Nd} : evLoad Tryz.prog m 3 (.eptr (x.row.drop 2)) = some (.v (.int .i64 x.b)) := loadInt
theorem ldC {m : Mem} {x : Nd} : evLoad Tryz.prog m 3 (.eptr (x.row.drop 3)) = some (.v (.int .i64 x.c)) := loadInt
attribute [local go_sem] fldA fldB fldC ldA ldB ldC
def kpNums : Nat → Option (List Nat) := fun
  | 0 => some [0]
  | 1 => some [0, 3]
  | 2 => some [0, 3, 4]
  | 3 => some [0, 3, 4, 9]
  | 4 => some [0, 3, 4]
  | 5 => some [0, 3, 4, 17]
  | 6 => some [0, 3, 4]
  | 7 => some [0, 3, 4, 39]
  | 8 => some [0, 3, 4]
  | 9 => some [0, 3, 4, 53]
  | 10 => some [0, 3, 4]
  | 11 => some [2]
  | _ => none
attribute [go_sem] kpNums
theorem nums_ok : FunOk Tryz.prog 116 numsG := by
  have hC := table_ok (P := Tryz.prog) (l := []) table_nil
  refine fun_ok mixed hC Tryz.func116 rfl kpNums false rfl fun args m r h => ?_
  unfold numsG at h
  split at h
  · rename_i g rows
    split at h
    · rename_i l hl0
      obtain rfl := unN_some hl0
      split at h
      · rename_i hlen
        simp only [Option.some.injEq] at h
        subst h
        refine ⟨Nat.le_of_ble_eq_true rfl, ?_⟩
        refine en ?_
        refine go0 ?_
        refine runs_loop (fun k e m' => ∃ (i : Nat) (gr : Grow), i ≤ l.length ∧ Grows m gr m' ∧ k = l.length - i ∧
          e = [(0, .lst g 7 (rowsN l)), (3, .lst gr 1 (rowsI ((l.take i).flatMap numsN))), (4, .v (.int .i64 (i : Int)))]) (k := l.length) ⟨0, _, Nat.zero_le _, grows_full, rfl, rfl⟩ ?_
        rintro k e m' ⟨i, gr, hi0, hG, rfl, rfl⟩
        refine go0 ?_
        refine runs_cond rfl (fun hc => ?_) (fun hc => ?_)
        · have hi1 : i < l.length := by have := of_decide_eq_true hc; omega
          have f2 := atNodes (g := g) (kk := .i64) hi1
          have hN := flat_next (f := numsN) (d := nd0) hi1
          have hlen2 := numsL_len (l.take i)
          rw [List.length_take] at hlen2
          have r6 := next_i64 (i := i) (by omega)
          have hx : numsN (l.getD i nd0) = if (l.getD i nd0).op = 9 then [] else [(l.getD i nd0).a] ++ (if 2 ≤ (l.getD i nd0).op ∧ (l.getD i nd0).op ≤ 7 then [(l.getD i nd0).b] else []) ++ (if (l.getD i nd0).op = 6 then [(l.getD i nd0).c] else []) := rfl
          generalize l.getD i nd0 = x at f2 hN hx
          generalize (l.take i).flatMap numsN = acc at hN hlen2
          have done : ∀ (gr' : Grow) (m2 : Mem) (L : List Int), L = acc ++ numsN x → Grows m gr' m2 → ∃ k', k' < l.length - i ∧ ∃ (i' : Nat) (gr2 : Grow), i' ≤ l.length ∧ Grows m gr2 m2 ∧ k' = l.length - i' ∧
              [(0, AV.lst g 7 (rowsN l)), (3, .lst gr' 1 (rowsI L)), (4, .v (.int .i64 ((i + 1 : Nat) : Int)))] = [(0, .lst g 7 (rowsN l)), (3, .lst gr2 1 (rowsI ((l.take i').flatMap numsN))), (4, .v (.int .i64 (i' : Int)))] :=
            fun gr' m2 L hL hG' => ⟨l.length - (i + 1), by omega, i + 1, gr', hi1, hG', rfl, by rw [hL, hN]⟩
          by_cases h9 : x.op = 9
          · have b9 : (x.op == 9) = true := by simpa using h9
            rw [if_pos h9] at hx
            refine go1 (jn @f2 @b9) ?_
            refine runs_cond rfl (fun hc => ?_) (fun hc => by cases hc)
            refine go1 @r6 ?_
            exact done _ _ _ (by rw [hx, List.append_nil]) hG
          · have b9 : (x.op == 9) = false := by simpa using h9
            rw [if_neg h9] at hx
            obtain ⟨g1, m1, ha1, hG1⟩ := app_int (g2 := .full) appInts hG acc x.a (by unfold lim; omega)
            refine go1 (jn @f2 @b9) ?_
            refine runs_cond rfl (fun hc => by cases hc) (fun hc => ?_)
            by_cases h27 : 2 ≤ x.op ∧ x.op ≤ 7
            · have b2 : decide (x.op ≥ 2) = true := decide_eq_true h27.1
              have b7 : decide (x.op ≤ 7) = true := decide_eq_true h27.2
              obtain ⟨g2, m2, ha2, hG2⟩ := app_int (g2 := .full) appInts hG1 (acc ++ [x.a]) x.b (by unfold lim; simp; omega)
              rw [if_pos h27] at hx
              refine go1 (jn @f2 (jn @ha1 (jn @b2 @b7))) ?_
              refine runs_cond rfl (fun hc => ?_) (fun hc => by cases hc)
              by_cases h6 : x.op = 6
              · have b6 : (x.op == 6) = true := by simpa using h6
                obtain ⟨g3, m3, ha3, hG3⟩ := app_int (g2 := .full) appInts hG2 (acc ++ [x.a] ++ [x.b]) x.c (by unfold lim; simp; omega)
                rw [if_pos h6] at hx
                refine go1 (jn @f2 (jn @ha2 @b6)) ?_
                refine runs_cond rfl (fun hc => ?_) (fun hc => by cases hc)
                refine go1 (jn @f2 (jn @ha3 @r6)) ?_
                exact done _ _ _ (by rw [hx]; simp) hG3
              · have b6 : (x.op == 6) = false := by simpa using h6
                rw [if_neg h6] at hx
                refine go1 (jn @f2 (jn @ha2 @b6)) ?_
                refine runs_cond rfl (fun hc => by cases hc) (fun hc => ?_)
                refine go1 @r6 ?_
                exact done _ _ _ (by rw [hx]; simp) hG2
            · have h6 : x.op ≠ 6 := by omega
              have b6 : (x.op == 6) = false := by simpa using h6
              rw [if_neg h27, if_neg h6] at hx
              by_cases h2 : 2 ≤ x.op
              · have b2 : decide (x.op ≥ 2) = true := decide_eq_true h2
                have b7 : decide (x.op ≤ 7) = false := decide_eq_false (by omega)
                refine go1 (jn @f2 (jn @ha1 (jn @b2 @b7))) ?_
                refine runs_cond rfl (fun hc => by cases hc) (fun hc => ?_)
                refine go1 (jn @f2 @b6) ?_
                refine runs_cond rfl (fun hc => by cases hc) (fun hc => ?_)
                refine go1 @r6 ?_
                exact done _ _ _ (by rw [hx]; simp) hG1
              · have b2 : decide (x.op ≥ 2) = false := decide_eq_false (by omega)
                refine go1 (jn @f2 (jn @ha1 @b2)) ?_
                refine runs_cond rfl (fun hc => by cases hc) (fun hc => ?_)
                refine go1 (jn @f2 @b6) ?_
                refine runs_cond rfl (fun hc => by cases hc) (fun hc => ?_)
                refine go1 @r6 ?_
                exact done _ _ _ (by rw [hx]; simp) hG1
        · have hi1 : i = l.length := by have := of_decide_eq_false hc; omega
          subst hi1
          rw [List.take_length]
          refine go0 ?_
          exact leaves_lst rfl rfl (fin_grows hG)
      · cases h
    · cases h
  · cases h
end
section
attribute [local irreducible] Next Inside Runs Ops table
attribute [local go_sem] szStr szInt Option.getD_some isNil evStr iv loadStr loadInt rowsS_len rowsN_len rowsGs_len rowsPh_len mapGs mapPh mapRc mapNd ldNode ldGs ldPh cellsNd cellsGs cellsPh cellsRc newNd newGs newPh newRc zrPh zoPh znPh zsPh zrGs zoGs znGs zsGs fpGsGroup fpGsParam fpGsNodes fpPhName fpPhLen fpPhLenU fpPhFrozen fpPhSets fpRcName fpRcSteps fpRcEpoch fpRcWeights fpRcMetrics fpRcGroups fpRcEval fpRcPhases
theorem fpNdOp {r : Nat} : evFieldAddr Tryz.prog 102 (.ptr r 0) 0 = some (.ptr r 0) := by kernel_rfl
attribute [local go_sem] fpNdOp
theorem fpNdA {r : Nat} : evFieldAddr Tryz.prog 102 (.ptr r 0) 1 = some (.ptr r 1) := by kernel_rfl
attribute [local go_sem] fpNdA
theorem fpNdB {r : Nat} : evFieldAddr Tryz.prog 102 (.ptr r 0) 2 = some (.ptr r 2) := by kernel_rfl
attribute [local go_sem] fpNdB
theorem fpNdK {r : Nat} : evFieldAddr Tryz.prog 102 (.ptr r 0) 4 = some (.ptr r 4) := by kernel_rfl
attribute [local go_sem] fpNdK
theorem lpNdI {m : Mem} {r : Nat} {x : Nd} {i : Nat} {v : Int} (hv : m.var r = some x.row) (h : (x.row.drop i).head? = some (.v (.int .i64 v))) : evLoad Tryz.prog m 3 (.ptr r i) = some (.v (.int .i64 v)) := by
  unfold evLoad
  simp only [ptrCells, hv, Option.map_some, szInt, agInt]
  exact h
def kpRWithin : Nat → Option (List Nat) := fun
  | 0 => some [0, 1, 2]
  | 1 => some [6]
  | _ => none
attribute [go_sem] kpRWithin
theorem rwithin_ok : FunOk Tryz.prog 79 withinG := by
  have hC := table_ok (P := Tryz.prog) (l := []) table_nil
  refine fun_ok mixed hC Tryz.func79 rfl kpRWithin false rfl fun args m r h => ?_
  unfold withinG at h
  split at h
  · rename_i x lo hi
    simp only [Option.some.injEq] at h
    subst h
    refine ⟨Nat.le_of_ble_eq_true rfl, ?_⟩
    refine en ?_
    by_cases h0 : lo ≤ x
    · have b0 : decide (x ≥ lo) = true := decide_eq_true h0
      by_cases h1 : x ≤ hi
      · have b1 : decide (x ≤ hi) = true := decide_eq_true h1
        rw [decide_eq_true (show lo ≤ x ∧ x ≤ hi from ⟨h0, h1⟩)]
        refine go1 (jn @b0 @b1) ?_
        exact leaves_v rfl rfl
      · have b1 : decide (x ≤ hi) = false := decide_eq_false h1
        rw [decide_eq_false (fun h : lo ≤ x ∧ x ≤ hi => h1 h.2)]
        refine go1 (jn @b0 @b1) ?_
        exact leaves_v rfl rfl
    · have b0 : decide (x ≥ lo) = false := decide_eq_false h0
      rw [decide_eq_false (fun h : lo ≤ x ∧ x ≤ hi => h0 h.1)]
      refine go1 @b0 ?_
      exact leaves_v rfl rfl
  · cases h
/-! ### bent -/
def bentN (x : Nd) : Bool := if x.op = 3 ∨ x.op = 7 then !decide (1 ≤ x.k ∧ x.k ≤ 16) else if x.op = 4 then decide (x.b > x.a) || decide (x.k > 4294967296) else false
def bentNG : List AV → Mem → Option (AV × Mem)
  | [.agg cs], m =>
    match unNd cs with
    | some x => some (.v (.bool (bentN x)), m)
    | none => none
  | _, _ => none
theorem bentNG_at (x : Nd) (m : Mem) : bentNG [.agg x.row] m = some (.v (.bool (bentN x)), m) := by
  simp only [bentNG, unNd_of]
def kpBent : Nat → Option (List Nat) := fun
  | 0 => some [1]
  | 1 => some [1, 4]
  | 2 => some [1, 4, 5]
  | 3 => some [1, 4, 5]
  | 4 => some [2]
  | 5 => some [1, 12]
  | 6 => some [2]
  | 7 => some [2]
  | _ => none
attribute [go_sem] kpBent
def tab_bentN_ok : List (FuncId × (List AV → Mem → Option (AV × Mem))) := [(79, withinG)]
theorem bentN_ok : FunOk Tryz.prog 90 bentNG := by
  have hC := table_ok (P := Tryz.prog) (l := tab_bentN_ok) (table_more rwithin_ok table_nil)
  have t1 := fun args mm => table_at (l := tab_bentN_ok) (f := 79) (args := args) (m := mm) rfl
  refine fun_ok mixed hC Tryz.func90 rfl kpBent false rfl fun args m r h => ?_
  unfold bentNG at h
  split at h
  · rename_i cs
    split at h
    · rename_i x hx
      obtain rfl := unNd_row hx
      simp only [Option.some.injEq] at h
      subst h
      refine ⟨Nat.le_of_ble_eq_true rfl, ?_⟩
      refine en ?_
      rw [show nrow x.op x.a x.b x.c x.k x.u x.n = x.row from rfl]
      have hv : (m.push x.row).var m.vars.length = some x.row := push_var
      have l1 := lpNdI (i := 0) (v := x.op) hv rfl
      have l2 := lpNdI (i := 1) (v := x.a) hv rfl
      have l3 := lpNdI (i := 2) (v := x.b) hv rfl
      have l4 := lpNdI (i := 4) (v := x.k) hv rfl
      have fw : ∀ x lo hi mm, withinG [.v (.int .i64 x), .v (.int .i64 lo), .v (.int .i64 hi)] mm = some (.v (.bool (decide (lo ≤ x ∧ x ≤ hi))), mm) := fun _ _ _ _ => rfl
      unfold bentN
      by_cases h3 : x.op = 3
      · have b3 : (x.op == 3) = true := by simpa using h3
        rw [if_pos (.inl h3)]
        repeat' (first | refine gos1 (jn @l1 (jn @l4 (jn @b3 (jn @t1 @fw)))) ?_ | (refine ops_here ?_; (fail_if_success (refine ops_case (B := true) rfl rfl rfl ?_ ?_)); (fail_if_success (refine ops_case (B := false) rfl rfl rfl ?_ ?_)); refine ops_case rfl rfl rfl (fun hB => ?_) (fun hB => ?_) <;> rw [hB]) | (refine runs_here ?_; refine runs_cond rfl (fun hc => ?_) (fun hc => ?_) <;> first | (cases hc; done) | skip))
        all_goals exact leaves_fin rfl rfl fin_push
      · have b3 : (x.op == 3) = false := by simpa using h3
        by_cases h7 : x.op = 7
        · have b7 : (x.op == 7) = true := by simpa using h7
          rw [if_pos (.inr h7)]
          repeat' (first | refine gos1 (jn @l1 (jn @l4 (jn @b3 (jn @b7 (jn @t1 @fw))))) ?_ | (refine ops_here ?_; (fail_if_success (refine ops_case (B := true) rfl rfl rfl ?_ ?_)); (fail_if_success (refine ops_case (B := false) rfl rfl rfl ?_ ?_)); refine ops_case rfl rfl rfl (fun hB => ?_) (fun hB => ?_) <;> rw [hB]) | (refine runs_here ?_; refine runs_cond rfl (fun hc => ?_) (fun hc => ?_) <;> first | (cases hc; done) | skip))
          all_goals exact leaves_fin rfl rfl fin_push
        · have b7 : (x.op == 7) = false := by simpa using h7
          rw [if_neg (by omega)]
          by_cases h4 : x.op = 4
          · have b4 : (x.op == 4) = true := by simpa using h4
            rw [if_pos h4]
            cases h5 : decide (x.b > x.a) with
            | true =>
              repeat' (first | refine gos1 (jn @l1 (jn @l2 (jn @l3 (jn @l4 (jn @b3 (jn @b7 (jn @b4 @h5))))))) ?_ | (refine ops_here ?_; (fail_if_success (refine ops_case (B := true) rfl rfl rfl ?_ ?_)); (fail_if_success (refine ops_case (B := false) rfl rfl rfl ?_ ?_)); refine ops_case rfl rfl rfl (fun hB => ?_) (fun hB => ?_) <;> rw [hB]) | (refine runs_here ?_; refine runs_cond rfl (fun hc => ?_) (fun hc => ?_) <;> first | (cases hc; done) | skip))
              all_goals exact leaves_fin rfl rfl fin_push
            | false =>
              repeat' (first | refine gos1 (jn @l1 (jn @l2 (jn @l3 (jn @l4 (jn @b3 (jn @b7 (jn @b4 @h5))))))) ?_ | (refine ops_here ?_; (fail_if_success (refine ops_case (B := true) rfl rfl rfl ?_ ?_)); (fail_if_success (refine ops_case (B := false) rfl rfl rfl ?_ ?_)); refine ops_case rfl rfl rfl (fun hB => ?_) (fun hB => ?_) <;> rw [hB]) | (refine runs_here ?_; refine runs_cond rfl (fun hc => ?_) (fun hc => ?_) <;> first | (cases hc; done) | skip))
              all_goals exact leaves_fin rfl rfl fin_push
          · have b4 : (x.op == 4) = false := by simpa using h4
            rw [if_neg h4]
            repeat' (first | refine gos1 (jn @l1 (jn @b3 (jn @b7 @b4))) ?_ | (refine ops_here ?_; (fail_if_success (refine ops_case (B := true) rfl rfl rfl ?_ ?_)); (fail_if_success (refine ops_case (B := false) rfl rfl rfl ?_ ?_)); refine ops_case rfl rfl rfl (fun hB => ?_) (fun hB => ?_) <;> rw [hB]) | (refine runs_here ?_; refine runs_cond rfl (fun hc => ?_) (fun hc => ?_) <;> first | (cases hc; done) | skip))
            all_goals exact leaves_fin rfl rfl fin_push
    · cases h
  · cases h
def bnFindG : List AV → Mem → Option (AV × Mem)
  | [.lst _ 7 rows, .fn (.func 90) [] []], m =>
    match unN rows with
    | some l => if l.length ≤ big40 then some (.v (.int .i64 (firstBy bentN l 0)), m) else none
    | none => none
  | _, _ => none
theorem bnFindG_eq {m : Mem} {g : Grow} {l : List Nd} (h : l.length ≤ big40) : bnFindG [.lst g 7 (rowsN l), .fn (.func 90) [] []] m = some (.v (.int .i64 (firstBy bentN l 0)), m) := by
  simp only [bnFindG, unN_rowsN]
  rw [if_pos h]
def kp_bnFind : Nat → Option (List Nat) := fun _ => some [0, 1, 4, 5, 7, 8, 9, 16]
attribute [go_sem] kp_bnFind
def tab_bnFind_ok : List (FuncId × (List AV → Mem → Option (AV × Mem))) := [(90, bentNG)]
theorem bnFind_ok : FunOk Tryz.prog 133 bnFindG := by
  have hC := table_ok (P := Tryz.prog) (l := tab_bnFind_ok) (table_more bentN_ok table_nil)
  have t1 := fun args mm => table_at (l := tab_bnFind_ok) (f := 90) (args := args) (m := mm) rfl
  refine fun_ok mixed hC Tryz.func133 rfl kp_bnFind false rfl fun args m r h => ?_
  unfold bnFindG at h
  split at h
  · rename_i g rows
    split at h
    · rename_i l hl0
      obtain rfl := unN_some hl0
      split at h
      · rename_i hyp
        simp only [Option.some.injEq] at h
        subst h
        refine ⟨Nat.le_of_ble_eq_true rfl, ?_⟩
        refine en ?_
        have hlen := hyp
        have hlen' := hlen
        unfold big40 at hlen'
        refine go0 ?_
        refine runs_loop (fun k e m' => ∃ (i : Nat) (x5 x9 x16 : AV), i ≤ l.length ∧ firstBy bentN (l.drop i) i = firstBy bentN l 0 ∧ m = m' ∧ k = l.length - i ∧
          e = [(0, AV.lst g 7 (rowsN l)), (1, .fn (.func 90) [] []), (4, .v (.int .i64 0)), (5, x5), (7, .v (.int .i64 l.length)), (8, .v (.int .i64 (i : Int))), (9, x9), (16, x16)]) (k := l.length) ⟨0, _, _, _, Nat.zero_le _, rfl, rfl, rfl, rfl⟩ ?_
        rintro k e m' ⟨i, x5, x9, x16, hi, hf, rfl, rfl, rfl⟩
        refine go0 ?_
        refine runs_cond rfl (fun hc => ?_) (fun hc => ?_)
        · have hi1 : i < l.length := by have := of_decide_eq_true hc; omega
          have f1 := atNodes (g := g) (kk := .i64) hi1
          have f2 := fun mm => bentNG_at (l.getD i nd0) mm
          refine go1 (jn @f1 (jn @t1 @f2)) ?_
          refine runs_cond rfl (fun hc => ?_) (fun hc => ?_)
          · rw [by_yes hi1 hc hf]
            refine go0 ?_
            exact leaves_v rfl rfl
          · have r6 := next_i64 (i := i) (by omega)
            refine go1 @r6 ?_
            exact ⟨l.length - (i + 1), by omega, i + 1, _, _, _, hi1, by_no hi1 hc hf, rfl, rfl, rfl⟩
        · have hi1 : i = l.length := by have := of_decide_eq_false hc; omega
          subst hi1
          rw [by_end hf]
          refine go0 ?_
          exact leaves_v rfl rfl
      · cases h
    · cases h
  · cases h
def bnAnyG : List AV → Mem → Option (AV × Mem)
  | [.lst _ 7 rows, .fn (.func 90) [] []], m =>
    match unN rows with
    | some l => if l.length ≤ big40 then some (.v (.bool (l.any bentN)), m) else none
    | none => none
  | _, _ => none
theorem bnAnyG_eq {m : Mem} {g : Grow} {l : List Nd} (h : l.length ≤ big40) : bnAnyG [.lst g 7 (rowsN l), .fn (.func 90) [] []] m = some (.v (.bool (l.any bentN)), m) := by
  simp only [bnAnyG, unN_rowsN]
  rw [if_pos h]
def kp_bnAny : Nat → Option (List Nat) := fun _ => some [0, 1, 4]
attribute [go_sem] kp_bnAny
def tab_bnAny_ok : List (FuncId × (List AV → Mem → Option (AV × Mem))) := [(133, bnFindG)]
theorem bnAny_ok : FunOk Tryz.prog 89 bnAnyG := by
  have hC := table_ok (P := Tryz.prog) (l := tab_bnAny_ok) (table_more bnFind_ok table_nil)
  have t1 := fun args mm => table_at (l := tab_bnAny_ok) (f := 133) (args := args) (m := mm) rfl
  refine fun_ok mixed hC Tryz.func89 rfl kp_bnAny false rfl fun args m r h => ?_
  unfold bnAnyG at h
  split at h
  · rename_i g rows
    split at h
    · rename_i l hl0
      obtain rfl := unN_some hl0
      split at h
      · rename_i hyp
        simp only [Option.some.injEq] at h
        subst h
        refine ⟨Nat.le_of_ble_eq_true rfl, ?_⟩
        refine en ?_
        have f1 := fun mm => bnFindG_eq (m := mm) (g := .no) hyp
        have f3 : decide (firstBy bentN l 0 ≥ 0) = l.any bentN := firstBy_any bentN l 0
        refine go1 (jn @t1 (jn @f1 @f3)) ?_
        exact leaves_v rfl rfl
      · cases h
    · cases h
  · cases h
def bentS (x : Gs) : Bool := x.nodes.any bentN
def bentSG : List AV → Mem → Option (AV × Mem)
  | [.agg cs], m =>
    match unGs cs with
    | some x => if x.nodes.length ≤ big40 then some (.v (.bool (bentS x)), m) else none
    | none => none
  | _, _ => none
theorem bentSG_at (x : Gs) (m : Mem) (h : x.nodes.length ≤ big40) : bentSG [.agg x.row] m = some (.v (.bool (bentS x)), m) := by
  simp only [bentSG, unGs_row]
  rw [if_pos h]
def kpBentS : Nat → Option (List Nat) := fun
  | 0 => some [1]
  | 1 => some [2]
  | _ => none
attribute [go_sem] kpBentS
def tab_bentS_ok : List (FuncId × (List AV → Mem → Option (AV × Mem))) := [(89, bnAnyG)]
theorem bentS_ok : FunOk Tryz.prog 88 bentSG := by
  have hC := table_ok (P := Tryz.prog) (l := tab_bentS_ok) (table_more bnAny_ok table_nil)
  have t1 := fun args mm => table_at (l := tab_bentS_ok) (f := 89) (args := args) (m := mm) rfl
  refine fun_ok mixed hC Tryz.func88 rfl kpBentS false rfl fun args m r h => ?_
  unfold bentSG at h
  split at h
  · rename_i cs
    split at h
    · rename_i x hx
      obtain rfl := unGs_some hx
      split at h
      · rename_i hyp
        simp only [Option.some.injEq] at h
        subst h
        refine ⟨Nat.le_of_ble_eq_true rfl, ?_⟩
        refine en ?_
        have hv : (m.push x.row).var m.vars.length = some x.row := push_var
        have l1 := lpGsNodes hv
        have f1 := fun mm => bnAnyG_eq (m := mm) (g := .no) hyp
        refine go1 (jn @l1 (jn @t1 @f1)) ?_
        exact leaves_fin rfl rfl fin_push
      · cases h
    · cases h
  · cases h
/-! ### high -/
def highS (x : Gs) : Bool := (x.param != 0) && decide ((endsL x.nodes).2 > 4294967296)
def highSG : List AV → Mem → Option (AV × Mem)
  | [.agg cs], m =>
    match unGs cs with
    | some x => if x.nodes.length ≤ big40 then some (.v (.bool (highS x)), m) else none
    | none => none
  | _, _ => none
theorem highSG_at (x : Gs) (m : Mem) (h : x.nodes.length ≤ big40) : highSG [.agg x.row] m = some (.v (.bool (highS x)), m) := by
  simp only [highSG, unGs_row]
  rw [if_pos h]
def kpHighS : Nat → Option (List Nat) := fun
  | 0 => some [1]
  | 1 => some [1, 4]
  | 2 => some [2]
  | _ => none
attribute [go_sem] kpHighS
def tab_highS_ok : List (FuncId × (List AV → Mem → Option (AV × Mem))) := [(114, endsG)]
theorem highS_ok : FunOk Tryz.prog 91 highSG := by
  have hC := table_ok (P := Tryz.prog) (l := tab_highS_ok) (table_more ends_ok table_nil)
  have t1 := fun args mm => table_at (l := tab_highS_ok) (f := 114) (args := args) (m := mm) rfl
  refine fun_ok mixed hC Tryz.func91 rfl kpHighS false rfl fun args m r h => ?_
  unfold highSG at h
  split at h
  · rename_i cs
    split at h
    · rename_i x hx
      obtain rfl := unGs_some hx
      split at h
      · rename_i hyp
        simp only [Option.some.injEq] at h
        subst h
        refine ⟨Nat.le_of_ble_eq_true rfl, ?_⟩
        refine en ?_
        have hv : (m.push x.row).var m.vars.length = some x.row := push_var
        have l1 := lpGsNodes hv
        have l2 := lpGsParam hv
        have f1 := fun mm => endsG_eq (m := mm) (g := .no) hyp
        unfold highS
        cases h1 : (x.param != 0) with
        | true =>
          refine go1 (jn @l1 (jn @l2 (jn @t1 (jn @f1 @h1)))) ?_
          exact leaves_fin rfl rfl fin_push
        | false =>
          refine go1 (jn @l1 (jn @l2 (jn @t1 (jn @f1 @h1)))) ?_
          exact leaves_fin rfl rfl fin_push
      · cases h
    · cases h
  · cases h
/-! ### each -/
def eachBL (rule : Int) (R : Rc) : List Fl := upto R.phases.length fun i => upto (R.phases.getD i ph0).sets.length fun k => flawIf (bentS ((R.phases.getD i ph0).sets.getD k gs0)) rule i k
def eachBG : List AV → Mem → Option (AV × Mem)
  | [.ptr r 0, .agg cs, .fn (.func 88) [] []], m =>
    match unRc cs, m.var r with
    | some R, some [.v (.int .i64 rule), .lst .full 3 []] => if R.small then some (.tup [], flMem m r rule (eachBL rule R)) else none
    | _, _ => none
  | _, _ => none
theorem eachBG_at {m : Mem} {r : Nat} {rule : Int} {R : Rc} (hv : m.var r = some [.v (.int .i64 rule), .lst .full 3 []]) (h : R.small) : eachBG [.ptr r 0, .agg R.row, .fn (.func 88) [] []] m = some (.tup [], flMem m r rule (eachBL rule R)) := by
  simp only [eachBG, unRc_row, hv]
  rw [if_pos h]
def kpEachB : Nat → Option (List Nat) := fun
  | 0 => some [0, 2, 4]
  | 1 => some [0, 2, 11, 12, 13]
  | 2 => some [0, 2, 11, 12, 13, 14]
  | 3 => some [0, 2, 6, 7, 11, 12, 13]
  | 4 => some [0, 2, 6, 11, 12, 13, 19, 20, 21]
  | 5 => some [0, 2, 6, 11, 12, 13, 19, 20, 21, 22]
  | 6 => some [0, 2, 6, 8, 9, 11, 12, 13, 19, 20, 21]
  | 7 => some [0, 2, 6, 11, 12, 13, 19, 20, 21]
  | 8 => some [0, 2, 6, 11, 12, 13, 19, 20, 21]
  | 9 => some [0, 2, 11, 12, 13]
  | _ => none
attribute [go_sem] kpEachB
def tab_eachB_ok : List (FuncId × (List AV → Mem → Option (AV × Mem))) := [(78, noteG), (88, bentSG)]
theorem eachB_ok : FunOk Tryz.prog 87 eachBG := by
  have hC := table_ok (P := Tryz.prog) (l := tab_eachB_ok) (table_more note_ok (table_more bentS_ok table_nil))
  have t1 := fun args mm => table_at (l := tab_eachB_ok) (f := 78) (args := args) (m := mm) rfl
  have t2 := fun args mm => table_at (l := tab_eachB_ok) (f := 88) (args := args) (m := mm) rfl
  refine fun_ok mixed hC Tryz.func87 rfl kpEachB false rfl fun args m r h => ?_
  unfold eachBG at h
  split at h
  · rename_i r0 cs
    split at h
    · rename_i R rule hR hv
      obtain rfl := unRc_some hR
      split at h
      · rename_i hsm
        simp only [Option.some.injEq] at h
        subst h
        have hr0 := (var_lt hv).1
        have hP64 := hsm.2.2.1
        refine ⟨Nat.le_of_ble_eq_true rfl, ?_⟩
        refine en ?_
        have hv3 : (m.push R.row).var m.vars.length = some R.row := push_var
        have f1 := lpRcPhases hv3
        refine go1 @f1 ?_
        refine runs_loop (fun k e m' => ∃ (i : Nat), i ≤ R.phases.length ∧ Above (flMem m r0 rule (upto i fun i => upto (R.phases.getD i ph0).sets.length fun k => flawIf (bentS ((R.phases.getD i ph0).sets.getD k gs0)) rule i k)) m' ∧ k = R.phases.length - i ∧
          e = [(0, AV.ptr r0 0), (2, .fn (.func 88) [] []), (11, .lst .no 5 (rowsPh R.phases)), (12, .v (.int .i64 (R.phases.length : Int))), (13, .v (.int .i64 (i : Int)))]) (k := R.phases.length)
          ⟨0, Nat.zero_le _, by rw [upto_zero, flMem_nil]; exact above_push (above_self m), rfl, rfl⟩ ?_
        rintro k e m' ⟨i, hi0, hA, rfl, rfl⟩
        refine go0 ?_
        refine runs_cond rfl (fun hc => ?_) (fun hc => ?_)
        · have hi1 : i < R.phases.length := by have := of_decide_eq_true hc; omega
          have f2 := atPh (g := .no) (kk := .i64) hi1
          have hp := hsm.phase i
          have hN := @upto_next i (fun i => upto (R.phases.getD i ph0).sets.length fun k => flawIf (bentS ((R.phases.getD i ph0).sets.getD k gs0)) rule i k)
          have hB := @upto_len (fun i => upto (R.phases.getD i ph0).sets.length fun k => flawIf (bentS ((R.phases.getD i ph0).sets.getD k gs0)) rule i k) 64 i (fun j _ => by
            have := @upto_len (fun k => flawIf (bentS ((R.phases.getD j ph0).sets.getD k gs0)) rule j k) 1 (R.phases.getD j ph0).sets.length fun k _ => flawIf_len ..
            have := (hsm.phase j).2.1
            omega)
          generalize hfl : (upto i fun i => upto (R.phases.getD i ph0).sets.length fun k => flawIf (bentS ((R.phases.getD i ph0).sets.getD k gs0)) rule i k) = fl at hA hN hB
          generalize R.phases.getD i ph0 = p at f2 hp hN
          have hA1 := above_push (cs := p.row) hA
          have hp5 : (m'.push p.row).var m'.vars.length = some p.row := push_var
          have l1 := lpPhSets hp5
          refine go1 (jn @f2 @l1) ?_
          generalize m'.push p.row = m5 at hA1
          refine runs_loop (fun k e m' => ∃ (j : Nat), j ≤ p.sets.length ∧ Above (flMem m r0 rule (fl ++ upto j fun k => flawIf (bentS (p.sets.getD k gs0)) rule i k)) m' ∧ k = p.sets.length - j ∧
            e = [(0, AV.ptr r0 0), (2, .fn (.func 88) [] []), (6, .v (.int .i64 (i : Int))), (11, .lst .no 5 (rowsPh R.phases)), (12, .v (.int .i64 (R.phases.length : Int))), (13, .v (.int .i64 (i : Int))), (19, .lst .no 3 (rowsGs p.sets)), (20, .v (.int .i64 (p.sets.length : Int))), (21, .v (.int .i64 (j : Int)))]) (k := p.sets.length)
            ⟨0, Nat.zero_le _, by rw [upto_zero, List.append_nil]; exact hA1, rfl, rfl⟩ ?_
          rintro k e m'' ⟨j, hj0, hA2, rfl, rfl⟩
          refine go0 ?_
          refine runs_cond rfl (fun hc => ?_) (fun hc => ?_)
          · have hj1 : j < p.sets.length := by have := of_decide_eq_true hc; omega
            have f4 := atGs (g := .no) (kk := .i64) hj1
            have hs100 : (p.sets.getD j gs0).nodes.length ≤ 100 := hp.2.2 _ (by rw [List.getD, List.getElem?_eq_getElem hj1]; exact List.getElem_mem _)
            have hN2 := @upto_next j (fun k => flawIf (bentS (p.sets.getD k gs0)) rule i k)
            have hB2 := @upto_len (fun k => flawIf (bentS (p.sets.getD k gs0)) rule i k) 1 j fun k _ => flawIf_len ..
            generalize hfl2 : (upto j fun k => flawIf (bentS (p.sets.getD k gs0)) rule i k) = fl2 at hA2 hN2 hB2
            generalize p.sets.getD j gs0 = s at f4 hs100 hN2
            have hA3 := above_push (cs := s.row) hA2
            have hu8 : (m''.push s.row).var m''.vars.length = some s.row := push_var
            have l2 := vrGs hu8
            have f5 := fun mm => bentSG_at s mm (by unfold big40; omega)
            have hpl := hp.2.1
            obtain ⟨m2, n1, n2, n3⟩ := note_step hv hA3 (by rw [List.length_append]; omega) (bentS s) i j
            rw [flawIf_app, List.append_assoc, ← hN2] at n2
            have r6 := next_i64 (i := j) (by omega)
            refine go1 (jn @f4 (jn @l2 (jn @t2 (jn @f5 (jn @t1 (jn @n1 @r6)))))) ?_
            exact ⟨p.sets.length - (j + 1), by omega, j + 1, hj1, n2, rfl, rfl⟩
          · have hj1 : j = p.sets.length := by have := of_decide_eq_false hc; omega
            subst hj1
            have r6 := next_i64 (i := i) (by omega)
            rw [← hN] at hA2
            refine go1 @r6 ?_
            exact ⟨R.phases.length - (i + 1), by omega, i + 1, hi1, hA2, rfl, rfl⟩
        · have hi1 : i = R.phases.length := by have := of_decide_eq_false hc; omega
          subst hi1
          refine go0 ?_
          exact leaves_none rfl (fin_flMem hv hA)
      · cases h
    · cases h
  · cases h
def eachHL (rule : Int) (R : Rc) : List Fl := upto R.phases.length fun i => upto (R.phases.getD i ph0).sets.length fun k => flawIf (highS ((R.phases.getD i ph0).sets.getD k gs0)) rule i k
def eachHG : List AV → Mem → Option (AV × Mem)
  | [.ptr r 0, .agg cs, .fn (.func 91) [] []], m =>
    match unRc cs, m.var r with
    | some R, some [.v (.int .i64 rule), .lst .full 3 []] => if R.small then some (.tup [], flMem m r rule (eachHL rule R)) else none
    | _, _ => none
  | _, _ => none
theorem eachHG_at {m : Mem} {r : Nat} {rule : Int} {R : Rc} (hv : m.var r = some [.v (.int .i64 rule), .lst .full 3 []]) (h : R.small) : eachHG [.ptr r 0, .agg R.row, .fn (.func 91) [] []] m = some (.tup [], flMem m r rule (eachHL rule R)) := by
  simp only [eachHG, unRc_row, hv]
  rw [if_pos h]
def kpEachH : Nat → Option (List Nat) := fun
  | 0 => some [0, 2, 4]
  | 1 => some [0, 2, 11, 12, 13]
  | 2 => some [0, 2, 11, 12, 13, 14]
  | 3 => some [0, 2, 6, 7, 11, 12, 13]
  | 4 => some [0, 2, 6, 11, 12, 13, 19, 20, 21]
  | 5 => some [0, 2, 6, 11, 12, 13, 19, 20, 21, 22]
  | 6 => some [0, 2, 6, 8, 9, 11, 12, 13, 19, 20, 21]
  | 7 => some [0, 2, 6, 11, 12, 13, 19, 20, 21]
  | 8 => some [0, 2, 6, 11, 12, 13, 19, 20, 21]
  | 9 => some [0, 2, 11, 12, 13]
  | _ => none
attribute [go_sem] kpEachH
def tab_eachH_ok : List (FuncId × (List AV → Mem → Option (AV × Mem))) := [(78, noteG), (91, highSG)]
theorem eachH_ok : FunOk Tryz.prog 87 eachHG := by
  have hC := table_ok (P := Tryz.prog) (l := tab_eachH_ok) (table_more note_ok (table_more highS_ok table_nil))
  have t1 := fun args mm => table_at (l := tab_eachH_ok) (f := 78) (args := args) (m := mm) rfl
  have t2 := fun args mm => table_at (l := tab_eachH_ok) (f := 91) (args := args) (m := mm) rfl
  refine fun_ok mixed hC Tryz.func87 rfl kpEachH false rfl fun args m r h => ?_
  unfold eachHG at h
  split at h
  · rename_i r0 cs
    split at h
    · rename_i R rule hR hv
      obtain rfl := unRc_some hR
      split at h
      · rename_i hsm
        simp only [Option.some.injEq] at h
        subst h
        have hr0 := (var_lt hv).1
        have hP64 := hsm.2.2.1
        refine ⟨Nat.le_of_ble_eq_true rfl, ?_⟩
        refine en ?_
        have hv3 : (m.push R.row).var m.vars.length = some R.row := push_var
        have f1 := lpRcPhases hv3
        refine go1 @f1 ?_
        refine runs_loop (fun k e m' => ∃ (i : Nat), i ≤ R.phases.length ∧ Above (flMem m r0 rule (upto i fun i => upto (R.phases.getD i ph0).sets.length fun k => flawIf (highS ((R.phases.getD i ph0).sets.getD k gs0)) rule i k)) m' ∧ k = R.phases.length - i ∧
          e = [(0, AV.ptr r0 0), (2, .fn (.func 91) [] []), (11, .lst .no 5 (rowsPh R.phases)), (12, .v (.int .i64 (R.phases.length : Int))), (13, .v (.int .i64 (i : Int)))]) (k := R.phases.length)
          ⟨0, Nat.zero_le _, by rw [upto_zero, flMem_nil]; exact above_push (above_self m), rfl, rfl⟩ ?_
        rintro k e m' ⟨i, hi0, hA, rfl, rfl⟩
        refine go0 ?_
        refine runs_cond rfl (fun hc => ?_) (fun hc => ?_)
        · have hi1 : i < R.phases.length := by have := of_decide_eq_true hc; omega
          have f2 := atPh (g := .no) (kk := .i64) hi1
          have hp := hsm.phase i
          have hN := @upto_next i (fun i => upto (R.phases.getD i ph0).sets.length fun k => flawIf (highS ((R.phases.getD i ph0).sets.getD k gs0)) rule i k)
          have hB := @upto_len (fun i => upto (R.phases.getD i ph0).sets.length fun k => flawIf (highS ((R.phases.getD i ph0).sets.getD k gs0)) rule i k) 64 i (fun j _ => by
            have := @upto_len (fun k => flawIf (highS ((R.phases.getD j ph0).sets.getD k gs0)) rule j k) 1 (R.phases.getD j ph0).sets.length fun k _ => flawIf_len ..
            have := (hsm.phase j).2.1
            omega)
          generalize hfl : (upto i fun i => upto (R.phases.getD i ph0).sets.length fun k => flawIf (highS ((R.phases.getD i ph0).sets.getD k gs0)) rule i k) = fl at hA hN hB
          generalize R.phases.getD i ph0 = p at f2 hp hN
          have hA1 := above_push (cs := p.row) hA
          have hp5 : (m'.push p.row).var m'.vars.length = some p.row := push_var
          have l1 := lpPhSets hp5
          refine go1 (jn @f2 @l1) ?_
          generalize m'.push p.row = m5 at hA1
          refine runs_loop (fun k e m' => ∃ (j : Nat), j ≤ p.sets.length ∧ Above (flMem m r0 rule (fl ++ upto j fun k => flawIf (highS (p.sets.getD k gs0)) rule i k)) m' ∧ k = p.sets.length - j ∧
            e = [(0, AV.ptr r0 0), (2, .fn (.func 91) [] []), (6, .v (.int .i64 (i : Int))), (11, .lst .no 5 (rowsPh R.phases)), (12, .v (.int .i64 (R.phases.length : Int))), (13, .v (.int .i64 (i : Int))), (19, .lst .no 3 (rowsGs p.sets)), (20, .v (.int .i64 (p.sets.length : Int))), (21, .v (.int .i64 (j : Int)))]) (k := p.sets.length)
            ⟨0, Nat.zero_le _, by rw [upto_zero, List.append_nil]; exact hA1, rfl, rfl⟩ ?_
          rintro k e m'' ⟨j, hj0, hA2, rfl, rfl⟩
          refine go0 ?_
          refine runs_cond rfl (fun hc => ?_) (fun hc => ?_)
          · have hj1 : j < p.sets.length := by have := of_decide_eq_true hc; omega
            have f4 := atGs (g := .no) (kk := .i64) hj1
            have hs100 : (p.sets.getD j gs0).nodes.length ≤ 100 := hp.2.2 _ (by rw [List.getD, List.getElem?_eq_getElem hj1]; exact List.getElem_mem _)
            have hN2 := @upto_next j (fun k => flawIf (highS (p.sets.getD k gs0)) rule i k)
            have hB2 := @upto_len (fun k => flawIf (highS (p.sets.getD k gs0)) rule i k) 1 j fun k _ => flawIf_len ..
            generalize hfl2 : (upto j fun k => flawIf (highS (p.sets.getD k gs0)) rule i k) = fl2 at hA2 hN2 hB2
            generalize p.sets.getD j gs0 = s at f4 hs100 hN2
            have hA3 := above_push (cs := s.row) hA2
            have hu8 : (m''.push s.row).var m''.vars.length = some s.row := push_var
            have l2 := vrGs hu8
            have f5 := fun mm => highSG_at s mm (by unfold big40; omega)
            have hpl := hp.2.1
            obtain ⟨m2, n1, n2, n3⟩ := note_step hv hA3 (by rw [List.length_append]; omega) (highS s) i j
            rw [flawIf_app, List.append_assoc, ← hN2] at n2
            have r6 := next_i64 (i := j) (by omega)
            refine go1 (jn @f4 (jn @l2 (jn @t2 (jn @f5 (jn @t1 (jn @n1 @r6)))))) ?_
            exact ⟨p.sets.length - (j + 1), by omega, j + 1, hj1, n2, rfl, rfl⟩
          · have hj1 : j = p.sets.length := by have := of_decide_eq_false hc; omega
            subst hj1
            have r6 := next_i64 (i := i) (by omega)
            rw [← hN] at hA2
            refine go1 @r6 ?_
            exact ⟨R.phases.length - (i + 1), by omega, i + 1, hi1, hA2, rfl, rfl⟩
        · have hi1 : i = R.phases.length := by have := of_decide_eq_false hc; omega
          subst hi1
          refine go0 ?_
          exact leaves_none rfl (fin_flMem hv hA)
      · cases h
    · cases h
  · cases h
end
section
attribute [local irreducible] Next Inside Runs Ops table
attribute [local go_sem] szStr szInt Option.getD_some isNil evStr iv loadStr loadInt rowsS_len rowsN_len rowsGs_len rowsPh_len mapGs mapPh mapRc ldNode ldGs ldPh cellsGs cellsPh cellsRc newGs newPh newRc zrPh zoPh znPh zsPh zrGs zoGs znGs zsGs fpPhFrozen fpRcSteps fpRcEpoch fpRcMetrics fpRcGroups fpRcEval fpRcPhases
/-! ### frozen -/
def Rc.frozenBad (R : Rc) (p : Ph) (k : Nat) : Bool := !among R.groups (p.frozen.getD k ⟨#[]⟩) || decide (placeOf p.frozen (p.frozen.getD k ⟨#[]⟩) < (k : Int))
def frozenL (rule : Int) (R : Rc) : List Fl := upto R.phases.length fun i => upto (R.phases.getD i ph0).frozen.length fun k => flawIf (R.frozenBad (R.phases.getD i ph0) k) rule i k
def frozenG : List AV → Mem → Option (AV × Mem)
  | [.ptr r 0, .agg cs], m =>
    match unRc cs, m.var r with
    | some R, some [.v (.int .i64 rule), .lst .full 3 []] => if R.small then some (.tup [], flMem m r rule (frozenL rule R)) else none
    | _, _ => none
  | _, _ => none
theorem frozenG_at {m : Mem} {r : Nat} {rule : Int} {R : Rc} (hv : m.var r = some [.v (.int .i64 rule), .lst .full 3 []]) (h : R.small) : frozenG [.ptr r 0, .agg R.row] m = some (.tup [], flMem m r rule (frozenL rule R)) := by
  simp only [frozenG, unRc_row, hv]
  rw [if_pos h]
def kpFrozen : Nat → Option (List Nat) := fun
  | 0 => some [0, 3]
  | 1 => some [0, 3, 9, 10, 11]
  | 2 => some [0, 3, 9, 10, 11, 12]
  | 3 => some [0, 3, 4, 5, 9, 10, 11]
  | 4 => some [0, 3, 4, 5, 9, 10, 11, 17, 18, 19]
  | 5 => some [0, 3, 4, 5, 9, 10, 11, 17, 18, 19, 20]
  | 6 => some [0, 3, 4, 5, 6, 7, 9, 10, 11, 17, 18, 19]
  | 7 => some [0, 3, 4, 5, 9, 10, 11, 17, 18, 19]
  | 8 => some [0, 3, 4, 5, 9, 10, 11, 17, 18, 19]
  | 9 => some [0, 3, 9, 10, 11]
  | _ => none
attribute [go_sem] kpFrozen
def tab_frozen_ok : List (FuncId × (List AV → Mem → Option (AV × Mem))) := [(78, noteG), (132, amongG), (130, placeG)]
theorem frozen_ok : FunOk Tryz.prog 85 frozenG := by
  have hC := table_ok (P := Tryz.prog) (l := tab_frozen_ok) (table_more note_ok (table_more among_ok (table_more index_ok table_nil)))
  have t1 := fun args mm => table_at (l := tab_frozen_ok) (f := 78) (args := args) (m := mm) rfl
  have t2 := fun args mm => table_at (l := tab_frozen_ok) (f := 132) (args := args) (m := mm) rfl
  have t3 := fun args mm => table_at (l := tab_frozen_ok) (f := 130) (args := args) (m := mm) rfl
  refine fun_ok mixed hC Tryz.func85 rfl kpFrozen false rfl fun args m r h => ?_
  unfold frozenG at h
  split at h
  · rename_i r0 cs
    split at h
    · rename_i R rule hR hv
      obtain rfl := unRc_some hR
      split at h
      · rename_i hsm
        simp only [Option.some.injEq] at h
        subst h
        have hr0 := (var_lt hv).1
        have hP64 := hsm.2.2.1
        refine ⟨Nat.le_of_ble_eq_true rfl, ?_⟩
        refine en ?_
        have hv3 : (m.push R.row).var m.vars.length = some R.row := push_var
        have f1 := lpRcPhases hv3
        refine go1 @f1 ?_
        refine runs_loop (fun k e m' => ∃ (i : Nat), i ≤ R.phases.length ∧ Above (flMem m r0 rule (upto i fun i => upto (R.phases.getD i ph0).frozen.length fun k => flawIf (R.frozenBad (R.phases.getD i ph0) k) rule i k)) m' ∧ m'.var m.vars.length = some R.row ∧ k = R.phases.length - i ∧
          e = [(0, AV.ptr r0 0), (3, .ptr m.vars.length 0), (9, .lst .no 5 (rowsPh R.phases)), (10, .v (.int .i64 (R.phases.length : Int))), (11, .v (.int .i64 (i : Int)))]) (k := R.phases.length)
          ⟨0, Nat.zero_le _, by rw [upto_zero, flMem_nil]; exact above_push (above_self m), hv3, rfl, rfl⟩ ?_
        rintro k e m' ⟨i, hi0, hA, hw3, rfl, rfl⟩
        refine go0 ?_
        refine runs_cond rfl (fun hc => ?_) (fun hc => ?_)
        · have hi1 : i < R.phases.length := by have := of_decide_eq_true hc; omega
          have f2 := atPh (g := .no) (kk := .i64) hi1
          have hp := hsm.phase i
          have hN := @upto_next i (fun i => upto (R.phases.getD i ph0).frozen.length fun k => flawIf (R.frozenBad (R.phases.getD i ph0) k) rule i k)
          have hB := @upto_len (fun i => upto (R.phases.getD i ph0).frozen.length fun k => flawIf (R.frozenBad (R.phases.getD i ph0) k) rule i k) 64 i (fun j _ => by
            have := @upto_len (fun k => flawIf (R.frozenBad (R.phases.getD j ph0) k) rule j k) 1 (R.phases.getD j ph0).frozen.length fun k _ => flawIf_len ..
            have := (hsm.phase j).1
            omega)
          generalize hfl : (upto i fun i => upto (R.phases.getD i ph0).frozen.length fun k => flawIf (R.frozenBad (R.phases.getD i ph0) k) rule i k) = fl at hA hN hB
          generalize R.phases.getD i ph0 = p at f2 hp hN
          have hA1 := above_push (cs := p.row) hA
          have hp5 : (m'.push p.row).var m'.vars.length = some p.row := push_var
          have hw5 := push_old (cs' := p.row) hw3
          have hne5 : m'.vars.length ≠ r0 := by have := above_len hA; rw [flMem_len] at this; omega
          have hne3 : m.vars.length ≠ r0 := by omega
          have l1 := lpPhFrozen hp5
          refine go1 (jn @f2 @l1) ?_
          generalize m'.vars.length = n5 at hp5 hne5
          generalize m'.push p.row = m5 at hA1 hp5 hw5
          refine runs_loop (fun k e m' => ∃ (j : Nat), j ≤ p.frozen.length ∧ Above (flMem m r0 rule (fl ++ upto j fun k => flawIf (R.frozenBad p k) rule i k)) m' ∧ m'.var m.vars.length = some R.row ∧ m'.var n5 = some p.row ∧ k = p.frozen.length - j ∧
            e = [(0, AV.ptr r0 0), (3, .ptr m.vars.length 0), (4, .v (.int .i64 (i : Int))), (5, .ptr n5 0), (9, .lst .no 5 (rowsPh R.phases)), (10, .v (.int .i64 (R.phases.length : Int))), (11, .v (.int .i64 (i : Int))), (17, .lst .no 1 (rowsS p.frozen)), (18, .v (.int .i64 (p.frozen.length : Int))), (19, .v (.int .i64 (j : Int)))]) (k := p.frozen.length)
            ⟨0, Nat.zero_le _, by rw [upto_zero, List.append_nil]; exact hA1, hw5, hp5, rfl, rfl⟩ ?_
          rintro k e m'' ⟨j, hj0, hA2, hw6, hp6, rfl, rfl⟩
          refine go0 ?_
          refine runs_cond rfl (fun hc => ?_) (fun hc => ?_)
          · have hj1 : j < p.frozen.length := by have := of_decide_eq_true hc; omega
            have f4 := atStrs (g := .no) (kk := .i64) hj1
            have hN2 := @upto_next j (fun k => flawIf (R.frozenBad p k) rule i k)
            have hB2 := @upto_len (fun k => flawIf (R.frozenBad p k) rule i k) 1 j fun k _ => flawIf_len ..
            generalize hfl2 : (upto j fun k => flawIf (R.frozenBad p k) rule i k) = fl2 at hA2 hN2 hB2
            have hbad : R.frozenBad p j = (!among R.groups (p.frozen.getD j ⟨#[]⟩) || decide (placeOf p.frozen (p.frozen.getD j ⟨#[]⟩) < (j : Int))) := rfl
            generalize p.frozen.getD j ⟨#[]⟩ = s at f4 hbad
            have f5 := fun mm => amongG_eq (m := mm) (g := .no) (l := R.groups) (s := s) (by have := hsm.2.1; omega)
            have f6 := fun mm => placeG_eq (m := mm) (g := .no) (l := p.frozen) (s := s) (by have := hp.1; omega)
            have l2 := lpRcGroups hw6
            have l3 := lpPhFrozen hp6
            have hpl := hp.1
            have w1 : (!true) = false := rfl
            have w2 : (!false) = true := rfl
            have r6 := next_i64 (i := j) (by omega)
            cases ha : among R.groups s with
            | false =>
              rw [ha] at hbad f5
              obtain ⟨m2, n1, n2, n3⟩ := note_step hv hA2 (by rw [List.length_append]; omega) true i j
              rw [flawIf_app, List.append_assoc, show true = R.frozenBad p j from hbad.symm, ← hN2] at n2
              refine go1 (jn @f4 (jn @l2 (jn @t2 (jn @f5 (jn @w2 (jn @t1 (jn @n1 @r6))))))) ?_
              exact ⟨p.frozen.length - (j + 1), by omega, j + 1, hj1, n2, n3 _ _ hne3 hw6, n3 _ _ hne5 hp6, rfl, rfl⟩
            | true =>
              rw [ha] at hbad f5
              obtain ⟨m2, n1, n2, n3⟩ := note_step hv hA2 (by rw [List.length_append]; omega) (decide (placeOf p.frozen s < (j : Int))) i j
              rw [flawIf_app, List.append_assoc, show decide (placeOf p.frozen s < (j : Int)) = R.frozenBad p j from hbad.symm, ← hN2] at n2
              refine go1 (jn @f4 (jn @l2 (jn @t2 (jn @f5 (jn @w1 (jn @l3 (jn @t3 (jn @f6 (jn @t1 (jn @n1 @r6)))))))))) ?_
              exact ⟨p.frozen.length - (j + 1), by omega, j + 1, hj1, n2, n3 _ _ hne3 hw6, n3 _ _ hne5 hp6, rfl, rfl⟩
          · have hj1 : j = p.frozen.length := by have := of_decide_eq_false hc; omega
            subst hj1
            have r6 := next_i64 (i := i) (by omega)
            rw [← hN] at hA2
            refine go1 @r6 ?_
            exact ⟨R.phases.length - (i + 1), by omega, i + 1, hi1, hA2, hw6, rfl, rfl⟩
        · have hi1 : i = R.phases.length := by have := of_decide_eq_false hc; omega
          subst hi1
          refine go0 ?_
          exact leaves_none rfl (fin_flMem hv hA)
      · cases h
    · cases h
  · cases h
attribute [local go_sem] fpRcStop fpRcStopOn fpRcStopMetric fpRcStopPatience fpRcPlateau fpRcPlateauOn fpRcPlateauMetric fpRcPlateauPatience fpRcPlateauFactor fpRcKeep fpRcKeepOn fpRcKeepMetric fpRcKeepCount fpRcEma fpRcEmaOn fpRcEmaDecay fpRcSwa fpRcSwaOn fpRcSwaFrom fpRcSwaEvery fpRlRule
/-! ### ends -/
def Rc.blind (R : Rc) (s : ByteArray) : Bool := !among R.metrics s || (R.eval == 0)
def Rc.swaSteps (R : Rc) : Int × Int := stepsP R.swaFromU R.swaFromN R.steps R.epoch
def Rc.endBad (R : Rc) (rule : Int) : Bool :=
  if rule = 14 then R.stopOn && (R.blind R.stopMetric || (R.stopPatience == 0)) else if rule = 15 then R.plateauOn && (R.blind R.plateauMetric || ((R.plateauPatience == 0) || decide (R.plateauFactor ≥ 4294967296))) else if rule = 16 then R.keepOn && (R.blind R.keepMetric || !decide (1 ≤ R.keepCount ∧ R.keepCount ≤ 16)) else if rule = 17 then R.emaOn && decide (R.emaDecay > 4294967296) else if rule = 18 then R.swaOn && ((R.swaEvery == 0) || ((R.swaSteps.2 != 0) || decide (R.swaSteps.1 > R.steps))) else false
def blindG : List AV → Mem → Option (AV × Mem)
  | [.v (.string s), .ptr q 0], m =>
    match (m.var q).bind unRc with
    | some R => if R.metrics.length ≤ 64 then some (.v (.bool (R.blind s)), m) else none
    | none => none
  | _, _ => none
theorem blindG_at {m : Mem} {q : Nat} {R : Rc} (s : ByteArray) (hq : m.var q = some R.row) (h : R.metrics.length ≤ 64) : blindG [.v (.string s), .ptr q 0] m = some (.v (.bool (R.blind s)), m) := by
  simp only [blindG, hq, Option.bind_some, unRc_row]
  rw [if_pos h]
def kpBlind : Nat → Option (List Nat) := fun
  | 0 => some [0, 1]
  | 1 => some [3]
  | _ => none
attribute [go_sem] kpBlind
def tab_blind_ok : List (FuncId × (List AV → Mem → Option (AV × Mem))) := [(132, amongG)]
theorem blind_ok : FunOk Tryz.prog 134 blindG := by
  have hC := table_ok (P := Tryz.prog) (l := tab_blind_ok) (table_more among_ok table_nil)
  have t1 := fun args mm => table_at (l := tab_blind_ok) (f := 132) (args := args) (m := mm) rfl
  refine fun_ok mixed hC Tryz.func134 rfl kpBlind false rfl fun args m r h => ?_
  unfold blindG at h
  split at h
  · rename_i s q
    split at h
    · rename_i R hR
      obtain ⟨cs, hq, hcs⟩ := Option.bind_eq_some_iff.1 hR
      obtain rfl := unRc_some hcs
      split at h
      · rename_i h64
        simp only [Option.some.injEq] at h
        subst h
        refine ⟨Nat.le_of_ble_eq_true rfl, ?_⟩
        refine en ?_
        have l1 := lpRcMetrics hq
        have l2 := lpRcEval hq
        have f1 := fun mm => amongG_eq (m := mm) (g := .no) (l := R.metrics) (s := s) (by omega)
        have w1 : (!true) = false := rfl
        have w2 : (!false) = true := rfl
        unfold Rc.blind
        cases ha : among R.metrics s with
        | true =>
          rw [ha] at f1
          refine go1 (jn @l1 (jn @t1 (jn @f1 (jn @w1 @l2)))) ?_
          exact leaves_v rfl rfl
        | false =>
          rw [ha] at f1
          refine go1 (jn @l1 (jn @t1 (jn @f1 @w2))) ?_
          exact leaves_v rfl rfl
      · cases h
    · cases h
  · cases h
def endsFG : List AV → Mem → Option (AV × Mem)
  | [.ptr r 0, .agg cs], m =>
    match unRc cs, m.var r with
    | some R, some [.v (.int .i64 rule), .lst .full 3 []] => if R.small ∧ 14 ≤ rule ∧ rule ≤ 18 then some (.tup [], flMem m r rule (flawIf (R.endBad rule) rule 0 0)) else none
    | _, _ => none
  | _, _ => none
theorem endsFG_at {m : Mem} {r : Nat} {rule : Int} {R : Rc} (hv : m.var r = some [.v (.int .i64 rule), .lst .full 3 []]) (h : R.small) (h1 : 14 ≤ rule) (h2 : rule ≤ 18) : endsFG [.ptr r 0, .agg R.row] m = some (.tup [], flMem m r rule (flawIf (R.endBad rule) rule 0 0)) := by
  simp only [endsFG, unRc_row, hv]
  rw [if_pos ⟨h, h1, h2⟩]
def kpEndsF : Nat → Option (List Nat) := fun
  | 0 => some [0, 3]
  | 1 => some [0, 3, 4]
  | 2 => some [0, 3, 4, 5, 6]
  | 3 => some [0, 3, 4, 5, 6, 7]
  | 4 => some [0, 3, 4, 5, 6, 7, 23]
  | 5 => some [0, 3, 4, 5, 6, 7, 23, 24]
  | 6 => some [0, 7]
  | 7 => some [0, 3, 4, 5, 6, 7, 23, 42]
  | 8 => some [0, 7]
  | 9 => some [0, 3, 4, 5, 6, 7, 23, 66]
  | 10 => some [0, 7]
  | 11 => some [0, 3, 5, 6, 7, 23, 85]
  | 12 => some [0, 7]
  | 13 => some [0, 3, 5, 6, 7, 96]
  | 14 => some [0, 7]
  | 15 => some []
  | _ => none
attribute [go_sem] kpEndsF
def tab_endsF_ok : List (FuncId × (List AV → Mem → Option (AV × Mem))) := [(78, noteG), (48, stepsLG), (79, withinG), (134, blindG)]
attribute [local go_sem] List.cons_append
theorem endsF_ok : FunOk Tryz.prog 92 endsFG := by
  have hC := table_ok (P := Tryz.prog) (l := tab_endsF_ok) (table_more note_ok (table_more stepsL_ok (table_more rwithin_ok (table_more blind_ok table_nil))))
  have t1 := fun args mm => table_at (l := tab_endsF_ok) (f := 78) (args := args) (m := mm) rfl
  have t2 := fun args mm => table_at (l := tab_endsF_ok) (f := 48) (args := args) (m := mm) rfl
  have t3 := fun args mm => table_at (l := tab_endsF_ok) (f := 79) (args := args) (m := mm) rfl
  have t4 := fun args mm => table_at (l := tab_endsF_ok) (f := 134) (args := args) (m := mm) rfl
  refine fun_ok mixed hC Tryz.func92 rfl kpEndsF false rfl fun args m r h => ?_
  unfold endsFG at h
  split at h
  · rename_i r0 cs
    split at h
    · rename_i R rule hR hv
      obtain rfl := unRc_some hR
      split at h
      · rename_i hsm
        obtain ⟨hsm, h14, h18⟩ := hsm
        simp only [Option.some.injEq] at h
        subst h
        have hr0 := (var_lt hv).1
        refine ⟨Nat.le_of_ble_eq_true rfl, ?_⟩
        refine en ?_
        have hA : Above (flMem m r0 rule []) (m.push R.row) := by rw [flMem_nil]; exact above_push (above_self m)
        have hv3 : (m.push R.row).var m.vars.length = some R.row := push_var
        have hvr := push_old (cs' := R.row) hv
        have N := fun b => note_step hv hA (by decide) b 0 0
        generalize hm1 : m.push R.row = m1 at hA hv3 hvr N
        have nr := newRc (m := m) (x := R)
        rw [hm1] at nr
        have fin : ∀ (e : Env) (m2 : Mem) (b : Bool), Above (flMem m r0 rule (if b then [] ++ [⟨rule, 0, 0⟩] else [])) m2 → R.endBad rule = b → Leaves Tryz.prog false Tryz.f92 m (.tup [], flMem m r0 rule (flawIf (R.endBad rule) rule 0 0)) .normal e m2 := fun e m2 b hA2 hb => by
          rw [flawIf_app, ← hb, List.nil_append] at hA2
          exact leaves_none rfl (fin_flMem hv hA2)
        have f1 := fun s => blindG_at (m := m1) s hv3 hsm.1
        have f2 := fun mm => stepsLG_eq (u := R.swaFromU) (n := R.swaFromN) (of := R.steps) (ep := R.epoch) (m := mm)
        rw [show stepsP R.swaFromU R.swaFromN R.steps R.epoch = R.swaSteps from rfl] at f2
        have fw : ∀ x lo hi mm, withinG [.v (.int .i64 x), .v (.int .i64 lo), .v (.int .i64 hi)] mm = some (.v (.bool (decide (lo ≤ x ∧ x ≤ hi))), mm) := fun _ _ _ _ => rfl
        have k1 := lpRlRule hvr
        have y1 := lpRcSwaFrom hv3
        have y2 := lpRcSteps hv3
        have y3 := lpRcEpoch hv3
        have hrule : rule = 14 ∨ rule = 15 ∨ rule = 16 ∨ rule = 17 ∨ rule = 18 := by omega
        rcases hrule with rfl | rfl | rfl | rfl | rfl
        · have e14 : R.endBad 14 = (R.stopOn && (R.blind R.stopMetric || (R.stopPatience == 0))) := rfl
          have z0 := lpRcStopOn hv3
          have z1 := lpRcStopMetric hv3
          have z2 := lpRcStopPatience hv3
          cases q0 : R.stopOn with
          | false =>
            rw [q0] at e14
            obtain ⟨m2, n1, n2, n3⟩ := N (false)
            repeat' (first | refine gos1 (jn @nr (jn @y1 (jn @y2 (jn @y3 (jn @t2 (jn @f2 (jn @k1 (jn @z0 (jn @z1 (jn @z2 (jn @t4 (jn @f1 (jn @t3 (jn @fw (jn @t1 (jn @n1 @q0)))))))))))))))) ?_ | (refine ops_here ?_; (fail_if_success (refine ops_case (B := true) rfl rfl rfl ?_ ?_)); (fail_if_success (refine ops_case (B := false) rfl rfl rfl ?_ ?_)); refine ops_case rfl rfl rfl (fun hB => ?_) (fun hB => ?_) <;> rw [hB]) | (refine runs_here ?_; refine runs_cond rfl (fun hc => ?_) (fun hc => ?_) <;> first | (cases hc; done) | skip))
            exact fin _ _ _ n2 e14
          | true =>
            cases q1 : R.blind R.stopMetric with
            | true =>
              rw [q0, q1] at e14
              obtain ⟨m2, n1, n2, n3⟩ := N (true)
              repeat' (first | refine gos1 (jn @nr (jn @y1 (jn @y2 (jn @y3 (jn @t2 (jn @f2 (jn @k1 (jn @z0 (jn @z1 (jn @z2 (jn @t4 (jn @f1 (jn @t3 (jn @fw (jn @t1 (jn @n1 (jn @q0 @q1))))))))))))))))) ?_ | (refine ops_here ?_; (fail_if_success (refine ops_case (B := true) rfl rfl rfl ?_ ?_)); (fail_if_success (refine ops_case (B := false) rfl rfl rfl ?_ ?_)); refine ops_case rfl rfl rfl (fun hB => ?_) (fun hB => ?_) <;> rw [hB]) | (refine runs_here ?_; refine runs_cond rfl (fun hc => ?_) (fun hc => ?_) <;> first | (cases hc; done) | skip))
              exact fin _ _ _ n2 e14
            | false =>
              rw [q0, q1] at e14
              obtain ⟨m2, n1, n2, n3⟩ := N ((R.stopPatience == 0))
              repeat' (first | refine gos1 (jn @nr (jn @y1 (jn @y2 (jn @y3 (jn @t2 (jn @f2 (jn @k1 (jn @z0 (jn @z1 (jn @z2 (jn @t4 (jn @f1 (jn @t3 (jn @fw (jn @t1 (jn @n1 (jn @q0 @q1))))))))))))))))) ?_ | (refine ops_here ?_; (fail_if_success (refine ops_case (B := true) rfl rfl rfl ?_ ?_)); (fail_if_success (refine ops_case (B := false) rfl rfl rfl ?_ ?_)); refine ops_case rfl rfl rfl (fun hB => ?_) (fun hB => ?_) <;> rw [hB]) | (refine runs_here ?_; refine runs_cond rfl (fun hc => ?_) (fun hc => ?_) <;> first | (cases hc; done) | skip))
              exact fin _ _ _ n2 e14
        · have e14 : R.endBad 15 = (R.plateauOn && (R.blind R.plateauMetric || ((R.plateauPatience == 0) || decide (R.plateauFactor ≥ 4294967296)))) := rfl
          have z0 := lpRcPlateauOn hv3
          have z1 := lpRcPlateauMetric hv3
          have z2 := lpRcPlateauPatience hv3
          have z3 := lpRcPlateauFactor hv3
          cases q0 : R.plateauOn with
          | false =>
            rw [q0] at e14
            obtain ⟨m2, n1, n2, n3⟩ := N (false)
            repeat' (first | refine gos1 (jn @nr (jn @y1 (jn @y2 (jn @y3 (jn @t2 (jn @f2 (jn @k1 (jn @z0 (jn @z1 (jn @z2 (jn @z3 (jn @t4 (jn @f1 (jn @t3 (jn @fw (jn @t1 (jn @n1 @q0))))))))))))))))) ?_ | (refine ops_here ?_; (fail_if_success (refine ops_case (B := true) rfl rfl rfl ?_ ?_)); (fail_if_success (refine ops_case (B := false) rfl rfl rfl ?_ ?_)); refine ops_case rfl rfl rfl (fun hB => ?_) (fun hB => ?_) <;> rw [hB]) | (refine runs_here ?_; refine runs_cond rfl (fun hc => ?_) (fun hc => ?_) <;> first | (cases hc; done) | skip))
            exact fin _ _ _ n2 e14
          | true =>
            cases q1 : R.blind R.plateauMetric with
            | true =>
              rw [q0, q1] at e14
              obtain ⟨m2, n1, n2, n3⟩ := N (true)
              repeat' (first | refine gos1 (jn @nr (jn @y1 (jn @y2 (jn @y3 (jn @t2 (jn @f2 (jn @k1 (jn @z0 (jn @z1 (jn @z2 (jn @z3 (jn @t4 (jn @f1 (jn @t3 (jn @fw (jn @t1 (jn @n1 (jn @q0 @q1)))))))))))))))))) ?_ | (refine ops_here ?_; (fail_if_success (refine ops_case (B := true) rfl rfl rfl ?_ ?_)); (fail_if_success (refine ops_case (B := false) rfl rfl rfl ?_ ?_)); refine ops_case rfl rfl rfl (fun hB => ?_) (fun hB => ?_) <;> rw [hB]) | (refine runs_here ?_; refine runs_cond rfl (fun hc => ?_) (fun hc => ?_) <;> first | (cases hc; done) | skip))
              exact fin _ _ _ n2 e14
            | false =>
              cases q2 : (R.plateauPatience == 0) with
              | true =>
                rw [q0, q1, q2] at e14
                obtain ⟨m2, n1, n2, n3⟩ := N (true)
                repeat' (first | refine gos1 (jn @nr (jn @y1 (jn @y2 (jn @y3 (jn @t2 (jn @f2 (jn @k1 (jn @z0 (jn @z1 (jn @z2 (jn @z3 (jn @t4 (jn @f1 (jn @t3 (jn @fw (jn @t1 (jn @n1 (jn @q0 (jn @q1 @q2))))))))))))))))))) ?_ | (refine ops_here ?_; (fail_if_success (refine ops_case (B := true) rfl rfl rfl ?_ ?_)); (fail_if_success (refine ops_case (B := false) rfl rfl rfl ?_ ?_)); refine ops_case rfl rfl rfl (fun hB => ?_) (fun hB => ?_) <;> rw [hB]) | (refine runs_here ?_; refine runs_cond rfl (fun hc => ?_) (fun hc => ?_) <;> first | (cases hc; done) | skip))
                exact fin _ _ _ n2 e14
              | false =>
                rw [q0, q1, q2] at e14
                obtain ⟨m2, n1, n2, n3⟩ := N (decide (R.plateauFactor ≥ 4294967296))
                repeat' (first | refine gos1 (jn @nr (jn @y1 (jn @y2 (jn @y3 (jn @t2 (jn @f2 (jn @k1 (jn @z0 (jn @z1 (jn @z2 (jn @z3 (jn @t4 (jn @f1 (jn @t3 (jn @fw (jn @t1 (jn @n1 (jn @q0 (jn @q1 @q2))))))))))))))))))) ?_ | (refine ops_here ?_; (fail_if_success (refine ops_case (B := true) rfl rfl rfl ?_ ?_)); (fail_if_success (refine ops_case (B := false) rfl rfl rfl ?_ ?_)); refine ops_case rfl rfl rfl (fun hB => ?_) (fun hB => ?_) <;> rw [hB]) | (refine runs_here ?_; refine runs_cond rfl (fun hc => ?_) (fun hc => ?_) <;> first | (cases hc; done) | skip))
                exact fin _ _ _ n2 e14
        · have e14 : R.endBad 16 = (R.keepOn && (R.blind R.keepMetric || !decide (1 ≤ R.keepCount ∧ R.keepCount ≤ 16))) := rfl
          have z0 := lpRcKeepOn hv3
          have z1 := lpRcKeepMetric hv3
          have z2 := lpRcKeepCount hv3
          cases q0 : R.keepOn with
          | false =>
            rw [q0] at e14
            obtain ⟨m2, n1, n2, n3⟩ := N (false)
            repeat' (first | refine gos1 (jn @nr (jn @y1 (jn @y2 (jn @y3 (jn @t2 (jn @f2 (jn @k1 (jn @z0 (jn @z1 (jn @z2 (jn @t4 (jn @f1 (jn @t3 (jn @fw (jn @t1 (jn @n1 @q0)))))))))))))))) ?_ | (refine ops_here ?_; (fail_if_success (refine ops_case (B := true) rfl rfl rfl ?_ ?_)); (fail_if_success (refine ops_case (B := false) rfl rfl rfl ?_ ?_)); refine ops_case rfl rfl rfl (fun hB => ?_) (fun hB => ?_) <;> rw [hB]) | (refine runs_here ?_; refine runs_cond rfl (fun hc => ?_) (fun hc => ?_) <;> first | (cases hc; done) | skip))
            exact fin _ _ _ n2 e14
          | true =>
            cases q1 : R.blind R.keepMetric with
            | true =>
              rw [q0, q1] at e14
              obtain ⟨m2, n1, n2, n3⟩ := N (true)
              repeat' (first | refine gos1 (jn @nr (jn @y1 (jn @y2 (jn @y3 (jn @t2 (jn @f2 (jn @k1 (jn @z0 (jn @z1 (jn @z2 (jn @t4 (jn @f1 (jn @t3 (jn @fw (jn @t1 (jn @n1 (jn @q0 @q1))))))))))))))))) ?_ | (refine ops_here ?_; (fail_if_success (refine ops_case (B := true) rfl rfl rfl ?_ ?_)); (fail_if_success (refine ops_case (B := false) rfl rfl rfl ?_ ?_)); refine ops_case rfl rfl rfl (fun hB => ?_) (fun hB => ?_) <;> rw [hB]) | (refine runs_here ?_; refine runs_cond rfl (fun hc => ?_) (fun hc => ?_) <;> first | (cases hc; done) | skip))
              exact fin _ _ _ n2 e14
            | false =>
              rw [q0, q1] at e14
              obtain ⟨m2, n1, n2, n3⟩ := N ((!decide (1 ≤ R.keepCount ∧ R.keepCount ≤ 16)))
              repeat' (first | refine gos1 (jn @nr (jn @y1 (jn @y2 (jn @y3 (jn @t2 (jn @f2 (jn @k1 (jn @z0 (jn @z1 (jn @z2 (jn @t4 (jn @f1 (jn @t3 (jn @fw (jn @t1 (jn @n1 (jn @q0 @q1))))))))))))))))) ?_ | (refine ops_here ?_; (fail_if_success (refine ops_case (B := true) rfl rfl rfl ?_ ?_)); (fail_if_success (refine ops_case (B := false) rfl rfl rfl ?_ ?_)); refine ops_case rfl rfl rfl (fun hB => ?_) (fun hB => ?_) <;> rw [hB]) | (refine runs_here ?_; refine runs_cond rfl (fun hc => ?_) (fun hc => ?_) <;> first | (cases hc; done) | skip))
              exact fin _ _ _ n2 e14
        · have e14 : R.endBad 17 = (R.emaOn && decide (R.emaDecay > 4294967296)) := rfl
          have z0 := lpRcEmaOn hv3
          have z1 := lpRcEmaDecay hv3
          cases q0 : R.emaOn with
          | false =>
            rw [q0] at e14
            obtain ⟨m2, n1, n2, n3⟩ := N (false)
            repeat' (first | refine gos1 (jn @nr (jn @y1 (jn @y2 (jn @y3 (jn @t2 (jn @f2 (jn @k1 (jn @z0 (jn @z1 (jn @t4 (jn @f1 (jn @t3 (jn @fw (jn @t1 (jn @n1 @q0))))))))))))))) ?_ | (refine ops_here ?_; (fail_if_success (refine ops_case (B := true) rfl rfl rfl ?_ ?_)); (fail_if_success (refine ops_case (B := false) rfl rfl rfl ?_ ?_)); refine ops_case rfl rfl rfl (fun hB => ?_) (fun hB => ?_) <;> rw [hB]) | (refine runs_here ?_; refine runs_cond rfl (fun hc => ?_) (fun hc => ?_) <;> first | (cases hc; done) | skip))
            exact fin _ _ _ n2 e14
          | true =>
            rw [q0] at e14
            obtain ⟨m2, n1, n2, n3⟩ := N (decide (R.emaDecay > 4294967296))
            repeat' (first | refine gos1 (jn @nr (jn @y1 (jn @y2 (jn @y3 (jn @t2 (jn @f2 (jn @k1 (jn @z0 (jn @z1 (jn @t4 (jn @f1 (jn @t3 (jn @fw (jn @t1 (jn @n1 @q0))))))))))))))) ?_ | (refine ops_here ?_; (fail_if_success (refine ops_case (B := true) rfl rfl rfl ?_ ?_)); (fail_if_success (refine ops_case (B := false) rfl rfl rfl ?_ ?_)); refine ops_case rfl rfl rfl (fun hB => ?_) (fun hB => ?_) <;> rw [hB]) | (refine runs_here ?_; refine runs_cond rfl (fun hc => ?_) (fun hc => ?_) <;> first | (cases hc; done) | skip))
            exact fin _ _ _ n2 e14
        · have e14 : R.endBad 18 = (R.swaOn && ((R.swaEvery == 0) || ((R.swaSteps.2 != 0) || decide (R.swaSteps.1 > R.steps)))) := rfl
          have z0 := lpRcSwaOn hv3
          have z1 := lpRcSwaEvery hv3
          cases q0 : R.swaOn with
          | false =>
            rw [q0] at e14
            obtain ⟨m2, n1, n2, n3⟩ := N (false)
            repeat' (first | refine gos1 (jn @nr (jn @y1 (jn @y2 (jn @y3 (jn @t2 (jn @f2 (jn @k1 (jn @z0 (jn @z1 (jn @t4 (jn @f1 (jn @t3 (jn @fw (jn @t1 (jn @n1 @q0))))))))))))))) ?_ | (refine ops_here ?_; (fail_if_success (refine ops_case (B := true) rfl rfl rfl ?_ ?_)); (fail_if_success (refine ops_case (B := false) rfl rfl rfl ?_ ?_)); refine ops_case rfl rfl rfl (fun hB => ?_) (fun hB => ?_) <;> rw [hB]) | (refine runs_here ?_; refine runs_cond rfl (fun hc => ?_) (fun hc => ?_) <;> first | (cases hc; done) | skip))
            exact fin _ _ _ n2 e14
          | true =>
            cases q1 : (R.swaEvery == 0) with
            | true =>
              rw [q0, q1] at e14
              obtain ⟨m2, n1, n2, n3⟩ := N (true)
              repeat' (first | refine gos1 (jn @nr (jn @y1 (jn @y2 (jn @y3 (jn @t2 (jn @f2 (jn @k1 (jn @z0 (jn @z1 (jn @t4 (jn @f1 (jn @t3 (jn @fw (jn @t1 (jn @n1 (jn @q0 @q1)))))))))))))))) ?_ | (refine ops_here ?_; (fail_if_success (refine ops_case (B := true) rfl rfl rfl ?_ ?_)); (fail_if_success (refine ops_case (B := false) rfl rfl rfl ?_ ?_)); refine ops_case rfl rfl rfl (fun hB => ?_) (fun hB => ?_) <;> rw [hB]) | (refine runs_here ?_; refine runs_cond rfl (fun hc => ?_) (fun hc => ?_) <;> first | (cases hc; done) | skip))
              exact fin _ _ _ n2 e14
            | false =>
              cases q2 : (R.swaSteps.2 != 0) with
              | true =>
                rw [q0, q1, q2] at e14
                obtain ⟨m2, n1, n2, n3⟩ := N (true)
                repeat' (first | refine gos1 (jn @nr (jn @y1 (jn @y2 (jn @y3 (jn @t2 (jn @f2 (jn @k1 (jn @z0 (jn @z1 (jn @t4 (jn @f1 (jn @t3 (jn @fw (jn @t1 (jn @n1 (jn @q0 (jn @q1 @q2))))))))))))))))) ?_ | (refine ops_here ?_; (fail_if_success (refine ops_case (B := true) rfl rfl rfl ?_ ?_)); (fail_if_success (refine ops_case (B := false) rfl rfl rfl ?_ ?_)); refine ops_case rfl rfl rfl (fun hB => ?_) (fun hB => ?_) <;> rw [hB]) | (refine runs_here ?_; refine runs_cond rfl (fun hc => ?_) (fun hc => ?_) <;> first | (cases hc; done) | skip))
                exact fin _ _ _ n2 e14
              | false =>
                rw [q0, q1, q2] at e14
                obtain ⟨m2, n1, n2, n3⟩ := N (decide (R.swaSteps.1 > R.steps))
                repeat' (first | refine gos1 (jn @nr (jn @y1 (jn @y2 (jn @y3 (jn @t2 (jn @f2 (jn @k1 (jn @z0 (jn @z1 (jn @t4 (jn @f1 (jn @t3 (jn @fw (jn @t1 (jn @n1 (jn @q0 (jn @q1 @q2))))))))))))))))) ?_ | (refine ops_here ?_; (fail_if_success (refine ops_case (B := true) rfl rfl rfl ?_ ?_)); (fail_if_success (refine ops_case (B := false) rfl rfl rfl ?_ ?_)); refine ops_case rfl rfl rfl (fun hB => ?_) (fun hB => ?_) <;> rw [hB]) | (refine runs_here ?_; refine runs_cond rfl (fun hc => ?_) (fun hc => ?_) <;> first | (cases hc; done) | skip))
                exact fin _ _ _ n2 e14
      · cases h
    · cases h
  · cases h
end
end Go.Proofs.YtojaokhkbmiidaaGreat.Ev
