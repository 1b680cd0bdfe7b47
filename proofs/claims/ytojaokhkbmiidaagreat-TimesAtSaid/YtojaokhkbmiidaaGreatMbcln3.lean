/- Trees: the least and the greatest number. -/
import Derived.Test.YtojaokhkbmiidaaGreatMbcln2
import Derived.Test.YtojaokhkbmiidaaGreatMbcln1
namespace Go.Proofs.YtojaokhkbmiidaaGreat.Ev
open Go Go.Proofs
set_option maxRecDepth 10000
set_option maxHeartbeats 8000000
set_option linter.unusedVariables false
set_option linter.unusedSimpArgs false
attribute [local irreducible] Next Inside Runs Ops table
attribute [local go_sem] szStr szInt Option.getD_some isNil evStr loadOne newNode cellsNode nf0 nf1 nf2 nf3 nf4 nf5 nh0 nh1 nh2 nh3 nh4 nh5 Nat.zero_add mkInts0 mkInts1
theorem mkInts2 {a b : Int} : evBuildSlice Tryz.prog 77 2 [(0, .v (.int .i64 a)), (1, .v (.int .i64 b))] = some (.lst .full 1 [[.v (.int .i64 a)], [.v (.int .i64 b)]]) := build_rows appInts rfl rfl (by decide)
attribute [local go_sem] mkInts2
theorem mkInts3 {a b c : Int} : evBuildSlice Tryz.prog 77 3 [(0, .v (.int .i64 a)), (1, .v (.int .i64 b)), (2, .v (.int .i64 c))] = some (.lst .full 1 [[.v (.int .i64 a)], [.v (.int .i64 b)], [.v (.int .i64 c)]]) := build_rows appInts rfl rfl (by decide)
attribute [local go_sem] mkInts3
def endsN (x : Nd) : List Int := if x.op = 9 then [] else if x.op = 1 ∨ x.op = 8 then [x.a] else if x.op = 6 then [x.a, x.b, x.c] else [x.a, x.b]
theorem endsN_len (x : Nd) : (endsN x).length ≤ 3 := by
  unfold endsN
  split <;> (try split) <;> (try split) <;> simp
def endsNG : List AV → Mem → Option (AV × Mem)
  | [.agg cs], m =>
    match unNd cs with
    | some x => some (.lst .no 1 (rowsI (endsN x)), m)
    | none => none
  | _, _ => none
theorem endsNG_eq (x : Nd) (mm : Mem) : endsNG [.agg x.row] mm = some (.lst .no 1 (rowsI (endsN x)), mm) := by
  simp only [endsNG, unNd_of]
def kpEndsN : Nat → Option (List Nat) := fun
  | 0 => some [1]
  | 1 => some [1, 4]
  | 2 => some [1, 4, 5]
  | 3 => some [2]
  | 4 => some [1, 4, 7]
  | 5 => some [1, 4, 7]
  | 6 => some [2]
  | 7 => some [1, 13]
  | 8 => some [2]
  | 9 => some [2]
  | _ => none
attribute [go_sem] kpEndsN
attribute [local irreducible] nrow
theorem endsN_ok : FunOk Tryz.prog 149 endsNG := by
  have hC := table_ok (P := Tryz.prog) (l := []) table_nil
  refine fun_ok mixed hC Tryz.func149 rfl kpEndsN false rfl fun args m r h => ?_
  unfold endsNG at h
  split at h
  · rename_i cs
    split at h
    · rename_i x hx
      obtain rfl := unNd_row hx
      simp only [Option.some.injEq] at h
      subst h
      refine ⟨Nat.le_of_ble_eq_true rfl, ?_⟩
      simp only [entry, List.length_cons, List.length_nil, List.range, List.range.loop, List.zip_cons_cons, List.zip_nil_right]
      have fin : ∀ (e : Env) (m' : Mem) (L : List Int), Ev.get e 2 = .lst .full 1 (rowsI L) → finMem m m' = m → L = endsN x → Leaves Tryz.prog false Tryz.f149 m (.lst .no 1 (rowsI (endsN x)), m) .ret e m' := fun e m' L h1 h2 h3 => by
        rw [← h3]; exact leaves_lst rfl h1 h2
      obtain ⟨op, a, b, c, k, u, n⟩ := x
      simp only at *
      by_cases h9 : op = 9
      · subst h9
        repeat' (first | refine gos0 ?_ | (refine ops_here ?_; (fail_if_success (refine ops_case (B := true) rfl rfl rfl ?_ ?_)); (fail_if_success (refine ops_case (B := false) rfl rfl rfl ?_ ?_)); refine ops_case rfl rfl rfl (fun hB => ?_) (fun hB => ?_) <;> rw [hB]) | (refine runs_here ?_; refine runs_cond rfl (fun hc => ?_) (fun hc => ?_) <;> first | (cases hc; done) | skip))
        all_goals first | exact fin _ _ [] rfl fin_push rfl | (exfalso; simp at *; done)
      by_cases h1 : op = 1 ∨ op = 8
      · have e1 : endsN ⟨op, a, b, c, k, u, n⟩ = [a] := by unfold endsN; rw [if_neg h9, if_pos h1]
        have b9 : (op == 9) = false := by simpa using h9
        rcases h1 with rfl | rfl
        · repeat' (first | refine gos0 ?_ | (refine ops_here ?_; (fail_if_success (refine ops_case (B := true) rfl rfl rfl ?_ ?_)); (fail_if_success (refine ops_case (B := false) rfl rfl rfl ?_ ?_)); refine ops_case rfl rfl rfl (fun hB => ?_) (fun hB => ?_) <;> rw [hB]) | (refine runs_here ?_; refine runs_cond rfl (fun hc => ?_) (fun hc => ?_) <;> first | (cases hc; done) | skip))
          all_goals first | exact fin _ _ [a] rfl fin_push e1.symm | (exfalso; simp at *; done)
        · repeat' (first | refine gos0 ?_ | (refine ops_here ?_; (fail_if_success (refine ops_case (B := true) rfl rfl rfl ?_ ?_)); (fail_if_success (refine ops_case (B := false) rfl rfl rfl ?_ ?_)); refine ops_case rfl rfl rfl (fun hB => ?_) (fun hB => ?_) <;> rw [hB]) | (refine runs_here ?_; refine runs_cond rfl (fun hc => ?_) (fun hc => ?_) <;> first | (cases hc; done) | skip))
          all_goals first | exact fin _ _ [a] rfl fin_push e1.symm | (exfalso; simp at *; done)
      · have b9 : (op == 9) = false := by simpa using h9
        have b1 : (op == 1) = false := by simp; omega
        have b8 : (op == 8) = false := by simp; omega
        by_cases h6 : op = 6
        · have e1 : endsN ⟨op, a, b, c, k, u, n⟩ = [a, b, c] := by unfold endsN; rw [if_neg h9, if_neg h1, if_pos h6]
          have b6 : (op == 6) = true := by simpa using h6
          repeat' (first | refine gos1 (jn @b9 (jn @b1 (jn @b8 @b6))) ?_ | (refine ops_here ?_; (fail_if_success (refine ops_case (B := true) rfl rfl rfl ?_ ?_)); (fail_if_success (refine ops_case (B := false) rfl rfl rfl ?_ ?_)); refine ops_case rfl rfl rfl (fun hB => ?_) (fun hB => ?_) <;> rw [hB]) | (refine runs_here ?_; refine runs_cond rfl (fun hc => ?_) (fun hc => ?_) <;> first | (cases hc; done) | skip))
          all_goals first | exact fin _ _ [a, b, c] rfl fin_push e1.symm | (exfalso; simp at *; done)
        · have e1 : endsN ⟨op, a, b, c, k, u, n⟩ = [a, b] := by unfold endsN; rw [if_neg h9, if_neg h1, if_neg h6]
          have b6 : (op == 6) = false := by simpa using h6
          repeat' (first | refine gos1 (jn @b9 (jn @b1 (jn @b8 @b6))) ?_ | (refine ops_here ?_; (fail_if_success (refine ops_case (B := true) rfl rfl rfl ?_ ?_)); (fail_if_success (refine ops_case (B := false) rfl rfl rfl ?_ ?_)); refine ops_case rfl rfl rfl (fun hB => ?_) (fun hB => ?_) <;> rw [hB]) | (refine runs_here ?_; refine runs_cond rfl (fun hc => ?_) (fun hc => ?_) <;> first | (cases hc; done) | skip))
          all_goals first | exact fin _ _ [a, b] rfl fin_push e1.symm | (exfalso; simp at *; done)
    · cases h
  · cases h
end Go.Proofs.YtojaokhkbmiidaaGreat.Ev

namespace Go.Proofs.YtojaokhkbmiidaaGreat.Ev
open Go Go.Proofs
set_option maxRecDepth 10000
set_option maxHeartbeats 8000000
set_option linter.unusedVariables false
set_option linter.unusedSimpArgs false
attribute [local irreducible] Next Inside Runs Ops table
attribute [local go_sem] szStr szInt Option.getD_some isNil evStr loadStr loadInt mkInts0 mkInts1 mkInts2 mkInts3 rowsI_len rowsN_len fldOp ldOp ldNode zeroNode okNode newNode evMinMax evFoldI
theorem mapRow {x : Nd} : List.map argCell x.row = x.row := rfl
attribute [local go_sem] mapRow
theorem putRow {m : Mem} {x : Nd} : evStore Tryz.prog (m.push (nrow 0 0 0 0 0 0 0)) 102 (.ptr m.vars.length 0) (.agg x.row) = some (m.push x.row) := putNode (op2 := x.op) (a2 := x.a) (b2 := x.b) (c2 := x.c) (k2 := x.k) (u2 := x.u) (n2 := x.n)
attribute [local go_sem] putRow
theorem topRow {m : Mem} {x : Nd} : evLoad Tryz.prog (m.push x.row) 102 (.ptr m.vars.length 0) = some (.agg x.row) := topNode (op := x.op) (a := x.a) (b := x.b) (c := x.c) (k := x.k) (u := x.u) (n := x.n)
attribute [local go_sem] topRow
/-! ### folds -/
def lohi (p : Int × Int) (xs : List Int) : Int × Int := xs.foldl (fun p x => (mn p.1 x, mx p.2 x)) p
theorem lohi_app (p : Int × Int) (xs ys : List Int) : lohi p (xs ++ ys) = lohi (lohi p xs) ys := List.foldl_append
theorem lohi_spec : ∀ (xs : List Int) (p : Int × Int), ((lohi p xs).1 ≤ p.1 ∧ (∀ x ∈ xs, (lohi p xs).1 ≤ x) ∧ ((lohi p xs).1 = p.1 ∨ (lohi p xs).1 ∈ xs)) ∧ (p.2 ≤ (lohi p xs).2 ∧ (∀ x ∈ xs, x ≤ (lohi p xs).2) ∧ ((lohi p xs).2 = p.2 ∨ (lohi p xs).2 ∈ xs))
  | [], p => by simp [lohi]
  | x :: xs, p => by
    have h := lohi_spec xs (mn p.1 x, mx p.2 x)
    have e : lohi p (x :: xs) = lohi (mn p.1 x, mx p.2 x) xs := rfl
    rw [e]
    obtain ⟨⟨h1, h2, h3⟩, h4, h5, h6⟩ := h
    have a1 : mn p.1 x ≤ p.1 ∧ mn p.1 x ≤ x ∧ (mn p.1 x = p.1 ∨ mn p.1 x = x) := by unfold mn; split <;> omega
    have a2 : p.2 ≤ mx p.2 x ∧ x ≤ mx p.2 x ∧ (mx p.2 x = p.2 ∨ mx p.2 x = x) := by unfold mx; split <;> omega
    simp only at h1 h3 h4 h6
    refine ⟨⟨by omega, ?_, ?_⟩, by omega, ?_, ?_⟩
    · intro y hy
      rcases List.mem_cons.1 hy with rfl | hy
      · omega
      · exact h2 y hy
    · rcases h3 with h3 | h3
      · rcases a1.2.2 with a | a
        · left; omega
        · right; rw [h3, a]; exact List.mem_cons_self ..
      · right; exact List.mem_cons_of_mem _ h3
    · intro y hy
      rcases List.mem_cons.1 hy with rfl | hy
      · omega
      · exact h5 y hy
    · rcases h6 with h6 | h6
      · rcases a2.2.2 with a | a
        · left; omega
        · right; rw [h6, a]; exact List.mem_cons_self ..
      · right; exact List.mem_cons_of_mem _ h6
def endsL (l : List Nd) : Int × Int := if checkT l = 0 then lohi (4503599627370496, 0) (l.flatMap endsN) else (0, 0)
theorem flat_next {α β : Type} {d : α} {f : α → List β} {l : List α} {i : Nat} (hi : i < l.length) : (l.take (i + 1)).flatMap f = (l.take i).flatMap f ++ f (l.getD i d) := by
  rw [take_next (d := d) hi, List.flatMap_append]
  simp
theorem lohi_next {p : Int × Int} {xs : List Int} {j : Nat} (hj : j < xs.length) : lohi p (xs.take (j + 1)) = (mn (lohi p (xs.take j)).1 (xs.getD j 0), mx (lohi p (xs.take j)).2 (xs.getD j 0)) := by
  rw [take_next (d := 0) hj, lohi_app]
  rfl
def endsG : List AV → Mem → Option (AV × Mem)
  | [.lst _ 7 rows], m =>
    match unN rows with
    | some l => if l.length ≤ big40 then some (.tup [iv (endsL l).1, iv (endsL l).2], m) else none
    | none => none
  | _, _ => none
theorem endsG_eq {m : Mem} {g : Grow} {l : List Nd} (h : l.length ≤ big40) : endsG [.lst g 7 (rowsN l)] m = some (.tup [iv (endsL l).1, iv (endsL l).2], m) := by
  simp only [endsG, unN_rowsN]
  rw [if_pos h]
def kpEnds : Nat → Option (List Nat) := fun
  | 0 => some [0, 3]
  | 1 => some [0, 3, 10]
  | 2 => some [2, 3]
  | 3 => some [0, 2, 3]
  | 4 => some [2, 3, 11, 12, 13]
  | 5 => some [2, 3, 11, 12, 13, 14]
  | 6 => some [2, 3, 5, 11, 12, 13]
  | 7 => some [2, 3, 11, 12, 13, 18, 19, 20]
  | 8 => some [2, 3, 11, 12, 13, 18, 19, 20, 21]
  | 9 => some [2, 3, 7, 11, 12, 13, 18, 19, 20]
  | 10 => some [2, 3, 11, 12, 13, 18, 19, 20]
  | 11 => some [2, 3, 11, 12, 13, 18, 19, 20]
  | 12 => some [2, 3, 11, 12, 13]
  | 13 => some [2, 3]
  | _ => none
attribute [go_sem] kpEnds
def tab_ends_ok : List (FuncId × (List AV → Mem → Option (AV × Mem))) := [(107, checkTG), (149, endsNG)]
theorem ends_ok : FunOk Tryz.prog 114 endsG := by
  have hC := table_ok (P := Tryz.prog) (l := tab_ends_ok) (table_more checkT_ok (table_more endsN_ok table_nil))
  have t1 := fun args mm => table_at (l := tab_ends_ok) (f := 107) (args := args) (m := mm) rfl
  have t2 := fun args mm => table_at (l := tab_ends_ok) (f := 149) (args := args) (m := mm) rfl
  refine fun_ok mixed hC Tryz.func114 rfl kpEnds false rfl fun args m r h => ?_
  unfold endsG at h
  split at h
  · rename_i g rows
    split at h
    · rename_i l hl0
      obtain rfl := unN_some hl0
      split at h
      · rename_i hlen
        simp only [Option.some.injEq] at h
        subst h
        refine ⟨Nat.le_of_ble_eq_true rfl, ?_⟩
        simp only [entry, List.length_cons, List.length_nil, List.range, List.range.loop, List.zip_cons_cons, List.zip_nil_right]
        have f1 := fun mm => checkTG_eq (m := mm) (g := .no) hlen
        unfold big40 at hlen
        by_cases hc0 : checkT l = 0
        · have b1 : (checkT l != 0) = false := by rw [hc0]; rfl
          have hE : endsL l = lohi (4503599627370496, 0) (l.flatMap endsN) := if_pos hc0
          refine go1 (jn @t1 (jn @f1 @b1)) ?_
          refine runs_cond rfl (fun hc => by cases hc) (fun hc => ?_)
          refine go0 ?_
          refine runs_loop (fun k e m' => ∃ (lo hi : Int) (i : Nat), i ≤ l.length ∧ (lo, hi) = lohi (4503599627370496, 0) ((l.take i).flatMap endsN) ∧ Above m m' ∧ k = l.length - i ∧
            e = [(2, .v (.int .i64 lo)), (3, .v (.int .i64 hi)), (11, .lst g 7 (rowsN l)), (12, .v (.int .i64 (l.length : Int))), (13, .v (.int .i64 (i : Int)))]) (k := l.length) ⟨_, _, 0, Nat.zero_le _, rfl, above_self _, rfl, rfl⟩ ?_
          rintro k e m' ⟨lo, hi, i, hi0, hL, hA, rfl, rfl⟩
          refine go0 ?_
          refine runs_cond rfl (fun hc => ?_) (fun hc => ?_)
          · have hi1 : i < l.length := by have := of_decide_eq_true hc; omega
            have f2 := atNodes (g := g) (kk := .i64) hi1
            have f3 := endsNG_eq (l.getD i nd0)
            have h3 := endsN_len (l.getD i nd0)
            have hN := flat_next (f := endsN) (d := nd0) hi1
            generalize endsN (l.getD i nd0) = L at f3 h3 hN
            refine go1 (jn @f2 (jn @t2 @f3)) ?_
            refine runs_loop (fun k e m'' => ∃ (lo2 hi2 : Int) (j : Nat), j ≤ L.length ∧ (lo2, hi2) = lohi (lo, hi) (L.take j) ∧ Above m m'' ∧ k = L.length - j ∧
              e = [(2, .v (.int .i64 lo2)), (3, .v (.int .i64 hi2)), (11, .lst g 7 (rowsN l)), (12, .v (.int .i64 (l.length : Int))), (13, .v (.int .i64 (i : Int))), (18, .lst .no 1 (rowsI L)), (19, .v (.int .i64 (L.length : Int))), (20, .v (.int .i64 (j : Int)))]) (k := L.length)
              ⟨_, _, 0, Nat.zero_le _, rfl, above_push hA, rfl, rfl⟩ ?_
            rintro k e m'' ⟨lo2, hi2, j, hj0, hL2, hA2, rfl, rfl⟩
            refine go0 ?_
            refine runs_cond rfl (fun hc => ?_) (fun hc => ?_)
            · have hj1 : j < L.length := by have := of_decide_eq_true hc; omega
              have f4 := atInts (g := .no) (kk := .i64) hj1
              have r6 := next_i64 (i := j) (by omega)
              refine go1 (jn @f4 @r6) ?_
              refine ⟨L.length - (j + 1), by omega, _, _, j + 1, hj1, ?_, hA2, rfl, rfl⟩
              rw [lohi_next hj1, ← hL2]
            · have hj1 : j = L.length := by have := of_decide_eq_false hc; omega
              subst hj1
              have r6 := next_i64 (i := i) (by omega)
              refine go1 @r6 ?_
              refine ⟨l.length - (i + 1), by omega, _, _, i + 1, hi1, ?_, hA2, rfl, rfl⟩
              rw [hN, lohi_app, ← hL, hL2, List.take_length]
          · have hi1 : i = l.length := by have := of_decide_eq_false hc; omega
            subst hi1
            rw [List.take_length, ← hE] at hL
            refine go0 ?_
            rw [← hL]
            exact leaves_two rfl rfl rfl (above_fin hA)
        · have b1 : (checkT l != 0) = true := by rw [bne_iff_ne]; exact hc0
          rw [show endsL l = (0, 0) from if_neg hc0]
          refine go1 (jn @t1 (jn @f1 @b1)) ?_
          refine runs_cond rfl (fun hc => ?_) (fun hc => by cases hc)
          refine go0 ?_
          exact leaves_vv rfl rfl rfl
      · cases h
    · cases h
  · cases h
/-! ### all numbers, the document's way -/
def numsN (x : Nd) : List Int := if x.op = 9 then [] else [x.a] ++ (if 2 ≤ x.op ∧ x.op ≤ 7 then [x.b] else []) ++ (if x.op = 6 then [x.c] else [])
theorem numsN_len (x : Nd) : (numsN x).length ≤ 3 := by
  unfold numsN
  split
  · simp
  · split <;> split <;> simp
theorem numsN_ends {x : Nd} (h : 1 ≤ x.op ∧ x.op ≤ 9) : numsN x = endsN x := by
  unfold numsN endsN
  by_cases h9 : x.op = 9
  · rw [if_pos h9, if_pos h9]
  rw [if_neg h9, if_neg h9]
  by_cases h1 : x.op = 1 ∨ x.op = 8
  · rw [if_pos h1, if_neg (by omega), if_neg (by omega)]; rfl
  rw [if_neg h1, if_pos (by omega)]
  by_cases h6 : x.op = 6
  · rw [if_pos h6, if_pos h6]; rfl
  · rw [if_neg h6, if_neg h6]; rfl
theorem numsL_len (l : List Nd) : (l.flatMap numsN).length ≤ 3 * l.length := by
  induction l with
  | nil => simp
  | cons x l ih =>
    have := numsN_len x
    simp only [List.flatMap_cons, List.length_append, List.length_cons]
    omega
def numsG : List AV → Mem → Option (AV × Mem)
  | [.lst _ 7 rows], m =>
    match unN rows with
    | some l => if l.length ≤ 1000 then some (.lst .no 1 (rowsI (l.flatMap numsN)), m) else none
    | none => none
  | _, _ => none
theorem numsG_eq {m : Mem} {g : Grow} {l : List Nd} (h : l.length ≤ 1000) : numsG [.lst g 7 (rowsN l)] m = some (.lst .no 1 (rowsI (l.flatMap numsN)), m) := by
  simp only [numsG, unN_rowsN]
  rw [if_pos h]
theorem fldA {x : Nd} : evFieldAddr Tryz.prog 102 (.eptr x.row) 1 = some (.eptr (x.row.drop 1)) := by kernel_rfl
theorem fldB {x : Nd} : evFieldAddr Tryz.prog 102 (.eptr x.row) 2 = some (.eptr (x.row.drop 2)) := by kernel_rfl
theorem fldC {x : Nd} : evFieldAddr Tryz.prog 102 (.eptr x.row) 3 = some (.eptr (x.row.drop 3)) := by kernel_rfl
theorem ldA {m : Mem} {x : Nd} : evLoad Tryz.prog m 3 (.eptr (x.row.drop 1)) = some (.v (.int .i64 x.a)) := loadInt
theorem ldB {m : Mem} {x : Nd} : evLoad Tryz.prog m 3 (.eptr (x.row.drop 2)) = some (.v (.int .i64 x.b)) := loadInt
theorem ldC {m : Mem} {x : Nd} : evLoad Tryz.prog m 3 (.eptr (x.row.drop 3)) = some (.v (.int .i64 x.c)) := loadInt
attribute [local go_sem] fldA fldB fldC ldA ldB ldC
def kpNums : Nat → Option (List Nat) := fun
  | 0 => some [0]
  | 1 => some [0, 3]
  | 2 => some [0, 3, 4]
  | 3 => some [0, 3, 4, 9]
  | 4 => some [0, 3, 4]
  | 5 => some [0, 3, 4, 17]
  | 6 => some [0, 3, 4]
  | 7 => some [0, 3, 4, 39]
  | 8 => some [0, 3, 4]
  | 9 => some [0, 3, 4, 53]
  | 10 => some [0, 3, 4]
  | 11 => some [2]
  | _ => none
attribute [go_sem] kpNums
theorem nums_ok : FunOk Tryz.prog 116 numsG := by
  have hC := table_ok (P := Tryz.prog) (l := []) table_nil
  refine fun_ok mixed hC Tryz.func116 rfl kpNums false rfl fun args m r h => ?_
  unfold numsG at h
  split at h
  · rename_i g rows
    split at h
    · rename_i l hl0
      obtain rfl := unN_some hl0
      split at h
      · rename_i hlen
        simp only [Option.some.injEq] at h
        subst h
        refine ⟨Nat.le_of_ble_eq_true rfl, ?_⟩
        simp only [entry, List.length_cons, List.length_nil, List.range, List.range.loop, List.zip_cons_cons, List.zip_nil_right]
        refine go0 ?_
        refine runs_loop (fun k e m' => ∃ (i : Nat) (gr : Grow), i ≤ l.length ∧ Grows m gr m' ∧ k = l.length - i ∧
          e = [(0, .lst g 7 (rowsN l)), (3, .lst gr 1 (rowsI ((l.take i).flatMap numsN))), (4, .v (.int .i64 (i : Int)))]) (k := l.length) ⟨0, _, Nat.zero_le _, grows_full, rfl, rfl⟩ ?_
        rintro k e m' ⟨i, gr, hi0, hG, rfl, rfl⟩
        refine go0 ?_
        refine runs_cond rfl (fun hc => ?_) (fun hc => ?_)
        · have hi1 : i < l.length := by have := of_decide_eq_true hc; omega
          have f2 := atNodes (g := g) (kk := .i64) hi1
          have hN := flat_next (f := numsN) (d := nd0) hi1
          have hlen2 := numsL_len (l.take i)
          rw [List.length_take] at hlen2
          have r6 := next_i64 (i := i) (by omega)
          have hx : numsN (l.getD i nd0) = if (l.getD i nd0).op = 9 then [] else [(l.getD i nd0).a] ++ (if 2 ≤ (l.getD i nd0).op ∧ (l.getD i nd0).op ≤ 7 then [(l.getD i nd0).b] else []) ++ (if (l.getD i nd0).op = 6 then [(l.getD i nd0).c] else []) := rfl
          generalize l.getD i nd0 = x at f2 hN hx
          generalize (l.take i).flatMap numsN = acc at hN hlen2
          have done : ∀ (gr' : Grow) (m2 : Mem) (L : List Int), L = acc ++ numsN x → Grows m gr' m2 → ∃ k', k' < l.length - i ∧ ∃ (i' : Nat) (gr2 : Grow), i' ≤ l.length ∧ Grows m gr2 m2 ∧ k' = l.length - i' ∧
              [(0, AV.lst g 7 (rowsN l)), (3, .lst gr' 1 (rowsI L)), (4, .v (.int .i64 ((i + 1 : Nat) : Int)))] = [(0, .lst g 7 (rowsN l)), (3, .lst gr2 1 (rowsI ((l.take i').flatMap numsN))), (4, .v (.int .i64 (i' : Int)))] :=
            fun gr' m2 L hL hG' => ⟨l.length - (i + 1), by omega, i + 1, gr', hi1, hG', rfl, by rw [hL, hN]⟩
          by_cases h9 : x.op = 9
          · have b9 : (x.op == 9) = true := by simpa using h9
            rw [if_pos h9] at hx
            refine go1 (jn @f2 @b9) ?_
            refine runs_cond rfl (fun hc => ?_) (fun hc => by cases hc)
            refine go1 @r6 ?_
            exact done _ _ _ (by rw [hx, List.append_nil]) hG
          · have b9 : (x.op == 9) = false := by simpa using h9
            rw [if_neg h9] at hx
            obtain ⟨g1, m1, ha1, hG1⟩ := app_int (g2 := .full) appInts hG acc x.a (by unfold lim; omega)
            refine go1 (jn @f2 @b9) ?_
            refine runs_cond rfl (fun hc => by cases hc) (fun hc => ?_)
            by_cases h27 : 2 ≤ x.op ∧ x.op ≤ 7
            · have b2 : decide (x.op ≥ 2) = true := decide_eq_true h27.1
              have b7 : decide (x.op ≤ 7) = true := decide_eq_true h27.2
              obtain ⟨g2, m2, ha2, hG2⟩ := app_int (g2 := .full) appInts hG1 (acc ++ [x.a]) x.b (by unfold lim; simp; omega)
              rw [if_pos h27] at hx
              refine go1 (jn @f2 (jn @ha1 (jn @b2 @b7))) ?_
              refine runs_cond rfl (fun hc => ?_) (fun hc => by cases hc)
              by_cases h6 : x.op = 6
              · have b6 : (x.op == 6) = true := by simpa using h6
                obtain ⟨g3, m3, ha3, hG3⟩ := app_int (g2 := .full) appInts hG2 (acc ++ [x.a] ++ [x.b]) x.c (by unfold lim; simp; omega)
                rw [if_pos h6] at hx
                refine go1 (jn @f2 (jn @ha2 @b6)) ?_
                refine runs_cond rfl (fun hc => ?_) (fun hc => by cases hc)
                refine go1 (jn @f2 (jn @ha3 @r6)) ?_
                exact done _ _ _ (by rw [hx]; simp) hG3
              · have b6 : (x.op == 6) = false := by simpa using h6
                rw [if_neg h6] at hx
                refine go1 (jn @f2 (jn @ha2 @b6)) ?_
                refine runs_cond rfl (fun hc => by cases hc) (fun hc => ?_)
                refine go1 @r6 ?_
                exact done _ _ _ (by rw [hx]; simp) hG2
            · have h6 : x.op ≠ 6 := by omega
              have b6 : (x.op == 6) = false := by simpa using h6
              rw [if_neg h27, if_neg h6] at hx
              by_cases h2 : 2 ≤ x.op
              · have b2 : decide (x.op ≥ 2) = true := decide_eq_true h2
                have b7 : decide (x.op ≤ 7) = false := decide_eq_false (by omega)
                refine go1 (jn @f2 (jn @ha1 (jn @b2 @b7))) ?_
                refine runs_cond rfl (fun hc => by cases hc) (fun hc => ?_)
                refine go1 (jn @f2 @b6) ?_
                refine runs_cond rfl (fun hc => by cases hc) (fun hc => ?_)
                refine go1 @r6 ?_
                exact done _ _ _ (by rw [hx]; simp) hG1
              · have b2 : decide (x.op ≥ 2) = false := decide_eq_false (by omega)
                refine go1 (jn @f2 (jn @ha1 @b2)) ?_
                refine runs_cond rfl (fun hc => by cases hc) (fun hc => ?_)
                refine go1 (jn @f2 @b6) ?_
                refine runs_cond rfl (fun hc => by cases hc) (fun hc => ?_)
                refine go1 @r6 ?_
                exact done _ _ _ (by rw [hx]; simp) hG1
        · have hi1 : i = l.length := by have := of_decide_eq_false hc; omega
          subst hi1
          rw [List.take_length]
          refine go0 ?_
          exact leaves_lst rfl rfl (fin_grows hG)
      · cases h
    · cases h
  · cases h
end Go.Proofs.YtojaokhkbmiidaaGreat.Ev

namespace Go.Proofs.YtojaokhkbmiidaaGreat.Ev
open Go Go.Proofs
set_option maxRecDepth 10000
set_option maxHeartbeats 8000000
set_option linter.unusedVariables false
set_option linter.unusedSimpArgs false
attribute [local irreducible] Next Inside Runs Ops table
attribute [local go_sem] szStr szInt Option.getD_some isNil evStr iv loadStr loadInt rowsS_len rowsN_len rowsGs_len rowsPh_len mapGs mapPh mapRc mapNd ldNode ldGs ldPh cellsNd cellsGs cellsPh cellsRc newNd newGs newPh newRc zrPh zoPh znPh zsPh zrGs zoGs znGs zsGs fpGsGroup fpGsParam fpGsNodes fpPhName fpPhLen fpPhLenU fpPhFrozen fpPhSets fpRcName fpRcSteps fpRcEpoch fpRcWeights fpRcMetrics fpRcGroups fpRcEval fpRcPhases
theorem fpNdOp {r : Nat} : evFieldAddr Tryz.prog 102 (.ptr r 0) 0 = some (.ptr r 0) := by kernel_rfl
attribute [local go_sem] fpNdOp
theorem fpNdA {r : Nat} : evFieldAddr Tryz.prog 102 (.ptr r 0) 1 = some (.ptr r 1) := by kernel_rfl
attribute [local go_sem] fpNdA
theorem fpNdB {r : Nat} : evFieldAddr Tryz.prog 102 (.ptr r 0) 2 = some (.ptr r 2) := by kernel_rfl
attribute [local go_sem] fpNdB
theorem fpNdK {r : Nat} : evFieldAddr Tryz.prog 102 (.ptr r 0) 4 = some (.ptr r 4) := by kernel_rfl
attribute [local go_sem] fpNdK
theorem lpNdI {m : Mem} {r : Nat} {x : Nd} {i : Nat} {v : Int} (hv : m.var r = some x.row) (h : (x.row.drop i).head? = some (.v (.int .i64 v))) : evLoad Tryz.prog m 3 (.ptr r i) = some (.v (.int .i64 v)) := by
  unfold evLoad
  simp only [ptrCells, hv, Option.map_some, szInt, agInt]
  exact h
def kpRWithin : Nat → Option (List Nat) := fun
  | 0 => some [0, 1, 2]
  | 1 => some [6]
  | _ => none
attribute [go_sem] kpRWithin
theorem rwithin_ok : FunOk Tryz.prog 79 withinG := by
  have hC := table_ok (P := Tryz.prog) (l := []) table_nil
  refine fun_ok mixed hC Tryz.func79 rfl kpRWithin false rfl fun args m r h => ?_
  unfold withinG at h
  split at h
  · rename_i x lo hi
    simp only [Option.some.injEq] at h
    subst h
    refine ⟨Nat.le_of_ble_eq_true rfl, ?_⟩
    simp only [entry, List.length_cons, List.length_nil, List.range, List.range.loop, List.zip_cons_cons, List.zip_nil_right]
    by_cases h0 : lo ≤ x
    · have b0 : decide (x ≥ lo) = true := decide_eq_true h0
      by_cases h1 : x ≤ hi
      · have b1 : decide (x ≤ hi) = true := decide_eq_true h1
        rw [decide_eq_true (show lo ≤ x ∧ x ≤ hi from ⟨h0, h1⟩)]
        refine go1 (jn @b0 @b1) ?_
        exact leaves_v rfl rfl
      · have b1 : decide (x ≤ hi) = false := decide_eq_false h1
        rw [decide_eq_false (fun h : lo ≤ x ∧ x ≤ hi => h1 h.2)]
        refine go1 (jn @b0 @b1) ?_
        exact leaves_v rfl rfl
    · have b0 : decide (x ≥ lo) = false := decide_eq_false h0
      rw [decide_eq_false (fun h : lo ≤ x ∧ x ≤ hi => h0 h.1)]
      refine go1 @b0 ?_
      exact leaves_v rfl rfl
  · cases h
/-! ### bent -/
def bentN (x : Nd) : Bool := if x.op = 3 ∨ x.op = 7 then !decide (1 ≤ x.k ∧ x.k ≤ 16) else if x.op = 4 then decide (x.b > x.a) || decide (x.k > 4294967296) else false
def bentNG : List AV → Mem → Option (AV × Mem)
  | [.agg cs], m =>
    match unNd cs with
    | some x => some (.v (.bool (bentN x)), m)
    | none => none
  | _, _ => none
theorem bentNG_at (x : Nd) (m : Mem) : bentNG [.agg x.row] m = some (.v (.bool (bentN x)), m) := by
  simp only [bentNG, unNd_of]
def kpBent : Nat → Option (List Nat) := fun
  | 0 => some [1]
  | 1 => some [1, 4]
  | 2 => some [1, 4, 5]
  | 3 => some [1, 4, 5]
  | 4 => some [2]
  | 5 => some [1, 12]
  | 6 => some [2]
  | 7 => some [2]
  | _ => none
attribute [go_sem] kpBent
def tab_bentN_ok : List (FuncId × (List AV → Mem → Option (AV × Mem))) := [(79, withinG)]
theorem bentN_ok : FunOk Tryz.prog 90 bentNG := by
  have hC := table_ok (P := Tryz.prog) (l := tab_bentN_ok) (table_more rwithin_ok table_nil)
  have t1 := fun args mm => table_at (l := tab_bentN_ok) (f := 79) (args := args) (m := mm) rfl
  refine fun_ok mixed hC Tryz.func90 rfl kpBent false rfl fun args m r h => ?_
  unfold bentNG at h
  split at h
  · rename_i cs
    split at h
    · rename_i x hx
      obtain rfl := unNd_row hx
      simp only [Option.some.injEq] at h
      subst h
      refine ⟨Nat.le_of_ble_eq_true rfl, ?_⟩
      simp only [entry, List.length_cons, List.length_nil, List.range, List.range.loop, List.zip_cons_cons, List.zip_nil_right]
      rw [show nrow x.op x.a x.b x.c x.k x.u x.n = x.row from rfl]
      have hv : (m.push x.row).var m.vars.length = some x.row := push_var
      have l1 := lpNdI (i := 0) (v := x.op) hv rfl
      have l2 := lpNdI (i := 1) (v := x.a) hv rfl
      have l3 := lpNdI (i := 2) (v := x.b) hv rfl
      have l4 := lpNdI (i := 4) (v := x.k) hv rfl
      have fw : ∀ x lo hi mm, withinG [.v (.int .i64 x), .v (.int .i64 lo), .v (.int .i64 hi)] mm = some (.v (.bool (decide (lo ≤ x ∧ x ≤ hi))), mm) := fun _ _ _ _ => rfl
      unfold bentN
      by_cases h3 : x.op = 3
      · have b3 : (x.op == 3) = true := by simpa using h3
        rw [if_pos (.inl h3)]
        repeat' (first | refine gos1 (jn @l1 (jn @l4 (jn @b3 (jn @t1 @fw)))) ?_ | (refine ops_here ?_; (fail_if_success (refine ops_case (B := true) rfl rfl rfl ?_ ?_)); (fail_if_success (refine ops_case (B := false) rfl rfl rfl ?_ ?_)); refine ops_case rfl rfl rfl (fun hB => ?_) (fun hB => ?_) <;> rw [hB]) | (refine runs_here ?_; refine runs_cond rfl (fun hc => ?_) (fun hc => ?_) <;> first | (cases hc; done) | skip))
        all_goals exact leaves_fin rfl rfl fin_push
      · have b3 : (x.op == 3) = false := by simpa using h3
        by_cases h7 : x.op = 7
        · have b7 : (x.op == 7) = true := by simpa using h7
          rw [if_pos (.inr h7)]
          repeat' (first | refine gos1 (jn @l1 (jn @l4 (jn @b3 (jn @b7 (jn @t1 @fw))))) ?_ | (refine ops_here ?_; (fail_if_success (refine ops_case (B := true) rfl rfl rfl ?_ ?_)); (fail_if_success (refine ops_case (B := false) rfl rfl rfl ?_ ?_)); refine ops_case rfl rfl rfl (fun hB => ?_) (fun hB => ?_) <;> rw [hB]) | (refine runs_here ?_; refine runs_cond rfl (fun hc => ?_) (fun hc => ?_) <;> first | (cases hc; done) | skip))
          all_goals exact leaves_fin rfl rfl fin_push
        · have b7 : (x.op == 7) = false := by simpa using h7
          rw [if_neg (by omega)]
          by_cases h4 : x.op = 4
          · have b4 : (x.op == 4) = true := by simpa using h4
            rw [if_pos h4]
            cases h5 : decide (x.b > x.a) with
            | true =>
              repeat' (first | refine gos1 (jn @l1 (jn @l2 (jn @l3 (jn @l4 (jn @b3 (jn @b7 (jn @b4 @h5))))))) ?_ | (refine ops_here ?_; (fail_if_success (refine ops_case (B := true) rfl rfl rfl ?_ ?_)); (fail_if_success (refine ops_case (B := false) rfl rfl rfl ?_ ?_)); refine ops_case rfl rfl rfl (fun hB => ?_) (fun hB => ?_) <;> rw [hB]) | (refine runs_here ?_; refine runs_cond rfl (fun hc => ?_) (fun hc => ?_) <;> first | (cases hc; done) | skip))
              all_goals exact leaves_fin rfl rfl fin_push
            | false =>
              repeat' (first | refine gos1 (jn @l1 (jn @l2 (jn @l3 (jn @l4 (jn @b3 (jn @b7 (jn @b4 @h5))))))) ?_ | (refine ops_here ?_; (fail_if_success (refine ops_case (B := true) rfl rfl rfl ?_ ?_)); (fail_if_success (refine ops_case (B := false) rfl rfl rfl ?_ ?_)); refine ops_case rfl rfl rfl (fun hB => ?_) (fun hB => ?_) <;> rw [hB]) | (refine runs_here ?_; refine runs_cond rfl (fun hc => ?_) (fun hc => ?_) <;> first | (cases hc; done) | skip))
              all_goals exact leaves_fin rfl rfl fin_push
          · have b4 : (x.op == 4) = false := by simpa using h4
            rw [if_neg h4]
            repeat' (first | refine gos1 (jn @l1 (jn @b3 (jn @b7 @b4))) ?_ | (refine ops_here ?_; (fail_if_success (refine ops_case (B := true) rfl rfl rfl ?_ ?_)); (fail_if_success (refine ops_case (B := false) rfl rfl rfl ?_ ?_)); refine ops_case rfl rfl rfl (fun hB => ?_) (fun hB => ?_) <;> rw [hB]) | (refine runs_here ?_; refine runs_cond rfl (fun hc => ?_) (fun hc => ?_) <;> first | (cases hc; done) | skip))
            all_goals exact leaves_fin rfl rfl fin_push
    · cases h
  · cases h
def bnFindG : List AV → Mem → Option (AV × Mem)
  | [.lst _ 7 rows, .fn (.func 90) [] []], m =>
    match unN rows with
    | some l => if l.length ≤ big40 then some (.v (.int .i64 (firstBy bentN l 0)), m) else none
    | none => none
  | _, _ => none
theorem bnFindG_eq {m : Mem} {g : Grow} {l : List Nd} (h : l.length ≤ big40) : bnFindG [.lst g 7 (rowsN l), .fn (.func 90) [] []] m = some (.v (.int .i64 (firstBy bentN l 0)), m) := by
  simp only [bnFindG, unN_rowsN]
  rw [if_pos h]
def kp_bnFind : Nat → Option (List Nat) := fun _ => some [0, 1, 4, 5, 7, 8, 9, 16]
attribute [go_sem] kp_bnFind
def tab_bnFind_ok : List (FuncId × (List AV → Mem → Option (AV × Mem))) := [(90, bentNG)]
theorem bnFind_ok : FunOk Tryz.prog 133 bnFindG := by
  have hC := table_ok (P := Tryz.prog) (l := tab_bnFind_ok) (table_more bentN_ok table_nil)
  have t1 := fun args mm => table_at (l := tab_bnFind_ok) (f := 90) (args := args) (m := mm) rfl
  refine fun_ok mixed hC Tryz.func133 rfl kp_bnFind false rfl fun args m r h => ?_
  unfold bnFindG at h
  split at h
  · rename_i g rows
    split at h
    · rename_i l hl0
      obtain rfl := unN_some hl0
      split at h
      · rename_i hyp
        simp only [Option.some.injEq] at h
        subst h
        refine ⟨Nat.le_of_ble_eq_true rfl, ?_⟩
        simp only [entry, List.length_cons, List.length_nil, List.range, List.range.loop, List.zip_cons_cons, List.zip_nil_right]
        have hlen := hyp
        have hlen' := hlen
        unfold big40 at hlen'
        refine go0 ?_
        refine runs_loop (fun k e m' => ∃ (i : Nat) (x5 x9 x16 : AV), i ≤ l.length ∧ firstBy bentN (l.drop i) i = firstBy bentN l 0 ∧ m = m' ∧ k = l.length - i ∧
          e = [(0, AV.lst g 7 (rowsN l)), (1, .fn (.func 90) [] []), (4, .v (.int .i64 0)), (5, x5), (7, .v (.int .i64 l.length)), (8, .v (.int .i64 (i : Int))), (9, x9), (16, x16)]) (k := l.length) ⟨0, _, _, _, Nat.zero_le _, rfl, rfl, rfl, rfl⟩ ?_
        rintro k e m' ⟨i, x5, x9, x16, hi, hf, rfl, rfl, rfl⟩
        refine go0 ?_
        refine runs_cond rfl (fun hc => ?_) (fun hc => ?_)
        · have hi1 : i < l.length := by have := of_decide_eq_true hc; omega
          have f1 := atNodes (g := g) (kk := .i64) hi1
          have f2 := fun mm => bentNG_at (l.getD i nd0) mm
          refine go1 (jn @f1 (jn @t1 @f2)) ?_
          refine runs_cond rfl (fun hc => ?_) (fun hc => ?_)
          · rw [by_yes hi1 hc hf]
            refine go0 ?_
            exact leaves_v rfl rfl
          · have r6 := next_i64 (i := i) (by omega)
            refine go1 @r6 ?_
            exact ⟨l.length - (i + 1), by omega, i + 1, _, _, _, hi1, by_no hi1 hc hf, rfl, rfl, rfl⟩
        · have hi1 : i = l.length := by have := of_decide_eq_false hc; omega
          subst hi1
          rw [by_end hf]
          refine go0 ?_
          exact leaves_v rfl rfl
      · cases h
    · cases h
  · cases h
def bnAnyG : List AV → Mem → Option (AV × Mem)
  | [.lst _ 7 rows, .fn (.func 90) [] []], m =>
    match unN rows with
    | some l => if l.length ≤ big40 then some (.v (.bool (l.any bentN)), m) else none
    | none => none
  | _, _ => none
theorem bnAnyG_eq {m : Mem} {g : Grow} {l : List Nd} (h : l.length ≤ big40) : bnAnyG [.lst g 7 (rowsN l), .fn (.func 90) [] []] m = some (.v (.bool (l.any bentN)), m) := by
  simp only [bnAnyG, unN_rowsN]
  rw [if_pos h]
def kp_bnAny : Nat → Option (List Nat) := fun _ => some [0, 1, 4]
attribute [go_sem] kp_bnAny
def tab_bnAny_ok : List (FuncId × (List AV → Mem → Option (AV × Mem))) := [(133, bnFindG)]
theorem bnAny_ok : FunOk Tryz.prog 89 bnAnyG := by
  have hC := table_ok (P := Tryz.prog) (l := tab_bnAny_ok) (table_more bnFind_ok table_nil)
  have t1 := fun args mm => table_at (l := tab_bnAny_ok) (f := 133) (args := args) (m := mm) rfl
  refine fun_ok mixed hC Tryz.func89 rfl kp_bnAny false rfl fun args m r h => ?_
  unfold bnAnyG at h
  split at h
  · rename_i g rows
    split at h
    · rename_i l hl0
      obtain rfl := unN_some hl0
      split at h
      · rename_i hyp
        simp only [Option.some.injEq] at h
        subst h
        refine ⟨Nat.le_of_ble_eq_true rfl, ?_⟩
        simp only [entry, List.length_cons, List.length_nil, List.range, List.range.loop, List.zip_cons_cons, List.zip_nil_right]
        have f1 := fun mm => bnFindG_eq (m := mm) (g := .no) hyp
        have f3 : decide (firstBy bentN l 0 ≥ 0) = l.any bentN := firstBy_any bentN l 0
        refine go1 (jn @t1 (jn @f1 @f3)) ?_
        exact leaves_v rfl rfl
      · cases h
    · cases h
  · cases h
def bentS (x : Gs) : Bool := x.nodes.any bentN
def bentSG : List AV → Mem → Option (AV × Mem)
  | [.agg cs], m =>
    match unGs cs with
    | some x => if x.nodes.length ≤ big40 then some (.v (.bool (bentS x)), m) else none
    | none => none
  | _, _ => none
theorem bentSG_at (x : Gs) (m : Mem) (h : x.nodes.length ≤ big40) : bentSG [.agg x.row] m = some (.v (.bool (bentS x)), m) := by
  simp only [bentSG, unGs_row]
  rw [if_pos h]
def kpBentS : Nat → Option (List Nat) := fun
  | 0 => some [1]
  | 1 => some [2]
  | _ => none
attribute [go_sem] kpBentS
def tab_bentS_ok : List (FuncId × (List AV → Mem → Option (AV × Mem))) := [(89, bnAnyG)]
theorem bentS_ok : FunOk Tryz.prog 88 bentSG := by
  have hC := table_ok (P := Tryz.prog) (l := tab_bentS_ok) (table_more bnAny_ok table_nil)
  have t1 := fun args mm => table_at (l := tab_bentS_ok) (f := 89) (args := args) (m := mm) rfl
  refine fun_ok mixed hC Tryz.func88 rfl kpBentS false rfl fun args m r h => ?_
  unfold bentSG at h
  split at h
  · rename_i cs
    split at h
    · rename_i x hx
      obtain rfl := unGs_some hx
      split at h
      · rename_i hyp
        simp only [Option.some.injEq] at h
        subst h
        refine ⟨Nat.le_of_ble_eq_true rfl, ?_⟩
        simp only [entry, List.length_cons, List.length_nil, List.range, List.range.loop, List.zip_cons_cons, List.zip_nil_right]
        have hv : (m.push x.row).var m.vars.length = some x.row := push_var
        have l1 := lpGsNodes hv
        have f1 := fun mm => bnAnyG_eq (m := mm) (g := .no) hyp
        refine go1 (jn @l1 (jn @t1 @f1)) ?_
        exact leaves_fin rfl rfl fin_push
      · cases h
    · cases h
  · cases h
/-! ### high -/
def highS (x : Gs) : Bool := (x.param != 0) && decide ((endsL x.nodes).2 > 4294967296)
def highSG : List AV → Mem → Option (AV × Mem)
  | [.agg cs], m =>
    match unGs cs with
    | some x => if x.nodes.length ≤ big40 then some (.v (.bool (highS x)), m) else none
    | none => none
  | _, _ => none
theorem highSG_at (x : Gs) (m : Mem) (h : x.nodes.length ≤ big40) : highSG [.agg x.row] m = some (.v (.bool (highS x)), m) := by
  simp only [highSG, unGs_row]
  rw [if_pos h]
def kpHighS : Nat → Option (List Nat) := fun
  | 0 => some [1]
  | 1 => some [1, 4]
  | 2 => some [2]
  | _ => none
attribute [go_sem] kpHighS
def tab_highS_ok : List (FuncId × (List AV → Mem → Option (AV × Mem))) := [(114, endsG)]
theorem highS_ok : FunOk Tryz.prog 91 highSG := by
  have hC := table_ok (P := Tryz.prog) (l := tab_highS_ok) (table_more ends_ok table_nil)
  have t1 := fun args mm => table_at (l := tab_highS_ok) (f := 114) (args := args) (m := mm) rfl
  refine fun_ok mixed hC Tryz.func91 rfl kpHighS false rfl fun args m r h => ?_
  unfold highSG at h
  split at h
  · rename_i cs
    split at h
    · rename_i x hx
      obtain rfl := unGs_some hx
      split at h
      · rename_i hyp
        simp only [Option.some.injEq] at h
        subst h
        refine ⟨Nat.le_of_ble_eq_true rfl, ?_⟩
        simp only [entry, List.length_cons, List.length_nil, List.range, List.range.loop, List.zip_cons_cons, List.zip_nil_right]
        have hv : (m.push x.row).var m.vars.length = some x.row := push_var
        have l1 := lpGsNodes hv
        have l2 := lpGsParam hv
        have f1 := fun mm => endsG_eq (m := mm) (g := .no) hyp
        unfold highS
        cases h1 : (x.param != 0) with
        | true =>
          refine go1 (jn @l1 (jn @l2 (jn @t1 (jn @f1 @h1)))) ?_
          exact leaves_fin rfl rfl fin_push
        | false =>
          refine go1 (jn @l1 (jn @l2 (jn @t1 (jn @f1 @h1)))) ?_
          exact leaves_fin rfl rfl fin_push
      · cases h
    · cases h
  · cases h
/-! ### each -/
def eachBL (rule : Int) (R : Rc) : List Fl := upto R.phases.length fun i => upto (R.phases.getD i ph0).sets.length fun k => flawIf (bentS ((R.phases.getD i ph0).sets.getD k gs0)) rule i k
def eachBG : List AV → Mem → Option (AV × Mem)
  | [.ptr r 0, .agg cs, .fn (.func 88) [] []], m =>
    match unRc cs, m.var r with
    | some R, some [.v (.int .i64 rule), .lst .full 3 []] => if R.small then some (.tup [], flMem m r rule (eachBL rule R)) else none
    | _, _ => none
  | _, _ => none
theorem eachBG_at {m : Mem} {r : Nat} {rule : Int} {R : Rc} (hv : m.var r = some [.v (.int .i64 rule), .lst .full 3 []]) (h : R.small) : eachBG [.ptr r 0, .agg R.row, .fn (.func 88) [] []] m = some (.tup [], flMem m r rule (eachBL rule R)) := by
  simp only [eachBG, unRc_row, hv]
  rw [if_pos h]
def kpEachB : Nat → Option (List Nat) := fun
  | 0 => some [0, 2, 4]
  | 1 => some [0, 2, 11, 12, 13]
  | 2 => some [0, 2, 11, 12, 13, 14]
  | 3 => some [0, 2, 6, 7, 11, 12, 13]
  | 4 => some [0, 2, 6, 11, 12, 13, 19, 20, 21]
  | 5 => some [0, 2, 6, 11, 12, 13, 19, 20, 21, 22]
  | 6 => some [0, 2, 6, 8, 9, 11, 12, 13, 19, 20, 21]
  | 7 => some [0, 2, 6, 11, 12, 13, 19, 20, 21]
  | 8 => some [0, 2, 6, 11, 12, 13, 19, 20, 21]
  | 9 => some [0, 2, 11, 12, 13]
  | _ => none
attribute [go_sem] kpEachB
def tab_eachB_ok : List (FuncId × (List AV → Mem → Option (AV × Mem))) := [(78, noteG), (88, bentSG)]
theorem eachB_ok : FunOk Tryz.prog 87 eachBG := by
  have hC := table_ok (P := Tryz.prog) (l := tab_eachB_ok) (table_more note_ok (table_more bentS_ok table_nil))
  have t1 := fun args mm => table_at (l := tab_eachB_ok) (f := 78) (args := args) (m := mm) rfl
  have t2 := fun args mm => table_at (l := tab_eachB_ok) (f := 88) (args := args) (m := mm) rfl
  refine fun_ok mixed hC Tryz.func87 rfl kpEachB false rfl fun args m r h => ?_
  unfold eachBG at h
  split at h
  · rename_i r0 cs
    split at h
    · rename_i R rule hR hv
      obtain rfl := unRc_some hR
      split at h
      · rename_i hsm
        simp only [Option.some.injEq] at h
        subst h
        have hr0 := (var_lt hv).1
        have hP64 := hsm.2.2.1
        refine ⟨Nat.le_of_ble_eq_true rfl, ?_⟩
        simp only [entry, List.length_cons, List.length_nil, List.range, List.range.loop, List.zip_cons_cons, List.zip_nil_right]
        have hv3 : (m.push R.row).var m.vars.length = some R.row := push_var
        have f1 := lpRcPhases hv3
        refine go1 @f1 ?_
        refine runs_loop (fun k e m' => ∃ (i : Nat), i ≤ R.phases.length ∧ Above (flMem m r0 rule (upto i fun i => upto (R.phases.getD i ph0).sets.length fun k => flawIf (bentS ((R.phases.getD i ph0).sets.getD k gs0)) rule i k)) m' ∧ k = R.phases.length - i ∧
          e = [(0, AV.ptr r0 0), (2, .fn (.func 88) [] []), (11, .lst .no 5 (rowsPh R.phases)), (12, .v (.int .i64 (R.phases.length : Int))), (13, .v (.int .i64 (i : Int)))]) (k := R.phases.length)
          ⟨0, Nat.zero_le _, by rw [upto_zero, flMem_nil]; exact above_push (above_self m), rfl, rfl⟩ ?_
        rintro k e m' ⟨i, hi0, hA, rfl, rfl⟩
        refine go0 ?_
        refine runs_cond rfl (fun hc => ?_) (fun hc => ?_)
        · have hi1 : i < R.phases.length := by have := of_decide_eq_true hc; omega
          have f2 := atPh (g := .no) (kk := .i64) hi1
          have hp := hsm.phase i
          have hN := @upto_next i (fun i => upto (R.phases.getD i ph0).sets.length fun k => flawIf (bentS ((R.phases.getD i ph0).sets.getD k gs0)) rule i k)
          have hB := @upto_len (fun i => upto (R.phases.getD i ph0).sets.length fun k => flawIf (bentS ((R.phases.getD i ph0).sets.getD k gs0)) rule i k) 64 i (fun j _ => by
            have := @upto_len (fun k => flawIf (bentS ((R.phases.getD j ph0).sets.getD k gs0)) rule j k) 1 (R.phases.getD j ph0).sets.length fun k _ => flawIf_len ..
            have := (hsm.phase j).2.1
            omega)
          generalize hfl : (upto i fun i => upto (R.phases.getD i ph0).sets.length fun k => flawIf (bentS ((R.phases.getD i ph0).sets.getD k gs0)) rule i k) = fl at hA hN hB
          generalize R.phases.getD i ph0 = p at f2 hp hN
          have hA1 := above_push (cs := p.row) hA
          have hp5 : (m'.push p.row).var m'.vars.length = some p.row := push_var
          have l1 := lpPhSets hp5
          refine go1 (jn @f2 @l1) ?_
          generalize m'.push p.row = m5 at hA1
          refine runs_loop (fun k e m' => ∃ (j : Nat), j ≤ p.sets.length ∧ Above (flMem m r0 rule (fl ++ upto j fun k => flawIf (bentS (p.sets.getD k gs0)) rule i k)) m' ∧ k = p.sets.length - j ∧
            e = [(0, AV.ptr r0 0), (2, .fn (.func 88) [] []), (6, .v (.int .i64 (i : Int))), (11, .lst .no 5 (rowsPh R.phases)), (12, .v (.int .i64 (R.phases.length : Int))), (13, .v (.int .i64 (i : Int))), (19, .lst .no 3 (rowsGs p.sets)), (20, .v (.int .i64 (p.sets.length : Int))), (21, .v (.int .i64 (j : Int)))]) (k := p.sets.length)
            ⟨0, Nat.zero_le _, by rw [upto_zero, List.append_nil]; exact hA1, rfl, rfl⟩ ?_
          rintro k e m'' ⟨j, hj0, hA2, rfl, rfl⟩
          refine go0 ?_
          refine runs_cond rfl (fun hc => ?_) (fun hc => ?_)
          · have hj1 : j < p.sets.length := by have := of_decide_eq_true hc; omega
            have f4 := atGs (g := .no) (kk := .i64) hj1
            have hs100 : (p.sets.getD j gs0).nodes.length ≤ 100 := hp.2.2 _ (by rw [List.getD, List.getElem?_eq_getElem hj1]; exact List.getElem_mem _)
            have hN2 := @upto_next j (fun k => flawIf (bentS (p.sets.getD k gs0)) rule i k)
            have hB2 := @upto_len (fun k => flawIf (bentS (p.sets.getD k gs0)) rule i k) 1 j fun k _ => flawIf_len ..
            generalize hfl2 : (upto j fun k => flawIf (bentS (p.sets.getD k gs0)) rule i k) = fl2 at hA2 hN2 hB2
            generalize p.sets.getD j gs0 = s at f4 hs100 hN2
            have hA3 := above_push (cs := s.row) hA2
            have hu8 : (m''.push s.row).var m''.vars.length = some s.row := push_var
            have l2 := vrGs hu8
            have f5 := fun mm => bentSG_at s mm (by unfold big40; omega)
            have hpl := hp.2.1
            obtain ⟨m2, n1, n2, n3⟩ := note_step hv hA3 (by rw [List.length_append]; omega) (bentS s) i j
            rw [flawIf_app, List.append_assoc, ← hN2] at n2
            have r6 := next_i64 (i := j) (by omega)
            refine go1 (jn @f4 (jn @l2 (jn @t2 (jn @f5 (jn @t1 (jn @n1 @r6)))))) ?_
            exact ⟨p.sets.length - (j + 1), by omega, j + 1, hj1, n2, rfl, rfl⟩
          · have hj1 : j = p.sets.length := by have := of_decide_eq_false hc; omega
            subst hj1
            have r6 := next_i64 (i := i) (by omega)
            rw [← hN] at hA2
            refine go1 @r6 ?_
            exact ⟨R.phases.length - (i + 1), by omega, i + 1, hi1, hA2, rfl, rfl⟩
        · have hi1 : i = R.phases.length := by have := of_decide_eq_false hc; omega
          subst hi1
          refine go0 ?_
          exact leaves_none rfl (fin_flMem hv hA)
      · cases h
    · cases h
  · cases h
def eachHL (rule : Int) (R : Rc) : List Fl := upto R.phases.length fun i => upto (R.phases.getD i ph0).sets.length fun k => flawIf (highS ((R.phases.getD i ph0).sets.getD k gs0)) rule i k
def eachHG : List AV → Mem → Option (AV × Mem)
  | [.ptr r 0, .agg cs, .fn (.func 91) [] []], m =>
    match unRc cs, m.var r with
    | some R, some [.v (.int .i64 rule), .lst .full 3 []] => if R.small then some (.tup [], flMem m r rule (eachHL rule R)) else none
    | _, _ => none
  | _, _ => none
theorem eachHG_at {m : Mem} {r : Nat} {rule : Int} {R : Rc} (hv : m.var r = some [.v (.int .i64 rule), .lst .full 3 []]) (h : R.small) : eachHG [.ptr r 0, .agg R.row, .fn (.func 91) [] []] m = some (.tup [], flMem m r rule (eachHL rule R)) := by
  simp only [eachHG, unRc_row, hv]
  rw [if_pos h]
def kpEachH : Nat → Option (List Nat) := fun
  | 0 => some [0, 2, 4]
  | 1 => some [0, 2, 11, 12, 13]
  | 2 => some [0, 2, 11, 12, 13, 14]
  | 3 => some [0, 2, 6, 7, 11, 12, 13]
  | 4 => some [0, 2, 6, 11, 12, 13, 19, 20, 21]
  | 5 => some [0, 2, 6, 11, 12, 13, 19, 20, 21, 22]
  | 6 => some [0, 2, 6, 8, 9, 11, 12, 13, 19, 20, 21]
  | 7 => some [0, 2, 6, 11, 12, 13, 19, 20, 21]
  | 8 => some [0, 2, 6, 11, 12, 13, 19, 20, 21]
  | 9 => some [0, 2, 11, 12, 13]
  | _ => none
attribute [go_sem] kpEachH
def tab_eachH_ok : List (FuncId × (List AV → Mem → Option (AV × Mem))) := [(78, noteG), (91, highSG)]
theorem eachH_ok : FunOk Tryz.prog 87 eachHG := by
  have hC := table_ok (P := Tryz.prog) (l := tab_eachH_ok) (table_more note_ok (table_more highS_ok table_nil))
  have t1 := fun args mm => table_at (l := tab_eachH_ok) (f := 78) (args := args) (m := mm) rfl
  have t2 := fun args mm => table_at (l := tab_eachH_ok) (f := 91) (args := args) (m := mm) rfl
  refine fun_ok mixed hC Tryz.func87 rfl kpEachH false rfl fun args m r h => ?_
  unfold eachHG at h
  split at h
  · rename_i r0 cs
    split at h
    · rename_i R rule hR hv
      obtain rfl := unRc_some hR
      split at h
      · rename_i hsm
        simp only [Option.some.injEq] at h
        subst h
        have hr0 := (var_lt hv).1
        have hP64 := hsm.2.2.1
        refine ⟨Nat.le_of_ble_eq_true rfl, ?_⟩
        simp only [entry, List.length_cons, List.length_nil, List.range, List.range.loop, List.zip_cons_cons, List.zip_nil_right]
        have hv3 : (m.push R.row).var m.vars.length = some R.row := push_var
        have f1 := lpRcPhases hv3
        refine go1 @f1 ?_
        refine runs_loop (fun k e m' => ∃ (i : Nat), i ≤ R.phases.length ∧ Above (flMem m r0 rule (upto i fun i => upto (R.phases.getD i ph0).sets.length fun k => flawIf (highS ((R.phases.getD i ph0).sets.getD k gs0)) rule i k)) m' ∧ k = R.phases.length - i ∧
          e = [(0, AV.ptr r0 0), (2, .fn (.func 91) [] []), (11, .lst .no 5 (rowsPh R.phases)), (12, .v (.int .i64 (R.phases.length : Int))), (13, .v (.int .i64 (i : Int)))]) (k := R.phases.length)
          ⟨0, Nat.zero_le _, by rw [upto_zero, flMem_nil]; exact above_push (above_self m), rfl, rfl⟩ ?_
        rintro k e m' ⟨i, hi0, hA, rfl, rfl⟩
        refine go0 ?_
        refine runs_cond rfl (fun hc => ?_) (fun hc => ?_)
        · have hi1 : i < R.phases.length := by have := of_decide_eq_true hc; omega
          have f2 := atPh (g := .no) (kk := .i64) hi1
          have hp := hsm.phase i
          have hN := @upto_next i (fun i => upto (R.phases.getD i ph0).sets.length fun k => flawIf (highS ((R.phases.getD i ph0).sets.getD k gs0)) rule i k)
          have hB := @upto_len (fun i => upto (R.phases.getD i ph0).sets.length fun k => flawIf (highS ((R.phases.getD i ph0).sets.getD k gs0)) rule i k) 64 i (fun j _ => by
            have := @upto_len (fun k => flawIf (highS ((R.phases.getD j ph0).sets.getD k gs0)) rule j k) 1 (R.phases.getD j ph0).sets.length fun k _ => flawIf_len ..
            have := (hsm.phase j).2.1
            omega)
          generalize hfl : (upto i fun i => upto (R.phases.getD i ph0).sets.length fun k => flawIf (highS ((R.phases.getD i ph0).sets.getD k gs0)) rule i k) = fl at hA hN hB
          generalize R.phases.getD i ph0 = p at f2 hp hN
          have hA1 := above_push (cs := p.row) hA
          have hp5 : (m'.push p.row).var m'.vars.length = some p.row := push_var
          have l1 := lpPhSets hp5
          refine go1 (jn @f2 @l1) ?_
          generalize m'.push p.row = m5 at hA1
          refine runs_loop (fun k e m' => ∃ (j : Nat), j ≤ p.sets.length ∧ Above (flMem m r0 rule (fl ++ upto j fun k => flawIf (highS (p.sets.getD k gs0)) rule i k)) m' ∧ k = p.sets.length - j ∧
            e = [(0, AV.ptr r0 0), (2, .fn (.func 91) [] []), (6, .v (.int .i64 (i : Int))), (11, .lst .no 5 (rowsPh R.phases)), (12, .v (.int .i64 (R.phases.length : Int))), (13, .v (.int .i64 (i : Int))), (19, .lst .no 3 (rowsGs p.sets)), (20, .v (.int .i64 (p.sets.length : Int))), (21, .v (.int .i64 (j : Int)))]) (k := p.sets.length)
            ⟨0, Nat.zero_le _, by rw [upto_zero, List.append_nil]; exact hA1, rfl, rfl⟩ ?_
          rintro k e m'' ⟨j, hj0, hA2, rfl, rfl⟩
          refine go0 ?_
          refine runs_cond rfl (fun hc => ?_) (fun hc => ?_)
          · have hj1 : j < p.sets.length := by have := of_decide_eq_true hc; omega
            have f4 := atGs (g := .no) (kk := .i64) hj1
            have hs100 : (p.sets.getD j gs0).nodes.length ≤ 100 := hp.2.2 _ (by rw [List.getD, List.getElem?_eq_getElem hj1]; exact List.getElem_mem _)
            have hN2 := @upto_next j (fun k => flawIf (highS (p.sets.getD k gs0)) rule i k)
            have hB2 := @upto_len (fun k => flawIf (highS (p.sets.getD k gs0)) rule i k) 1 j fun k _ => flawIf_len ..
            generalize hfl2 : (upto j fun k => flawIf (highS (p.sets.getD k gs0)) rule i k) = fl2 at hA2 hN2 hB2
            generalize p.sets.getD j gs0 = s at f4 hs100 hN2
            have hA3 := above_push (cs := s.row) hA2
            have hu8 : (m''.push s.row).var m''.vars.length = some s.row := push_var
            have l2 := vrGs hu8
            have f5 := fun mm => highSG_at s mm (by unfold big40; omega)
            have hpl := hp.2.1
            obtain ⟨m2, n1, n2, n3⟩ := note_step hv hA3 (by rw [List.length_append]; omega) (highS s) i j
            rw [flawIf_app, List.append_assoc, ← hN2] at n2
            have r6 := next_i64 (i := j) (by omega)
            refine go1 (jn @f4 (jn @l2 (jn @t2 (jn @f5 (jn @t1 (jn @n1 @r6)))))) ?_
            exact ⟨p.sets.length - (j + 1), by omega, j + 1, hj1, n2, rfl, rfl⟩
          · have hj1 : j = p.sets.length := by have := of_decide_eq_false hc; omega
            subst hj1
            have r6 := next_i64 (i := i) (by omega)
            rw [← hN] at hA2
            refine go1 @r6 ?_
            exact ⟨R.phases.length - (i + 1), by omega, i + 1, hi1, hA2, rfl, rfl⟩
        · have hi1 : i = R.phases.length := by have := of_decide_eq_false hc; omega
          subst hi1
          refine go0 ?_
          exact leaves_none rfl (fin_flMem hv hA)
      · cases h
    · cases h
  · cases h
end Go.Proofs.YtojaokhkbmiidaaGreat.Ev

namespace Go.Proofs.YtojaokhkbmiidaaGreat.Ev
open Go Go.Proofs
set_option maxRecDepth 10000
set_option maxHeartbeats 8000000
set_option linter.unusedVariables false
set_option linter.unusedSimpArgs false
attribute [local irreducible] Next Inside Runs Ops table
attribute [local go_sem] szStr szInt Option.getD_some isNil evStr iv loadStr loadInt rowsS_len rowsN_len rowsGs_len rowsPh_len mapGs mapPh mapRc ldNode ldGs ldPh cellsGs cellsPh cellsRc newGs newPh newRc zrPh zoPh znPh zsPh zrGs zoGs znGs zsGs fpPhFrozen fpRcSteps fpRcEpoch fpRcMetrics fpRcGroups fpRcEval fpRcPhases
/-! ### frozen -/
def Rc.frozenBad (R : Rc) (p : Ph) (k : Nat) : Bool := !among R.groups (p.frozen.getD k ⟨#[]⟩) || decide (placeOf p.frozen (p.frozen.getD k ⟨#[]⟩) < (k : Int))
def frozenL (rule : Int) (R : Rc) : List Fl := upto R.phases.length fun i => upto (R.phases.getD i ph0).frozen.length fun k => flawIf (R.frozenBad (R.phases.getD i ph0) k) rule i k
def frozenG : List AV → Mem → Option (AV × Mem)
  | [.ptr r 0, .agg cs], m =>
    match unRc cs, m.var r with
    | some R, some [.v (.int .i64 rule), .lst .full 3 []] => if R.small then some (.tup [], flMem m r rule (frozenL rule R)) else none
    | _, _ => none
  | _, _ => none
theorem frozenG_at {m : Mem} {r : Nat} {rule : Int} {R : Rc} (hv : m.var r = some [.v (.int .i64 rule), .lst .full 3 []]) (h : R.small) : frozenG [.ptr r 0, .agg R.row] m = some (.tup [], flMem m r rule (frozenL rule R)) := by
  simp only [frozenG, unRc_row, hv]
  rw [if_pos h]
def kpFrozen : Nat → Option (List Nat) := fun
  | 0 => some [0, 3]
  | 1 => some [0, 3, 9, 10, 11]
  | 2 => some [0, 3, 9, 10, 11, 12]
  | 3 => some [0, 3, 4, 5, 9, 10, 11]
  | 4 => some [0, 3, 4, 5, 9, 10, 11, 17, 18, 19]
  | 5 => some [0, 3, 4, 5, 9, 10, 11, 17, 18, 19, 20]
  | 6 => some [0, 3, 4, 5, 6, 7, 9, 10, 11, 17, 18, 19]
  | 7 => some [0, 3, 4, 5, 9, 10, 11, 17, 18, 19]
  | 8 => some [0, 3, 4, 5, 9, 10, 11, 17, 18, 19]
  | 9 => some [0, 3, 9, 10, 11]
  | _ => none
attribute [go_sem] kpFrozen
def tab_frozen_ok : List (FuncId × (List AV → Mem → Option (AV × Mem))) := [(78, noteG), (132, amongG), (130, placeG)]
theorem frozen_ok : FunOk Tryz.prog 85 frozenG := by
  have hC := table_ok (P := Tryz.prog) (l := tab_frozen_ok) (table_more note_ok (table_more among_ok (table_more index_ok table_nil)))
  have t1 := fun args mm => table_at (l := tab_frozen_ok) (f := 78) (args := args) (m := mm) rfl
  have t2 := fun args mm => table_at (l := tab_frozen_ok) (f := 132) (args := args) (m := mm) rfl
  have t3 := fun args mm => table_at (l := tab_frozen_ok) (f := 130) (args := args) (m := mm) rfl
  refine fun_ok mixed hC Tryz.func85 rfl kpFrozen false rfl fun args m r h => ?_
  unfold frozenG at h
  split at h
  · rename_i r0 cs
    split at h
    · rename_i R rule hR hv
      obtain rfl := unRc_some hR
      split at h
      · rename_i hsm
        simp only [Option.some.injEq] at h
        subst h
        have hr0 := (var_lt hv).1
        have hP64 := hsm.2.2.1
        refine ⟨Nat.le_of_ble_eq_true rfl, ?_⟩
        simp only [entry, List.length_cons, List.length_nil, List.range, List.range.loop, List.zip_cons_cons, List.zip_nil_right]
        have hv3 : (m.push R.row).var m.vars.length = some R.row := push_var
        have f1 := lpRcPhases hv3
        refine go1 @f1 ?_
        refine runs_loop (fun k e m' => ∃ (i : Nat), i ≤ R.phases.length ∧ Above (flMem m r0 rule (upto i fun i => upto (R.phases.getD i ph0).frozen.length fun k => flawIf (R.frozenBad (R.phases.getD i ph0) k) rule i k)) m' ∧ m'.var m.vars.length = some R.row ∧ k = R.phases.length - i ∧
          e = [(0, AV.ptr r0 0), (3, .ptr m.vars.length 0), (9, .lst .no 5 (rowsPh R.phases)), (10, .v (.int .i64 (R.phases.length : Int))), (11, .v (.int .i64 (i : Int)))]) (k := R.phases.length)
          ⟨0, Nat.zero_le _, by rw [upto_zero, flMem_nil]; exact above_push (above_self m), hv3, rfl, rfl⟩ ?_
        rintro k e m' ⟨i, hi0, hA, hw3, rfl, rfl⟩
        refine go0 ?_
        refine runs_cond rfl (fun hc => ?_) (fun hc => ?_)
        · have hi1 : i < R.phases.length := by have := of_decide_eq_true hc; omega
          have f2 := atPh (g := .no) (kk := .i64) hi1
          have hp := hsm.phase i
          have hN := @upto_next i (fun i => upto (R.phases.getD i ph0).frozen.length fun k => flawIf (R.frozenBad (R.phases.getD i ph0) k) rule i k)
          have hB := @upto_len (fun i => upto (R.phases.getD i ph0).frozen.length fun k => flawIf (R.frozenBad (R.phases.getD i ph0) k) rule i k) 64 i (fun j _ => by
            have := @upto_len (fun k => flawIf (R.frozenBad (R.phases.getD j ph0) k) rule j k) 1 (R.phases.getD j ph0).frozen.length fun k _ => flawIf_len ..
            have := (hsm.phase j).1
            omega)
          generalize hfl : (upto i fun i => upto (R.phases.getD i ph0).frozen.length fun k => flawIf (R.frozenBad (R.phases.getD i ph0) k) rule i k) = fl at hA hN hB
          generalize R.phases.getD i ph0 = p at f2 hp hN
          have hA1 := above_push (cs := p.row) hA
          have hp5 : (m'.push p.row).var m'.vars.length = some p.row := push_var
          have hw5 := push_old (cs' := p.row) hw3
          have hne5 : m'.vars.length ≠ r0 := by have := above_len hA; rw [flMem_len] at this; omega
          have hne3 : m.vars.length ≠ r0 := by omega
          have l1 := lpPhFrozen hp5
          refine go1 (jn @f2 @l1) ?_
          generalize m'.vars.length = n5 at hp5 hne5
          generalize m'.push p.row = m5 at hA1 hp5 hw5
          refine runs_loop (fun k e m' => ∃ (j : Nat), j ≤ p.frozen.length ∧ Above (flMem m r0 rule (fl ++ upto j fun k => flawIf (R.frozenBad p k) rule i k)) m' ∧ m'.var m.vars.length = some R.row ∧ m'.var n5 = some p.row ∧ k = p.frozen.length - j ∧
            e = [(0, AV.ptr r0 0), (3, .ptr m.vars.length 0), (4, .v (.int .i64 (i : Int))), (5, .ptr n5 0), (9, .lst .no 5 (rowsPh R.phases)), (10, .v (.int .i64 (R.phases.length : Int))), (11, .v (.int .i64 (i : Int))), (17, .lst .no 1 (rowsS p.frozen)), (18, .v (.int .i64 (p.frozen.length : Int))), (19, .v (.int .i64 (j : Int)))]) (k := p.frozen.length)
            ⟨0, Nat.zero_le _, by rw [upto_zero, List.append_nil]; exact hA1, hw5, hp5, rfl, rfl⟩ ?_
          rintro k e m'' ⟨j, hj0, hA2, hw6, hp6, rfl, rfl⟩
          refine go0 ?_
          refine runs_cond rfl (fun hc => ?_) (fun hc => ?_)
          · have hj1 : j < p.frozen.length := by have := of_decide_eq_true hc; omega
            have f4 := atStrs (g := .no) (kk := .i64) hj1
            have hN2 := @upto_next j (fun k => flawIf (R.frozenBad p k) rule i k)
            have hB2 := @upto_len (fun k => flawIf (R.frozenBad p k) rule i k) 1 j fun k _ => flawIf_len ..
            generalize hfl2 : (upto j fun k => flawIf (R.frozenBad p k) rule i k) = fl2 at hA2 hN2 hB2
            have hbad : R.frozenBad p j = (!among R.groups (p.frozen.getD j ⟨#[]⟩) || decide (placeOf p.frozen (p.frozen.getD j ⟨#[]⟩) < (j : Int))) := rfl
            generalize p.frozen.getD j ⟨#[]⟩ = s at f4 hbad
            have f5 := fun mm => amongG_eq (m := mm) (g := .no) (l := R.groups) (s := s) (by have := hsm.2.1; omega)
            have f6 := fun mm => placeG_eq (m := mm) (g := .no) (l := p.frozen) (s := s) (by have := hp.1; omega)
            have l2 := lpRcGroups hw6
            have l3 := lpPhFrozen hp6
            have hpl := hp.1
            have w1 : (!true) = false := rfl
            have w2 : (!false) = true := rfl
            have r6 := next_i64 (i := j) (by omega)
            cases ha : among R.groups s with
            | false =>
              rw [ha] at hbad f5
              obtain ⟨m2, n1, n2, n3⟩ := note_step hv hA2 (by rw [List.length_append]; omega) true i j
              rw [flawIf_app, List.append_assoc, show true = R.frozenBad p j from hbad.symm, ← hN2] at n2
              refine go1 (jn @f4 (jn @l2 (jn @t2 (jn @f5 (jn @w2 (jn @t1 (jn @n1 @r6))))))) ?_
              exact ⟨p.frozen.length - (j + 1), by omega, j + 1, hj1, n2, n3 _ _ hne3 hw6, n3 _ _ hne5 hp6, rfl, rfl⟩
            | true =>
              rw [ha] at hbad f5
              obtain ⟨m2, n1, n2, n3⟩ := note_step hv hA2 (by rw [List.length_append]; omega) (decide (placeOf p.frozen s < (j : Int))) i j
              rw [flawIf_app, List.append_assoc, show decide (placeOf p.frozen s < (j : Int)) = R.frozenBad p j from hbad.symm, ← hN2] at n2
              refine go1 (jn @f4 (jn @l2 (jn @t2 (jn @f5 (jn @w1 (jn @l3 (jn @t3 (jn @f6 (jn @t1 (jn @n1 @r6)))))))))) ?_
              exact ⟨p.frozen.length - (j + 1), by omega, j + 1, hj1, n2, n3 _ _ hne3 hw6, n3 _ _ hne5 hp6, rfl, rfl⟩
          · have hj1 : j = p.frozen.length := by have := of_decide_eq_false hc; omega
            subst hj1
            have r6 := next_i64 (i := i) (by omega)
            rw [← hN] at hA2
            refine go1 @r6 ?_
            exact ⟨R.phases.length - (i + 1), by omega, i + 1, hi1, hA2, hw6, rfl, rfl⟩
        · have hi1 : i = R.phases.length := by have := of_decide_eq_false hc; omega
          subst hi1
          refine go0 ?_
          exact leaves_none rfl (fin_flMem hv hA)
      · cases h
    · cases h
  · cases h
attribute [local go_sem] fpRcStop fpRcStopOn fpRcStopMetric fpRcStopPatience fpRcPlateau fpRcPlateauOn fpRcPlateauMetric fpRcPlateauPatience fpRcPlateauFactor fpRcKeep fpRcKeepOn fpRcKeepMetric fpRcKeepCount fpRcEma fpRcEmaOn fpRcEmaDecay fpRcSwa fpRcSwaOn fpRcSwaFrom fpRcSwaEvery fpRlRule
/-! ### ends -/
def Rc.blind (R : Rc) (s : ByteArray) : Bool := !among R.metrics s || (R.eval == 0)
def Rc.swaSteps (R : Rc) : Int × Int := stepsP R.swaFromU R.swaFromN R.steps R.epoch
def Rc.endBad (R : Rc) (rule : Int) : Bool :=
  if rule = 14 then R.stopOn && (R.blind R.stopMetric || (R.stopPatience == 0)) else if rule = 15 then R.plateauOn && (R.blind R.plateauMetric || ((R.plateauPatience == 0) || decide (R.plateauFactor ≥ 4294967296))) else if rule = 16 then R.keepOn && (R.blind R.keepMetric || !decide (1 ≤ R.keepCount ∧ R.keepCount ≤ 16)) else if rule = 17 then R.emaOn && decide (R.emaDecay > 4294967296) else if rule = 18 then R.swaOn && ((R.swaEvery == 0) || ((R.swaSteps.2 != 0) || decide (R.swaSteps.1 > R.steps))) else false
def blindG : List AV → Mem → Option (AV × Mem)
  | [.v (.string s), .ptr q 0], m =>
    match (m.var q).bind unRc with
    | some R => if R.metrics.length ≤ 64 then some (.v (.bool (R.blind s)), m) else none
    | none => none
  | _, _ => none
theorem blindG_at {m : Mem} {q : Nat} {R : Rc} (s : ByteArray) (hq : m.var q = some R.row) (h : R.metrics.length ≤ 64) : blindG [.v (.string s), .ptr q 0] m = some (.v (.bool (R.blind s)), m) := by
  simp only [blindG, hq, Option.bind_some, unRc_row]
  rw [if_pos h]
def kpBlind : Nat → Option (List Nat) := fun
  | 0 => some [0, 1]
  | 1 => some [3]
  | _ => none
attribute [go_sem] kpBlind
def tab_blind_ok : List (FuncId × (List AV → Mem → Option (AV × Mem))) := [(132, amongG)]
theorem blind_ok : FunOk Tryz.prog 134 blindG := by
  have hC := table_ok (P := Tryz.prog) (l := tab_blind_ok) (table_more among_ok table_nil)
  have t1 := fun args mm => table_at (l := tab_blind_ok) (f := 132) (args := args) (m := mm) rfl
  refine fun_ok mixed hC Tryz.func134 rfl kpBlind false rfl fun args m r h => ?_
  unfold blindG at h
  split at h
  · rename_i s q
    split at h
    · rename_i R hR
      obtain ⟨cs, hq, hcs⟩ := Option.bind_eq_some_iff.1 hR
      obtain rfl := unRc_some hcs
      split at h
      · rename_i h64
        simp only [Option.some.injEq] at h
        subst h
        refine ⟨Nat.le_of_ble_eq_true rfl, ?_⟩
        simp only [entry, List.length_cons, List.length_nil, List.range, List.range.loop, List.zip_cons_cons, List.zip_nil_right]
        have l1 := lpRcMetrics hq
        have l2 := lpRcEval hq
        have f1 := fun mm => amongG_eq (m := mm) (g := .no) (l := R.metrics) (s := s) (by omega)
        have w1 : (!true) = false := rfl
        have w2 : (!false) = true := rfl
        unfold Rc.blind
        cases ha : among R.metrics s with
        | true =>
          rw [ha] at f1
          refine go1 (jn @l1 (jn @t1 (jn @f1 (jn @w1 @l2)))) ?_
          exact leaves_v rfl rfl
        | false =>
          rw [ha] at f1
          refine go1 (jn @l1 (jn @t1 (jn @f1 @w2))) ?_
          exact leaves_v rfl rfl
      · cases h
    · cases h
  · cases h
def endsFG : List AV → Mem → Option (AV × Mem)
  | [.ptr r 0, .agg cs], m =>
    match unRc cs, m.var r with
    | some R, some [.v (.int .i64 rule), .lst .full 3 []] => if R.small ∧ 14 ≤ rule ∧ rule ≤ 18 then some (.tup [], flMem m r rule (flawIf (R.endBad rule) rule 0 0)) else none
    | _, _ => none
  | _, _ => none
theorem endsFG_at {m : Mem} {r : Nat} {rule : Int} {R : Rc} (hv : m.var r = some [.v (.int .i64 rule), .lst .full 3 []]) (h : R.small) (h1 : 14 ≤ rule) (h2 : rule ≤ 18) : endsFG [.ptr r 0, .agg R.row] m = some (.tup [], flMem m r rule (flawIf (R.endBad rule) rule 0 0)) := by
  simp only [endsFG, unRc_row, hv]
  rw [if_pos ⟨h, h1, h2⟩]
def kpEndsF : Nat → Option (List Nat) := fun
  | 0 => some [0, 3]
  | 1 => some [0, 3, 4]
  | 2 => some [0, 3, 4, 5, 6]
  | 3 => some [0, 3, 4, 5, 6, 7]
  | 4 => some [0, 3, 4, 5, 6, 7, 23]
  | 5 => some [0, 3, 4, 5, 6, 7, 23, 24]
  | 6 => some [0, 7]
  | 7 => some [0, 3, 4, 5, 6, 7, 23, 42]
  | 8 => some [0, 7]
  | 9 => some [0, 3, 4, 5, 6, 7, 23, 66]
  | 10 => some [0, 7]
  | 11 => some [0, 3, 5, 6, 7, 23, 85]
  | 12 => some [0, 7]
  | 13 => some [0, 3, 5, 6, 7, 96]
  | 14 => some [0, 7]
  | 15 => some []
  | _ => none
attribute [go_sem] kpEndsF
def tab_endsF_ok : List (FuncId × (List AV → Mem → Option (AV × Mem))) := [(78, noteG), (48, stepsLG), (79, withinG), (134, blindG)]
attribute [local go_sem] List.cons_append
theorem endsF_ok : FunOk Tryz.prog 92 endsFG := by
  have hC := table_ok (P := Tryz.prog) (l := tab_endsF_ok) (table_more note_ok (table_more stepsL_ok (table_more rwithin_ok (table_more blind_ok table_nil))))
  have t1 := fun args mm => table_at (l := tab_endsF_ok) (f := 78) (args := args) (m := mm) rfl
  have t2 := fun args mm => table_at (l := tab_endsF_ok) (f := 48) (args := args) (m := mm) rfl
  have t3 := fun args mm => table_at (l := tab_endsF_ok) (f := 79) (args := args) (m := mm) rfl
  have t4 := fun args mm => table_at (l := tab_endsF_ok) (f := 134) (args := args) (m := mm) rfl
  refine fun_ok mixed hC Tryz.func92 rfl kpEndsF false rfl fun args m r h => ?_
  unfold endsFG at h
  split at h
  · rename_i r0 cs
    split at h
    · rename_i R rule hR hv
      obtain rfl := unRc_some hR
      split at h
      · rename_i hsm
        obtain ⟨hsm, h14, h18⟩ := hsm
        simp only [Option.some.injEq] at h
        subst h
        have hr0 := (var_lt hv).1
        refine ⟨Nat.le_of_ble_eq_true rfl, ?_⟩
        simp only [entry, List.length_cons, List.length_nil, List.range, List.range.loop, List.zip_cons_cons, List.zip_nil_right]
        have hA : Above (flMem m r0 rule []) (m.push R.row) := by rw [flMem_nil]; exact above_push (above_self m)
        have hv3 : (m.push R.row).var m.vars.length = some R.row := push_var
        have hvr := push_old (cs' := R.row) hv
        have N := fun b => note_step hv hA (by decide) b 0 0
        generalize hm1 : m.push R.row = m1 at hA hv3 hvr N
        have nr := newRc (m := m) (x := R)
        rw [hm1] at nr
        have fin : ∀ (e : Env) (m2 : Mem) (b : Bool), Above (flMem m r0 rule (if b then [] ++ [⟨rule, 0, 0⟩] else [])) m2 → R.endBad rule = b → Leaves Tryz.prog false Tryz.f92 m (.tup [], flMem m r0 rule (flawIf (R.endBad rule) rule 0 0)) .normal e m2 := fun e m2 b hA2 hb => by
          rw [flawIf_app, ← hb, List.nil_append] at hA2
          exact leaves_none rfl (fin_flMem hv hA2)
        have f1 := fun s => blindG_at (m := m1) s hv3 hsm.1
        have f2 := fun mm => stepsLG_eq (u := R.swaFromU) (n := R.swaFromN) (of := R.steps) (ep := R.epoch) (m := mm)
        rw [show stepsP R.swaFromU R.swaFromN R.steps R.epoch = R.swaSteps from rfl] at f2
        have fw : ∀ x lo hi mm, withinG [.v (.int .i64 x), .v (.int .i64 lo), .v (.int .i64 hi)] mm = some (.v (.bool (decide (lo ≤ x ∧ x ≤ hi))), mm) := fun _ _ _ _ => rfl
        have k1 := lpRlRule hvr
        have y1 := lpRcSwaFrom hv3
        have y2 := lpRcSteps hv3
        have y3 := lpRcEpoch hv3
        have hrule : rule = 14 ∨ rule = 15 ∨ rule = 16 ∨ rule = 17 ∨ rule = 18 := by omega
        rcases hrule with rfl | rfl | rfl | rfl | rfl
        · have e14 : R.endBad 14 = (R.stopOn && (R.blind R.stopMetric || (R.stopPatience == 0))) := rfl
          have z0 := lpRcStopOn hv3
          have z1 := lpRcStopMetric hv3
          have z2 := lpRcStopPatience hv3
          cases q0 : R.stopOn with
          | false =>
            rw [q0] at e14
            obtain ⟨m2, n1, n2, n3⟩ := N (false)
            repeat' (first | refine gos1 (jn @nr (jn @y1 (jn @y2 (jn @y3 (jn @t2 (jn @f2 (jn @k1 (jn @z0 (jn @z1 (jn @z2 (jn @t4 (jn @f1 (jn @t3 (jn @fw (jn @t1 (jn @n1 @q0)))))))))))))))) ?_ | (refine ops_here ?_; (fail_if_success (refine ops_case (B := true) rfl rfl rfl ?_ ?_)); (fail_if_success (refine ops_case (B := false) rfl rfl rfl ?_ ?_)); refine ops_case rfl rfl rfl (fun hB => ?_) (fun hB => ?_) <;> rw [hB]) | (refine runs_here ?_; refine runs_cond rfl (fun hc => ?_) (fun hc => ?_) <;> first | (cases hc; done) | skip))
            exact fin _ _ _ n2 e14
          | true =>
            cases q1 : R.blind R.stopMetric with
            | true =>
              rw [q0, q1] at e14
              obtain ⟨m2, n1, n2, n3⟩ := N (true)
              repeat' (first | refine gos1 (jn @nr (jn @y1 (jn @y2 (jn @y3 (jn @t2 (jn @f2 (jn @k1 (jn @z0 (jn @z1 (jn @z2 (jn @t4 (jn @f1 (jn @t3 (jn @fw (jn @t1 (jn @n1 (jn @q0 @q1))))))))))))))))) ?_ | (refine ops_here ?_; (fail_if_success (refine ops_case (B := true) rfl rfl rfl ?_ ?_)); (fail_if_success (refine ops_case (B := false) rfl rfl rfl ?_ ?_)); refine ops_case rfl rfl rfl (fun hB => ?_) (fun hB => ?_) <;> rw [hB]) | (refine runs_here ?_; refine runs_cond rfl (fun hc => ?_) (fun hc => ?_) <;> first | (cases hc; done) | skip))
              exact fin _ _ _ n2 e14
            | false =>
              rw [q0, q1] at e14
              obtain ⟨m2, n1, n2, n3⟩ := N ((R.stopPatience == 0))
              repeat' (first | refine gos1 (jn @nr (jn @y1 (jn @y2 (jn @y3 (jn @t2 (jn @f2 (jn @k1 (jn @z0 (jn @z1 (jn @z2 (jn @t4 (jn @f1 (jn @t3 (jn @fw (jn @t1 (jn @n1 (jn @q0 @q1))))))))))))))))) ?_ | (refine ops_here ?_; (fail_if_success (refine ops_case (B := true) rfl rfl rfl ?_ ?_)); (fail_if_success (refine ops_case (B := false) rfl rfl rfl ?_ ?_)); refine ops_case rfl rfl rfl (fun hB => ?_) (fun hB => ?_) <;> rw [hB]) | (refine runs_here ?_; refine runs_cond rfl (fun hc => ?_) (fun hc => ?_) <;> first | (cases hc; done) | skip))
              exact fin _ _ _ n2 e14
        · have e14 : R.endBad 15 = (R.plateauOn && (R.blind R.plateauMetric || ((R.plateauPatience == 0) || decide (R.plateauFactor ≥ 4294967296)))) := rfl
          have z0 := lpRcPlateauOn hv3
          have z1 := lpRcPlateauMetric hv3
          have z2 := lpRcPlateauPatience hv3
          have z3 := lpRcPlateauFactor hv3
          cases q0 : R.plateauOn with
          | false =>
            rw [q0] at e14
            obtain ⟨m2, n1, n2, n3⟩ := N (false)
            repeat' (first | refine gos1 (jn @nr (jn @y1 (jn @y2 (jn @y3 (jn @t2 (jn @f2 (jn @k1 (jn @z0 (jn @z1 (jn @z2 (jn @z3 (jn @t4 (jn @f1 (jn @t3 (jn @fw (jn @t1 (jn @n1 @q0))))))))))))))))) ?_ | (refine ops_here ?_; (fail_if_success (refine ops_case (B := true) rfl rfl rfl ?_ ?_)); (fail_if_success (refine ops_case (B := false) rfl rfl rfl ?_ ?_)); refine ops_case rfl rfl rfl (fun hB => ?_) (fun hB => ?_) <;> rw [hB]) | (refine runs_here ?_; refine runs_cond rfl (fun hc => ?_) (fun hc => ?_) <;> first | (cases hc; done) | skip))
            exact fin _ _ _ n2 e14
          | true =>
            cases q1 : R.blind R.plateauMetric with
            | true =>
              rw [q0, q1] at e14
              obtain ⟨m2, n1, n2, n3⟩ := N (true)
              repeat' (first | refine gos1 (jn @nr (jn @y1 (jn @y2 (jn @y3 (jn @t2 (jn @f2 (jn @k1 (jn @z0 (jn @z1 (jn @z2 (jn @z3 (jn @t4 (jn @f1 (jn @t3 (jn @fw (jn @t1 (jn @n1 (jn @q0 @q1)))))))))))))))))) ?_ | (refine ops_here ?_; (fail_if_success (refine ops_case (B := true) rfl rfl rfl ?_ ?_)); (fail_if_success (refine ops_case (B := false) rfl rfl rfl ?_ ?_)); refine ops_case rfl rfl rfl (fun hB => ?_) (fun hB => ?_) <;> rw [hB]) | (refine runs_here ?_; refine runs_cond rfl (fun hc => ?_) (fun hc => ?_) <;> first | (cases hc; done) | skip))
              exact fin _ _ _ n2 e14
            | false =>
              cases q2 : (R.plateauPatience == 0) with
              | true =>
                rw [q0, q1, q2] at e14
                obtain ⟨m2, n1, n2, n3⟩ := N (true)
                repeat' (first | refine gos1 (jn @nr (jn @y1 (jn @y2 (jn @y3 (jn @t2 (jn @f2 (jn @k1 (jn @z0 (jn @z1 (jn @z2 (jn @z3 (jn @t4 (jn @f1 (jn @t3 (jn @fw (jn @t1 (jn @n1 (jn @q0 (jn @q1 @q2))))))))))))))))))) ?_ | (refine ops_here ?_; (fail_if_success (refine ops_case (B := true) rfl rfl rfl ?_ ?_)); (fail_if_success (refine ops_case (B := false) rfl rfl rfl ?_ ?_)); refine ops_case rfl rfl rfl (fun hB => ?_) (fun hB => ?_) <;> rw [hB]) | (refine runs_here ?_; refine runs_cond rfl (fun hc => ?_) (fun hc => ?_) <;> first | (cases hc; done) | skip))
                exact fin _ _ _ n2 e14
              | false =>
                rw [q0, q1, q2] at e14
                obtain ⟨m2, n1, n2, n3⟩ := N (decide (R.plateauFactor ≥ 4294967296))
                repeat' (first | refine gos1 (jn @nr (jn @y1 (jn @y2 (jn @y3 (jn @t2 (jn @f2 (jn @k1 (jn @z0 (jn @z1 (jn @z2 (jn @z3 (jn @t4 (jn @f1 (jn @t3 (jn @fw (jn @t1 (jn @n1 (jn @q0 (jn @q1 @q2))))))))))))))))))) ?_ | (refine ops_here ?_; (fail_if_success (refine ops_case (B := true) rfl rfl rfl ?_ ?_)); (fail_if_success (refine ops_case (B := false) rfl rfl rfl ?_ ?_)); refine ops_case rfl rfl rfl (fun hB => ?_) (fun hB => ?_) <;> rw [hB]) | (refine runs_here ?_; refine runs_cond rfl (fun hc => ?_) (fun hc => ?_) <;> first | (cases hc; done) | skip))
                exact fin _ _ _ n2 e14
        · have e14 : R.endBad 16 = (R.keepOn && (R.blind R.keepMetric || !decide (1 ≤ R.keepCount ∧ R.keepCount ≤ 16))) := rfl
          have z0 := lpRcKeepOn hv3
          have z1 := lpRcKeepMetric hv3
          have z2 := lpRcKeepCount hv3
          cases q0 : R.keepOn with
          | false =>
            rw [q0] at e14
            obtain ⟨m2, n1, n2, n3⟩ := N (false)
            repeat' (first | refine gos1 (jn @nr (jn @y1 (jn @y2 (jn @y3 (jn @t2 (jn @f2 (jn @k1 (jn @z0 (jn @z1 (jn @z2 (jn @t4 (jn @f1 (jn @t3 (jn @fw (jn @t1 (jn @n1 @q0)))))))))))))))) ?_ | (refine ops_here ?_; (fail_if_success (refine ops_case (B := true) rfl rfl rfl ?_ ?_)); (fail_if_success (refine ops_case (B := false) rfl rfl rfl ?_ ?_)); refine ops_case rfl rfl rfl (fun hB => ?_) (fun hB => ?_) <;> rw [hB]) | (refine runs_here ?_; refine runs_cond rfl (fun hc => ?_) (fun hc => ?_) <;> first | (cases hc; done) | skip))
            exact fin _ _ _ n2 e14
          | true =>
            cases q1 : R.blind R.keepMetric with
            | true =>
              rw [q0, q1] at e14
              obtain ⟨m2, n1, n2, n3⟩ := N (true)
              repeat' (first | refine gos1 (jn @nr (jn @y1 (jn @y2 (jn @y3 (jn @t2 (jn @f2 (jn @k1 (jn @z0 (jn @z1 (jn @z2 (jn @t4 (jn @f1 (jn @t3 (jn @fw (jn @t1 (jn @n1 (jn @q0 @q1))))))))))))))))) ?_ | (refine ops_here ?_; (fail_if_success (refine ops_case (B := true) rfl rfl rfl ?_ ?_)); (fail_if_success (refine ops_case (B := false) rfl rfl rfl ?_ ?_)); refine ops_case rfl rfl rfl (fun hB => ?_) (fun hB => ?_) <;> rw [hB]) | (refine runs_here ?_; refine runs_cond rfl (fun hc => ?_) (fun hc => ?_) <;> first | (cases hc; done) | skip))
              exact fin _ _ _ n2 e14
            | false =>
              rw [q0, q1] at e14
              obtain ⟨m2, n1, n2, n3⟩ := N ((!decide (1 ≤ R.keepCount ∧ R.keepCount ≤ 16)))
              repeat' (first | refine gos1 (jn @nr (jn @y1 (jn @y2 (jn @y3 (jn @t2 (jn @f2 (jn @k1 (jn @z0 (jn @z1 (jn @z2 (jn @t4 (jn @f1 (jn @t3 (jn @fw (jn @t1 (jn @n1 (jn @q0 @q1))))))))))))))))) ?_ | (refine ops_here ?_; (fail_if_success (refine ops_case (B := true) rfl rfl rfl ?_ ?_)); (fail_if_success (refine ops_case (B := false) rfl rfl rfl ?_ ?_)); refine ops_case rfl rfl rfl (fun hB => ?_) (fun hB => ?_) <;> rw [hB]) | (refine runs_here ?_; refine runs_cond rfl (fun hc => ?_) (fun hc => ?_) <;> first | (cases hc; done) | skip))
              exact fin _ _ _ n2 e14
        · have e14 : R.endBad 17 = (R.emaOn && decide (R.emaDecay > 4294967296)) := rfl
          have z0 := lpRcEmaOn hv3
          have z1 := lpRcEmaDecay hv3
          cases q0 : R.emaOn with
          | false =>
            rw [q0] at e14
            obtain ⟨m2, n1, n2, n3⟩ := N (false)
            repeat' (first | refine gos1 (jn @nr (jn @y1 (jn @y2 (jn @y3 (jn @t2 (jn @f2 (jn @k1 (jn @z0 (jn @z1 (jn @t4 (jn @f1 (jn @t3 (jn @fw (jn @t1 (jn @n1 @q0))))))))))))))) ?_ | (refine ops_here ?_; (fail_if_success (refine ops_case (B := true) rfl rfl rfl ?_ ?_)); (fail_if_success (refine ops_case (B := false) rfl rfl rfl ?_ ?_)); refine ops_case rfl rfl rfl (fun hB => ?_) (fun hB => ?_) <;> rw [hB]) | (refine runs_here ?_; refine runs_cond rfl (fun hc => ?_) (fun hc => ?_) <;> first | (cases hc; done) | skip))
            exact fin _ _ _ n2 e14
          | true =>
            rw [q0] at e14
            obtain ⟨m2, n1, n2, n3⟩ := N (decide (R.emaDecay > 4294967296))
            repeat' (first | refine gos1 (jn @nr (jn @y1 (jn @y2 (jn @y3 (jn @t2 (jn @f2 (jn @k1 (jn @z0 (jn @z1 (jn @t4 (jn @f1 (jn @t3 (jn @fw (jn @t1 (jn @n1 @q0))))))))))))))) ?_ | (refine ops_here ?_; (fail_if_success (refine ops_case (B := true) rfl rfl rfl ?_ ?_)); (fail_if_success (refine ops_case (B := false) rfl rfl rfl ?_ ?_)); refine ops_case rfl rfl rfl (fun hB => ?_) (fun hB => ?_) <;> rw [hB]) | (refine runs_here ?_; refine runs_cond rfl (fun hc => ?_) (fun hc => ?_) <;> first | (cases hc; done) | skip))
            exact fin _ _ _ n2 e14
        · have e14 : R.endBad 18 = (R.swaOn && ((R.swaEvery == 0) || ((R.swaSteps.2 != 0) || decide (R.swaSteps.1 > R.steps)))) := rfl
          have z0 := lpRcSwaOn hv3
          have z1 := lpRcSwaEvery hv3
          cases q0 : R.swaOn with
          | false =>
            rw [q0] at e14
            obtain ⟨m2, n1, n2, n3⟩ := N (false)
            repeat' (first | refine gos1 (jn @nr (jn @y1 (jn @y2 (jn @y3 (jn @t2 (jn @f2 (jn @k1 (jn @z0 (jn @z1 (jn @t4 (jn @f1 (jn @t3 (jn @fw (jn @t1 (jn @n1 @q0))))))))))))))) ?_ | (refine ops_here ?_; (fail_if_success (refine ops_case (B := true) rfl rfl rfl ?_ ?_)); (fail_if_success (refine ops_case (B := false) rfl rfl rfl ?_ ?_)); refine ops_case rfl rfl rfl (fun hB => ?_) (fun hB => ?_) <;> rw [hB]) | (refine runs_here ?_; refine runs_cond rfl (fun hc => ?_) (fun hc => ?_) <;> first | (cases hc; done) | skip))
            exact fin _ _ _ n2 e14
          | true =>
            cases q1 : (R.swaEvery == 0) with
            | true =>
              rw [q0, q1] at e14
              obtain ⟨m2, n1, n2, n3⟩ := N (true)
              repeat' (first | refine gos1 (jn @nr (jn @y1 (jn @y2 (jn @y3 (jn @t2 (jn @f2 (jn @k1 (jn @z0 (jn @z1 (jn @t4 (jn @f1 (jn @t3 (jn @fw (jn @t1 (jn @n1 (jn @q0 @q1)))))))))))))))) ?_ | (refine ops_here ?_; (fail_if_success (refine ops_case (B := true) rfl rfl rfl ?_ ?_)); (fail_if_success (refine ops_case (B := false) rfl rfl rfl ?_ ?_)); refine ops_case rfl rfl rfl (fun hB => ?_) (fun hB => ?_) <;> rw [hB]) | (refine runs_here ?_; refine runs_cond rfl (fun hc => ?_) (fun hc => ?_) <;> first | (cases hc; done) | skip))
              exact fin _ _ _ n2 e14
            | false =>
              cases q2 : (R.swaSteps.2 != 0) with
              | true =>
                rw [q0, q1, q2] at e14
                obtain ⟨m2, n1, n2, n3⟩ := N (true)
                repeat' (first | refine gos1 (jn @nr (jn @y1 (jn @y2 (jn @y3 (jn @t2 (jn @f2 (jn @k1 (jn @z0 (jn @z1 (jn @t4 (jn @f1 (jn @t3 (jn @fw (jn @t1 (jn @n1 (jn @q0 (jn @q1 @q2))))))))))))))))) ?_ | (refine ops_here ?_; (fail_if_success (refine ops_case (B := true) rfl rfl rfl ?_ ?_)); (fail_if_success (refine ops_case (B := false) rfl rfl rfl ?_ ?_)); refine ops_case rfl rfl rfl (fun hB => ?_) (fun hB => ?_) <;> rw [hB]) | (refine runs_here ?_; refine runs_cond rfl (fun hc => ?_) (fun hc => ?_) <;> first | (cases hc; done) | skip))
                exact fin _ _ _ n2 e14
              | false =>
                rw [q0, q1, q2] at e14
                obtain ⟨m2, n1, n2, n3⟩ := N (decide (R.swaSteps.1 > R.steps))
                repeat' (first | refine gos1 (jn @nr (jn @y1 (jn @y2 (jn @y3 (jn @t2 (jn @f2 (jn @k1 (jn @z0 (jn @z1 (jn @t4 (jn @f1 (jn @t3 (jn @fw (jn @t1 (jn @n1 (jn @q0 (jn @q1 @q2))))))))))))))))) ?_ | (refine ops_here ?_; (fail_if_success (refine ops_case (B := true) rfl rfl rfl ?_ ?_)); (fail_if_success (refine ops_case (B := false) rfl rfl rfl ?_ ?_)); refine ops_case rfl rfl rfl (fun hB => ?_) (fun hB => ?_) <;> rw [hB]) | (refine runs_here ?_; refine runs_cond rfl (fun hc => ?_) (fun hc => ?_) <;> first | (cases hc; done) | skip))
                exact fin _ _ _ n2 e14
      · cases h
    · cases h
  · cases h
end Go.Proofs.YtojaokhkbmiidaaGreat.Ev

namespace Go.Proofs.YtojaokhkbmiidaaGreat.Ev
open Go Go.Proofs
set_option maxRecDepth 10000
set_option maxHeartbeats 8000000
set_option linter.unusedVariables false
set_option linter.unusedSimpArgs false
attribute [local irreducible] Next Inside Runs Ops table
attribute [local go_sem] szStr szInt Option.getD_some isNil evStr iv loadStr loadInt rowsS_len rowsN_len rowsGs_len rowsPh_len rowsFl_len mapGs mapPh mapRc ldNode ldGs ldPh cellsGs cellsPh cellsRc newGs newPh newRc zrPh zoPh znPh zsPh fpPhLen fpPhLenU fpRcSteps fpRcEpoch fpRcWeights fpRcMetrics fpRcGroups fpRcEval fpRcPhases fpRlList
theorem or_ok {P : Program} {f : FuncId} {g1 g2 : List AV → Mem → Option (AV × Mem)} (h1 : FunOk P f g1) (h2 : FunOk P f g2) : FunOk P f fun a m => match g1 a m with | some r => some r | none => g2 a m := by
  intro args m r m' h
  dsimp only at h
  split at h
  · rename_i x hx
    exact h1 args m r m' (hx.trans h)
  · exact h2 args m r m' h
theorem setsG_at {m : Mem} {r : Nat} {rule : Int} {R : Rc} (hv : m.var r = some [.v (.int .i64 rule), .lst .full 3 []]) (h : R.small) : setsG [.ptr r 0, .agg R.row] m = some (.tup [], flMem m r rule (setsFl rule R)) := by
  simp only [setsG, unRc_row, hv]
  rw [if_pos h]
def eachG : List AV → Mem → Option (AV × Mem) := fun a m => match eachBG a m with | some r => some r | none => eachHG a m
theorem each_ok : FunOk Tryz.prog 87 eachG := or_ok eachB_ok eachH_ok
theorem eachG_B {m : Mem} {r : Nat} {rule : Int} {R : Rc} (hv : m.var r = some [.v (.int .i64 rule), .lst .full 3 []]) (h : R.small) : eachG [.ptr r 0, .agg R.row, .fn (.func 88) [] []] m = some (.tup [], flMem m r rule (eachBL rule R)) := by
  unfold eachG
  rw [eachBG_at hv h]
theorem eachG_H {m : Mem} {r : Nat} {rule : Int} {R : Rc} (hv : m.var r = some [.v (.int .i64 rule), .lst .full 3 []]) (h : R.small) : eachG [.ptr r 0, .agg R.row, .fn (.func 91) [] []] m = some (.tup [], flMem m r rule (eachHL rule R)) := by
  unfold eachG
  rw [show eachBG [.ptr r 0, .agg R.row, .fn (.func 91) [] []] m = none from rfl]
  exact eachHG_at hv h
theorem cellsRl {rule : Int} : cellsOf (.agg [.v (.int .i64 rule), .lst .full 3 []]) = some [.v (.int .i64 rule), .lst .full 3 []] := rfl
attribute [local go_sem] cellsRl
theorem newRl {m : Mem} {rule : Int} : newVar m m.vars.length [.v (.int .i64 rule), .lst .full 3 []] = some (m.push [.v (.int .i64 rule), .lst .full 3 []]) := newVar_push rfl
theorem mkRl {rule : Int} : evBuild Tryz.prog 119 [(0, .v (.int .i64 rule))] = some (.agg [.v (.int .i64 rule), .lst .full 3 []]) := by kernel_rfl
theorem flLst_is (m : Mem) (L : List Fl) : ∃ g, flLst m L = .lst g 3 (rowsFl L) := by
  unfold flLst
  split
  · rename_i h
    subst h
    exact ⟨_, rfl⟩
  · exact ⟨_, rfl⟩
theorem fin_own {m m5 m' : Mem} {n5 : Nat} {rule : Int} {L : List Fl} (h1 : Above m m5) (h2 : m.vars.length ≤ n5) (h : Above (flMem m5 n5 rule L) m') : finMem m m' = m := by
  obtain ⟨L1, rfl⟩ := h1
  obtain ⟨L2, rfl⟩ := h
  have hv : ((flMem { vars := m.vars ++ L1, toks := m.toks } n5 rule L).vars ++ L2).take m.vars.length = m.vars := by
    unfold flMem
    split
    · simp
    · simp only [List.set_append]
      rw [if_neg (by omega)]
      simp
  have ht : (flMem { vars := m.vars ++ L1, toks := m.toks } n5 rule L).toks.take m.toks.length = m.toks := by
    unfold flMem
    split
    · simp
    · simp
  unfold finMem
  simp only [hv, if_true, ht]
/-! ### the sum -/
def accS (R : Rc) : Nat → Int
  | 0 => 0
  | i + 1 => accS R i + (R.stepsOf (R.phases.getD i ph0)).1
def restP (p : Ph) : Bool := p.lenU == 3
def Rc.sumBad (R : Rc) : Bool := if firstBy restP R.phases 0 < 0 then accS R R.phases.length != R.steps else decide (accS R (firstBy restP R.phases 0).toNat ≥ R.steps)
def brk1 (R : Rc) : List Fl := flawIf (!decide (1 ≤ R.steps ∧ R.steps ≤ 1000000)) 1 0 0
def brk2 (R : Rc) : List Fl := flawIf (decide (R.epoch > 1000000) || ((R.epoch == 0) && R.epochs)) 2 0 0
def sumL (rule : Int) (R : Rc) : List Fl := if ((((brk1 R).length : Nat) : Int) == 0) && (((((brk2 R).length : Nat) : Int) == 0) && ((((lastsL 8 R).length : Nat) : Int) == 0)) then flawIf R.sumBad rule 0 0 else []
def brkL (R : Rc) (rule : Int) : List Fl :=
  if rule = 1 then flawIf (!decide (1 ≤ R.steps ∧ R.steps ≤ 1000000)) 1 0 0 else if rule = 2 then flawIf (decide (R.epoch > 1000000) || ((R.epoch == 0) && R.epochs)) 2 0 0 else if rule = 3 then flawIf (decide (R.weights > 16)) 3 0 0 else if rule = 4 then twinsL 4 R.metrics else if rule = 5 then twinsL 5 R.groups else if rule = 6 then flawIf (((R.phases.length : Int) == 0)) 6 0 0 else if rule = 7 then twinsL 7 (R.phases.map Ph.name) else if rule = 8 then lastsL 8 R else if rule = 9 then sumL 9 R else if rule = 10 then frozenL 10 R else if rule = 11 then setsFl 11 R else if rule = 12 then eachBL 12 R else if rule = 13 then eachHL 13 R else if rule = 14 then flawIf (R.endBad 14) 14 0 0 else if rule = 15 then flawIf (R.endBad 15) 15 0 0 else if rule = 16 then flawIf (R.endBad 16) 16 0 0 else if rule = 17 then flawIf (R.endBad 17) 17 0 0 else if rule = 18 then flawIf (R.endBad 18) 18 0 0 else if rule = 19 then flawIf (decide (R.eval > R.steps)) 19 0 0 else []
def Rc.kept (R : Rc) (rule : Int) : Bool := (((brkL R rule).length : Nat) : Int) == 0
def brk0G : List AV → Mem → Option (AV × Mem)
  | [.agg cs, .v (.int .i64 rule)], m =>
    match unRc cs with
    | some R => if R.small ∧ R.fit ∧ (rule = 1 ∨ rule = 2 ∨ rule = 8) then some (.lst .no 3 (rowsFl (brkL R rule)), m) else none
    | none => none
  | _, _ => none
theorem brk0G_at {m : Mem} {R : Rc} {rule : Int} (h : R.small) (h1 : R.fit) (h2 : rule = 1 ∨ rule = 2 ∨ rule = 8) : brk0G [.agg R.row, .v (.int .i64 rule)] m = some (.lst .no 3 (rowsFl (brkL R rule)), m) := by
  simp only [brk0G, unRc_row]
  rw [if_pos ⟨h, h1, h2⟩]
def kpBrk0 : Nat → Option (List Nat) := fun
  | 0 => some [1, 2]
  | 1 => some [1, 2, 5]
  | 2 => some [2, 5, 9]
  | 3 => some [5]
  | 4 => some [2, 5, 9, 13]
  | 5 => some [5]
  | 6 => some [2, 5, 9, 21]
  | 7 => some [5]
  | 8 => some [2, 5, 9, 37]
  | 9 => some [5]
  | 10 => some [2, 5, 9, 44]
  | 11 => some [5]
  | 12 => some [2, 5, 9, 50]
  | 13 => some [5]
  | 14 => some [2, 5, 9, 56]
  | 15 => some [5]
  | 16 => some [2, 5, 9, 64]
  | 17 => some [5]
  | 18 => some [2, 5, 9, 70]
  | 19 => some [5]
  | 20 => some [2, 5, 9, 75]
  | 21 => some [5]
  | 22 => some [2, 5, 9, 80]
  | 23 => some [5]
  | 24 => some [2, 5, 9, 85]
  | 25 => some [5]
  | 26 => some [2, 5, 9, 90]
  | 27 => some [5]
  | 28 => some [2, 5, 9, 95]
  | 29 => some [5]
  | 30 => some [2, 5, 100]
  | 31 => some [5]
  | 32 => some [4]
  | _ => none
attribute [go_sem] kpBrk0
def tab_brk0_ok : List (FuncId × (List AV → Mem → Option (AV × Mem))) := [(79, withinG), (78, noteG), (80, epochsG), (83, rlastsG)]
theorem brk0_ok : FunOk Tryz.prog 38 brk0G := by
  have hC := table_ok (P := Tryz.prog) (l := tab_brk0_ok) (table_more rwithin_ok (table_more note_ok (table_more epochs_ok (table_more rlasts_ok table_nil))))
  have t1 := fun args mm => table_at (l := tab_brk0_ok) (f := 79) (args := args) (m := mm) rfl
  have t2 := fun args mm => table_at (l := tab_brk0_ok) (f := 78) (args := args) (m := mm) rfl
  have t3 := fun args mm => table_at (l := tab_brk0_ok) (f := 80) (args := args) (m := mm) rfl
  have t4 := fun args mm => table_at (l := tab_brk0_ok) (f := 83) (args := args) (m := mm) rfl
  refine fun_ok mixed hC Tryz.func38 rfl kpBrk0 false rfl fun args m r h => ?_
  unfold brk0G at h
  split at h
  · rename_i cs rule
    split at h
    · rename_i R hR
      obtain rfl := unRc_some hR
      split at h
      · rename_i hyp
        obtain ⟨hsm, hfit, hrule⟩ := hyp
        simp only [Option.some.injEq] at h
        subst h
        refine ⟨Nat.le_of_ble_eq_true rfl, ?_⟩
        simp only [entry, List.length_cons, List.length_nil, List.range, List.range.loop, List.zip_cons_cons, List.zip_nil_right]
        have hv3 : (m.push R.row).var m.vars.length = some R.row := push_var
        have hn3 : m.vars.length < (m.push R.row).vars.length := by rw [push_len]; omega
        have hA1 := above_push (cs := R.row) (above_self m)
        have nr := newRc (m := m) (x := R)
        generalize hm1 : m.push R.row = m1 at hv3 hn3 hA1 nr
        have nl := newRl (m := m1) (rule := rule)
        have hv5 : (m1.push [.v (.int .i64 rule), .lst .full 3 []]).var m1.vars.length = some [.v (.int .i64 rule), .lst .full 3 []] := push_var
        have hw3 := push_old (cs' := [.v (.int .i64 rule), .lst .full 3 []]) hv3
        have hA2 := above_push (cs := [.v (.int .i64 rule), .lst .full 3 []]) hA1
        have hle : m.vars.length ≤ m1.vars.length := by omega
        generalize hn5 : m1.vars.length = n5 at nl hv5 hle
        generalize m1.push [.v (.int .i64 rule), .lst .full 3 []] = m5 at nl hv5 hw3 hA2
        have fin : ∀ (e : Env) (m' : Mem) (L : List Fl), Above (flMem m5 n5 rule L) m' → brkL R rule = L → Ev.get e 4 = flLst m5 L → Leaves Tryz.prog false Tryz.f38 m (.lst .no 3 (rowsFl (brkL R rule)), m) .ret e m' := fun e m' L hA hL hg => by
          obtain ⟨g, hgl⟩ := flLst_is m5 L
          rw [hL]
          exact leaves_lst rfl (hg.trans hgl) (fin_own hA2 hle hA)
        have hld : ∀ (m' : Mem) (L : List Fl), Above (flMem m5 n5 rule L) m' → evLoad Tryz.prog m' 40 (.ptr n5 1) = some (flLst m5 L) := fun m' L hA => lpRlList (above_var hA (flMem_var hv5))
        have l1 := vrRc hw3
        have l2 := lpRcSteps hw3
        have l3 := lpRcEpoch hw3
        have l4 := lpRcWeights hw3
        have l5 := lpRcMetrics hw3
        have l6 := lpRcGroups hw3
        have l7 := lpRcEval hw3
        have l8 := lpRcPhases hw3
        have f1 : ∀ x lo hi mm, withinG [.v (.int .i64 x), .v (.int .i64 lo), .v (.int .i64 hi)] mm = some (.v (.bool (decide (lo ≤ x ∧ x ≤ hi))), mm) := fun _ _ _ _ => rfl
        have f3 := fun mm => epochsG_at R mm hfit
        rcases hrule with rfl | rfl | rfl
        · have hL : brkL R 1 = flawIf (!decide (1 ≤ R.steps ∧ R.steps ≤ 1000000)) 1 0 0 := rfl
          obtain ⟨m2, n1, hA, n3⟩ := note_step hv5 (by rw [flMem_nil]; exact above_self m5) (by decide) (!decide (1 ≤ R.steps ∧ R.steps ≤ 1000000)) 0 0
          rw [flawIf_app, List.nil_append] at hA
          have k2 := hld _ _ hA
          repeat' (first | refine gos1 (jn @nr (jn @hn5 (jn @nl (jn @mkRl (jn @l1 (jn @l2 (jn @l3 (jn @l4 (jn @l5 (jn @l6 (jn @l7 (jn @l8 (jn @t1 (jn @f1 (jn @t2 (jn @n1 @k2)))))))))))))))) ?_ | (refine ops_here ?_; (fail_if_success (refine ops_case (B := true) rfl rfl rfl ?_ ?_)); (fail_if_success (refine ops_case (B := false) rfl rfl rfl ?_ ?_)); refine ops_case rfl rfl rfl (fun hB => ?_) (fun hB => ?_) <;> rw [hB]) | (refine runs_here ?_; refine runs_cond rfl (fun hc => ?_) (fun hc => ?_) <;> first | (cases hc; done) | skip))
          exact fin _ _ _ hA hL rfl
        · have hL : brkL R 2 = flawIf (decide (R.epoch > 1000000) || ((R.epoch == 0) && R.epochs)) 2 0 0 := rfl
          cases q1 : decide (R.epoch > 1000000) with
          | true =>
            obtain ⟨m2, n1, hA, n3⟩ := note_step hv5 (by rw [flMem_nil]; exact above_self m5) (by decide) true 0 0
            rw [flawIf_app, List.nil_append] at hA
            rw [q1] at hL
            have k2 := hld _ _ hA
            repeat' (first | refine gos1 (jn @nr (jn @hn5 (jn @nl (jn @mkRl (jn @l1 (jn @l2 (jn @l3 (jn @l4 (jn @l5 (jn @l6 (jn @l7 (jn @l8 (jn @q1 (jn @t2 (jn @n1 @k2))))))))))))))) ?_ | (refine ops_here ?_; (fail_if_success (refine ops_case (B := true) rfl rfl rfl ?_ ?_)); (fail_if_success (refine ops_case (B := false) rfl rfl rfl ?_ ?_)); refine ops_case rfl rfl rfl (fun hB => ?_) (fun hB => ?_) <;> rw [hB]) | (refine runs_here ?_; refine runs_cond rfl (fun hc => ?_) (fun hc => ?_) <;> first | (cases hc; done) | skip))
            exact fin _ _ _ hA hL rfl
          | false =>
            cases q2 : (R.epoch == 0) with
            | false =>
              obtain ⟨m2, n1, hA, n3⟩ := note_step hv5 (by rw [flMem_nil]; exact above_self m5) (by decide) false 0 0
              rw [flawIf_app, List.nil_append] at hA
              rw [q1, q2] at hL
              have k2 := hld _ _ hA
              repeat' (first | refine gos1 (jn @nr (jn @hn5 (jn @nl (jn @mkRl (jn @l1 (jn @l2 (jn @l3 (jn @l4 (jn @l5 (jn @l6 (jn @l7 (jn @l8 (jn @q1 (jn @q2 (jn @t2 (jn @n1 @k2)))))))))))))))) ?_ | (refine ops_here ?_; (fail_if_success (refine ops_case (B := true) rfl rfl rfl ?_ ?_)); (fail_if_success (refine ops_case (B := false) rfl rfl rfl ?_ ?_)); refine ops_case rfl rfl rfl (fun hB => ?_) (fun hB => ?_) <;> rw [hB]) | (refine runs_here ?_; refine runs_cond rfl (fun hc => ?_) (fun hc => ?_) <;> first | (cases hc; done) | skip))
              exact fin _ _ _ hA hL rfl
            | true =>
              obtain ⟨m2, n1, hA, n3⟩ := note_step hv5 (by rw [flMem_nil]; exact above_self m5) (by decide) R.epochs 0 0
              rw [flawIf_app, List.nil_append] at hA
              rw [q1, q2] at hL
              have k2 := hld _ _ hA
              repeat' (first | refine gos1 (jn @nr (jn @hn5 (jn @nl (jn @mkRl (jn @l1 (jn @l2 (jn @l3 (jn @l4 (jn @l5 (jn @l6 (jn @l7 (jn @l8 (jn @q1 (jn @q2 (jn @t2 (jn @t3 (jn @f3 (jn @n1 @k2)))))))))))))))))) ?_ | (refine ops_here ?_; (fail_if_success (refine ops_case (B := true) rfl rfl rfl ?_ ?_)); (fail_if_success (refine ops_case (B := false) rfl rfl rfl ?_ ?_)); refine ops_case rfl rfl rfl (fun hB => ?_) (fun hB => ?_) <;> rw [hB]) | (refine runs_here ?_; refine runs_cond rfl (fun hc => ?_) (fun hc => ?_) <;> first | (cases hc; done) | skip))
              exact fin _ _ _ hA hL rfl
        · have hL : brkL R 8 = lastsL 8 R := rfl
          have c := rlastsG_at hv5 hsm
          have hA := above_self (flMem m5 n5 8 (lastsL 8 R))
          have k2 := hld _ _ hA
          repeat' (first | refine gos1 (jn @nr (jn @hn5 (jn @nl (jn @mkRl (jn @l1 (jn @l2 (jn @l3 (jn @l4 (jn @l5 (jn @l6 (jn @l7 (jn @l8 (jn @t4 (jn @c @k2)))))))))))))) ?_ | (refine ops_here ?_; (fail_if_success (refine ops_case (B := true) rfl rfl rfl ?_ ?_)); (fail_if_success (refine ops_case (B := false) rfl rfl rfl ?_ ?_)); refine ops_case rfl rfl rfl (fun hB => ?_) (fun hB => ?_) <;> rw [hB]) | (refine runs_here ?_; refine runs_cond rfl (fun hc => ?_) (fun hc => ?_) <;> first | (cases hc; done) | skip))
          exact fin _ _ _ hA hL rfl
      · cases h
    · cases h
  · cases h
def kept0G : List AV → Mem → Option (AV × Mem)
  | [.agg cs, .v (.int .i64 rule)], m =>
    match unRc cs with
    | some R => if R.small ∧ R.fit ∧ (rule = 1 ∨ rule = 2 ∨ rule = 8) then some (.v (.bool (R.kept rule)), m) else none
    | none => none
  | _, _ => none
theorem kept0G_at {m : Mem} {R : Rc} {rule : Int} (h : R.small) (h1 : R.fit) (h2 : rule = 1 ∨ rule = 2 ∨ rule = 8) : kept0G [.agg R.row, .v (.int .i64 rule)] m = some (.v (.bool (R.kept rule)), m) := by
  simp only [kept0G, unRc_row]
  rw [if_pos ⟨h, h1, h2⟩]
def kpKept0 : Nat → Option (List Nat) := fun
  | 0 => some [1, 2]
  | 1 => some [4]
  | _ => none
attribute [go_sem] kpKept0
def tab_kept0_ok : List (FuncId × (List AV → Mem → Option (AV × Mem))) := [(38, brk0G)]
theorem kept0_ok : FunOk Tryz.prog 131 kept0G := by
  have hC := table_ok (P := Tryz.prog) (l := tab_kept0_ok) (table_more brk0_ok table_nil)
  have t1 := fun args mm => table_at (l := tab_kept0_ok) (f := 38) (args := args) (m := mm) rfl
  refine fun_ok mixed hC Tryz.func131 rfl kpKept0 false rfl fun args m r h => ?_
  unfold kept0G at h
  split at h
  · rename_i cs rule
    split at h
    · rename_i R hR
      obtain rfl := unRc_some hR
      split at h
      · rename_i hyp
        obtain ⟨hsm, hfit, hrule⟩ := hyp
        simp only [Option.some.injEq] at h
        subst h
        refine ⟨Nat.le_of_ble_eq_true rfl, ?_⟩
        simp only [entry, List.length_cons, List.length_nil, List.range, List.range.loop, List.zip_cons_cons, List.zip_nil_right]
        have l1 := vrRc (x := R) (push_var (m := m))
        have f1 := fun mm => brk0G_at (m := mm) hsm hfit hrule
        refine go1 (jn @l1 (jn @t1 @f1)) ?_
        exact leaves_fin rfl rfl fin_push
      · cases h
    · cases h
  · cases h
end Go.Proofs.YtojaokhkbmiidaaGreat.Ev

namespace Go.Proofs.YtojaokhkbmiidaaGreat.Ev
open Go Go.Proofs
set_option maxRecDepth 10000
set_option maxHeartbeats 8000000
set_option linter.unusedVariables false
set_option linter.unusedSimpArgs false
attribute [local irreducible] Next Inside Runs Ops table
attribute [local go_sem] szStr szInt Option.getD_some isNil evStr iv loadStr loadInt rowsS_len rowsN_len rowsGs_len rowsPh_len rowsFl_len mapGs mapPh mapRc ldNode ldGs ldPh cellsGs cellsPh cellsRc cellsRl newGs newPh newRc zrPh zoPh znPh zsPh fpPhLen fpPhLenU fpRcSteps fpRcEpoch fpRcWeights fpRcMetrics fpRcGroups fpRcEval fpRcPhases fpRlList
theorem stepsP_in {u n of ep : Int} : 0 ≤ (stepsP u n of ep).1 ∧ (stepsP u n of ep).1 ≤ 1099511627776 := by
  unfold stepsP
  split
  · rename_i h
    have := lenV_in h.1 h.2.1 h.2.2
    split
    · simp
    · simp only
      omega
  · simp
theorem accS_in (R : Rc) : ∀ i : Nat, 0 ≤ accS R i ∧ accS R i ≤ (i : Int) * 1099511627776
  | 0 => by simp [accS]
  | i + 1 => by
    have h1 := accS_in R i
    have h2 := stepsP_in (u := (R.phases.getD i ph0).lenU) (n := (R.phases.getD i ph0).lenN) (of := R.steps) (ep := R.epoch)
    have e : accS R (i + 1) = accS R i + (R.stepsOf (R.phases.getD i ph0)).1 := rfl
    rw [show stepsP (R.phases.getD i ph0).lenU (R.phases.getD i ph0).lenN R.steps R.epoch = R.stepsOf (R.phases.getD i ph0) from rfl] at h2
    rw [e]
    omega
theorem leaves_out {P : Program} {fn : Func} {m m' m2 : Mem} {e : Env} (h : fn.results = #[]) (hm : finMem m m' = m2) : Leaves P false fn m (.tup [], m2) .ret e m' := by
  show evRet P false fn m e m' = _
  unfold evRet
  rw [h]
  simp [hm]
def sumG : List AV → Mem → Option (AV × Mem)
  | [.ptr r 0, .agg cs], m =>
    match unRc cs, m.var r with
    | some R, some [.v (.int .i64 rule), .lst .full 3 []] => if R.small ∧ R.fit then some (.tup [], flMem m r rule (sumL rule R)) else none
    | _, _ => none
  | _, _ => none
theorem sumG_at {m : Mem} {r : Nat} {rule : Int} {R : Rc} (hv : m.var r = some [.v (.int .i64 rule), .lst .full 3 []]) (h : R.small) (h1 : R.fit) : sumG [.ptr r 0, .agg R.row] m = some (.tup [], flMem m r rule (sumL rule R)) := by
  simp only [sumG, unRc_row, hv]
  rw [if_pos ⟨h, h1⟩]
def kpRSum : Nat → Option (List Nat) := fun
  | 0 => some [0, 3]
  | 1 => some [0, 3, 22]
  | 2 => some [0, 3, 4, 5]
  | 3 => some [0, 3, 4, 5, 24, 25, 26]
  | 4 => some [0, 3, 4, 5, 24, 25, 26, 27]
  | 5 => some [0, 3, 4, 7, 24, 25, 26]
  | 6 => some [0, 3, 4, 5, 7, 24, 25, 26]
  | 7 => some [0, 3, 4, 5, 7, 24, 25, 26, 34]
  | 8 => some [0, 3, 4, 5, 8, 24, 25, 26]
  | 9 => some [0, 3, 4, 5, 24, 25, 26]
  | 10 => some [0, 3, 4, 5, 24, 25, 26]
  | 11 => some []
  | _ => none
attribute [go_sem] kpRSum
def tab_sum_ok : List (FuncId × (List AV → Mem → Option (AV × Mem))) := [(131, kept0G), (48, stepsLG), (78, noteG)]
theorem sum_ok : FunOk Tryz.prog 84 sumG := by
  have hC := table_ok (P := Tryz.prog) (l := tab_sum_ok) (table_more kept0_ok (table_more stepsL_ok (table_more note_ok table_nil)))
  have t1 := fun args mm => table_at (l := tab_sum_ok) (f := 131) (args := args) (m := mm) rfl
  have t2 := fun args mm => table_at (l := tab_sum_ok) (f := 48) (args := args) (m := mm) rfl
  have t3 := fun args mm => table_at (l := tab_sum_ok) (f := 78) (args := args) (m := mm) rfl
  refine fun_ok mixed hC Tryz.func84 rfl kpRSum false rfl fun args m r h => ?_
  unfold sumG at h
  split at h
  · rename_i r0 cs
    split at h
    · rename_i R rule hR hv
      obtain rfl := unRc_some hR
      split at h
      · rename_i hyp
        obtain ⟨hsm, hfit⟩ := hyp
        simp only [Option.some.injEq] at h
        subst h
        have hr0 := (var_lt hv).1
        have hP64 := hsm.2.2.1
        refine ⟨Nat.le_of_ble_eq_true rfl, ?_⟩
        simp only [entry, List.length_cons, List.length_nil, List.range, List.range.loop, List.zip_cons_cons, List.zip_nil_right]
        have hA0 : Above (flMem m r0 rule []) (m.push R.row) := by rw [flMem_nil]; exact above_push (above_self m)
        have hv3 : (m.push R.row).var m.vars.length = some R.row := push_var
        have l0 := vrRc hv3
        have l1 := lpRcPhases hv3
        have c1 := fun mm => kept0G_at (m := mm) (rule := 1) hsm hfit (.inl rfl)
        have c2 := fun mm => kept0G_at (m := mm) (rule := 2) hsm hfit (.inr (.inl rfl))
        have c8 := fun mm => kept0G_at (m := mm) (rule := 8) hsm hfit (.inr (.inr rfl))
        have eS : sumL rule R = if R.kept 1 && (R.kept 2 && R.kept 8) then flawIf R.sumBad rule 0 0 else [] := rfl
        have w1 : (!true) = false := rfl
        have w2 : (!false) = true := rfl
        rw [eS]
        have out : ∀ e : Env, Leaves Tryz.prog false Tryz.f84 m (.tup [], flMem m r0 rule []) .ret e (m.push R.row) := fun e => by
          rw [flMem_nil]
          exact leaves_out rfl fin_push
        cases q1 : R.kept 1 with
        | false =>
          rw [q1] at c1
          repeat' (first | refine gos1 (jn @l0 (jn @t1 (jn @c1 @w2))) ?_ | (refine ops_here ?_; (fail_if_success (refine ops_case (B := true) rfl rfl rfl ?_ ?_)); (fail_if_success (refine ops_case (B := false) rfl rfl rfl ?_ ?_)); refine ops_case rfl rfl rfl (fun hB => ?_) (fun hB => ?_) <;> rw [hB]) | (refine runs_here ?_; refine runs_cond rfl (fun hc => ?_) (fun hc => ?_) <;> first | (cases hc; done) | skip))
          exact out _
        | true =>
          rw [q1] at c1
          cases q2 : R.kept 2 with
          | false =>
            rw [q2] at c2
            repeat' (first | refine gos1 (jn @l0 (jn @t1 (jn @c1 (jn @c2 (jn @w1 @w2))))) ?_ | (refine ops_here ?_; (fail_if_success (refine ops_case (B := true) rfl rfl rfl ?_ ?_)); (fail_if_success (refine ops_case (B := false) rfl rfl rfl ?_ ?_)); refine ops_case rfl rfl rfl (fun hB => ?_) (fun hB => ?_) <;> rw [hB]) | (refine runs_here ?_; refine runs_cond rfl (fun hc => ?_) (fun hc => ?_) <;> first | (cases hc; done) | skip))
            exact out _
          | true =>
            rw [q2] at c2
            cases q8 : R.kept 8 with
            | false =>
              rw [q8] at c8
              repeat' (first | refine gos1 (jn @l0 (jn @t1 (jn @c1 (jn @c2 (jn @c8 (jn @w1 @w2)))))) ?_ | (refine ops_here ?_; (fail_if_success (refine ops_case (B := true) rfl rfl rfl ?_ ?_)); (fail_if_success (refine ops_case (B := false) rfl rfl rfl ?_ ?_)); refine ops_case rfl rfl rfl (fun hB => ?_) (fun hB => ?_) <;> rw [hB]) | (refine runs_here ?_; refine runs_cond rfl (fun hc => ?_) (fun hc => ?_) <;> first | (cases hc; done) | skip))
              exact out _
            | true =>
              rw [q8] at c8
              rw [if_pos (show (true && (true && true)) = true from rfl)]
              refine go1 (jn @l0 (jn @t1 (jn @c1 (jn @c2 (jn @c8 (jn @w1 @w2)))))) ?_
              refine runs_cond rfl (fun hc => by cases hc) (fun hc => ?_)
              refine go1 @l1 ?_
              have fin : ∀ (e : Env) (m2 : Mem) (b : Bool), Above (flMem m r0 rule (if b then [] ++ [⟨rule, 0, 0⟩] else [])) m2 → R.sumBad = b → Leaves Tryz.prog false Tryz.f84 m (.tup [], flMem m r0 rule (flawIf R.sumBad rule 0 0)) .normal e m2 := fun e m2 b hA2 hb => by
                rw [flawIf_app, ← hb, List.nil_append] at hA2
                exact leaves_none rfl (fin_flMem hv hA2)
              refine runs_loop (fun k e m' => ∃ (i : Nat), i ≤ R.phases.length ∧ Above (flMem m r0 rule []) m' ∧ m'.var m.vars.length = some R.row ∧ firstBy restP (R.phases.drop i) i = firstBy restP R.phases 0 ∧ k = R.phases.length - i ∧
                e = [(0, AV.ptr r0 0), (3, .ptr m.vars.length 0), (4, .v (.int .i64 (accS R i))), (5, .v (.bool false)), (24, .lst .no 5 (rowsPh R.phases)), (25, .v (.int .i64 (R.phases.length : Int))), (26, .v (.int .i64 (i : Int)))]) (k := R.phases.length)
                ⟨0, Nat.zero_le _, hA0, hv3, rfl, rfl, rfl⟩ ?_
              rintro k e m' ⟨i, hi0, hA, hw3, hf, rfl, rfl⟩
              refine go0 ?_
              refine runs_cond rfl (fun hc => ?_) (fun hc => ?_)
              · have hi1 : i < R.phases.length := by have := of_decide_eq_true hc; omega
                have f2 := atPh (g := .no) (kk := .i64) hi1
                have eA : accS R (i + 1) = accS R i + (R.stepsOf (R.phases.getD i ph0)).1 := rfl
                have hin := accS_in R (i + 1)
                have hyes := fun hp => by_yes (d := ph0) hi1 hp hf
                have hno := fun hp => by_no (d := ph0) hi1 hp hf
                generalize R.phases.getD i ph0 = p at f2 eA hyes hno
                have hA1 := above_push (cs := p.row) hA
                have hp5 : (m'.push p.row).var m'.vars.length = some p.row := push_var
                have hw5 := push_old (cs' := p.row) hw3
                have y1 := lpPhLenU hp5
                have y2 := lpPhLen hp5
                have y4 := lpRcSteps hw5
                have y5 := lpRcEpoch hw5
                have r6 := next_i64 (i := i) (by omega)
                cases h3 : (p.lenU == 3) with
                | true =>
                  have hx := hyes h3
                  obtain ⟨m2, n1, n2, n3⟩ := note_step hv hA1 (by decide) (decide (accS R i ≥ R.steps)) 0 0
                  have hb : R.sumBad = decide (accS R i ≥ R.steps) := by
                    unfold Rc.sumBad
                    rw [hx, if_neg (by omega), Int.toNat_natCast]
                  refine go1 (jn @f2 (jn @y1 @h3)) ?_
                  refine runs_cond rfl (fun hc => ?_) (fun hc => by cases hc)
                  cases hd : decide (accS R i ≥ R.steps) with
                  | true =>
                    rw [hd] at n1 n2 hb
                    repeat' (first | refine gos1 (jn @y4 (jn @hd (jn @t3 (jn @n1 (jn @w1 @w2))))) ?_ | (refine ops_here ?_; (fail_if_success (refine ops_case (B := true) rfl rfl rfl ?_ ?_)); (fail_if_success (refine ops_case (B := false) rfl rfl rfl ?_ ?_)); refine ops_case rfl rfl rfl (fun hB => ?_) (fun hB => ?_) <;> rw [hB]) | (refine runs_here ?_; refine runs_cond rfl (fun hc => ?_) (fun hc => ?_) <;> first | (cases hc; done) | skip))
                    exact fin _ _ _ n2 hb
                  | false =>
                    rw [hd] at n1 n2 hb
                    repeat' (first | refine gos1 (jn @y4 (jn @hd (jn @t3 (jn @n1 (jn @w1 @w2))))) ?_ | (refine ops_here ?_; (fail_if_success (refine ops_case (B := true) rfl rfl rfl ?_ ?_)); (fail_if_success (refine ops_case (B := false) rfl rfl rfl ?_ ?_)); refine ops_case rfl rfl rfl (fun hB => ?_) (fun hB => ?_) <;> rw [hB]) | (refine runs_here ?_; refine runs_cond rfl (fun hc => ?_) (fun hc => ?_) <;> first | (cases hc; done) | skip))
                    exact fin _ _ _ n2 hb
                | false =>
                  have hx := hno h3
                  have f3 := fun mm => stepsLG_eq (u := p.lenU) (n := p.lenN) (of := R.steps) (ep := R.epoch) (m := mm)
                  rw [show stepsP p.lenU p.lenN R.steps R.epoch = R.stepsOf p from rfl] at f3
                  rw [eA] at hin
                  have r1 : IntKind.i64.wrap (accS R i + (R.stepsOf p).1) = accS R i + (R.stepsOf p).1 := i64_wrap (by omega) (by omega)
                  rw [← eA] at r1
                  refine go1 (jn @f2 (jn @y1 @h3)) ?_
                  refine runs_cond rfl (fun hc => by cases hc) (fun hc => ?_)
                  refine go1 (jn @y2 (jn @y4 (jn @y5 (jn @t2 (jn @f3 @r6))))) ?_
                  rw [← eA, r1]
                  exact ⟨R.phases.length - (i + 1), by omega, i + 1, hi1, hA1, hw5, hx, rfl, rfl⟩
              · have hi1 : i = R.phases.length := by have := of_decide_eq_false hc; omega
                subst hi1
                have hx := by_end hf
                have y4 := lpRcSteps hw3
                obtain ⟨m2, n1, n2, n3⟩ := note_step hv hA (by decide) (accS R R.phases.length != R.steps) 0 0
                have hb : R.sumBad = (accS R R.phases.length != R.steps) := by
                  unfold Rc.sumBad
                  rw [hx, if_pos (by decide)]
                repeat' (first | refine gos1 (jn @y4 (jn @t3 (jn @n1 (jn @w1 @w2)))) ?_ | (refine ops_here ?_; (fail_if_success (refine ops_case (B := true) rfl rfl rfl ?_ ?_)); (fail_if_success (refine ops_case (B := false) rfl rfl rfl ?_ ?_)); refine ops_case rfl rfl rfl (fun hB => ?_) (fun hB => ?_) <;> rw [hB]) | (refine runs_here ?_; refine runs_cond rfl (fun hc => ?_) (fun hc => ?_) <;> first | (cases hc; done) | skip))
                exact fin _ _ _ n2 hb
      · cases h
    · cases h
  · cases h
/-! ### all -/
def brokenG : List AV → Mem → Option (AV × Mem)
  | [.agg cs, .v (.int .i64 rule)], m =>
    match unRc cs with
    | some R => if R.small ∧ R.fit ∧ (rule = 1 ∨ rule = 2 ∨ rule = 3 ∨ rule = 4 ∨ rule = 5 ∨ rule = 6 ∨ rule = 7 ∨ rule = 8 ∨ rule = 9 ∨ rule = 10 ∨ rule = 11 ∨ rule = 12 ∨ rule = 13 ∨ rule = 14 ∨ rule = 15 ∨ rule = 16 ∨ rule = 17 ∨ rule = 18 ∨ rule = 19) then some (.lst .no 3 (rowsFl (brkL R rule)), m) else none
    | none => none
  | _, _ => none
theorem brokenG_at {m : Mem} {R : Rc} {rule : Int} (h : R.small) (h1 : R.fit) (h2 : rule = 1 ∨ rule = 2 ∨ rule = 3 ∨ rule = 4 ∨ rule = 5 ∨ rule = 6 ∨ rule = 7 ∨ rule = 8 ∨ rule = 9 ∨ rule = 10 ∨ rule = 11 ∨ rule = 12 ∨ rule = 13 ∨ rule = 14 ∨ rule = 15 ∨ rule = 16 ∨ rule = 17 ∨ rule = 18 ∨ rule = 19) : brokenG [.agg R.row, .v (.int .i64 rule)] m = some (.lst .no 3 (rowsFl (brkL R rule)), m) := by
  simp only [brokenG, unRc_row]
  rw [if_pos ⟨h, h1, h2⟩]
def kpBroken : Nat → Option (List Nat) := fun
  | 0 => some [1, 2]
  | 1 => some [1, 2, 5]
  | 2 => some [2, 5, 9]
  | 3 => some [5]
  | 4 => some [2, 5, 9, 13]
  | 5 => some [5]
  | 6 => some [2, 5, 9, 21]
  | 7 => some [5]
  | 8 => some [2, 5, 9, 37]
  | 9 => some [5]
  | 10 => some [2, 5, 9, 44]
  | 11 => some [5]
  | 12 => some [2, 5, 9, 50]
  | 13 => some [5]
  | 14 => some [2, 5, 9, 56]
  | 15 => some [5]
  | 16 => some [2, 5, 9, 64]
  | 17 => some [5]
  | 18 => some [2, 5, 9, 70]
  | 19 => some [5]
  | 20 => some [2, 5, 9, 75]
  | 21 => some [5]
  | 22 => some [2, 5, 9, 80]
  | 23 => some [5]
  | 24 => some [2, 5, 9, 85]
  | 25 => some [5]
  | 26 => some [2, 5, 9, 90]
  | 27 => some [5]
  | 28 => some [2, 5, 9, 95]
  | 29 => some [5]
  | 30 => some [2, 5, 100]
  | 31 => some [5]
  | 32 => some [4]
  | _ => none
attribute [go_sem] kpBroken
def tab_broken_ok : List (FuncId × (List AV → Mem → Option (AV × Mem))) := [(79, withinG), (78, noteG), (80, epochsG), (83, rlastsG), (81, twinsG), (82, namesG), (84, sumG), (85, frozenG), (86, setsG), (87, eachG), (92, endsFG)]
theorem broken_ok : FunOk Tryz.prog 38 brokenG := by
  have hC := table_ok (P := Tryz.prog) (l := tab_broken_ok) (table_more rwithin_ok (table_more note_ok (table_more epochs_ok (table_more rlasts_ok (table_more twins_ok (table_more names_ok (table_more sum_ok (table_more frozen_ok (table_more sets_ok (table_more each_ok (table_more endsF_ok table_nil)))))))))))
  have t1 := fun args mm => table_at (l := tab_broken_ok) (f := 79) (args := args) (m := mm) rfl
  have t2 := fun args mm => table_at (l := tab_broken_ok) (f := 78) (args := args) (m := mm) rfl
  have t3 := fun args mm => table_at (l := tab_broken_ok) (f := 80) (args := args) (m := mm) rfl
  have t4 := fun args mm => table_at (l := tab_broken_ok) (f := 83) (args := args) (m := mm) rfl
  have t5 := fun args mm => table_at (l := tab_broken_ok) (f := 81) (args := args) (m := mm) rfl
  have t6 := fun args mm => table_at (l := tab_broken_ok) (f := 82) (args := args) (m := mm) rfl
  have t7 := fun args mm => table_at (l := tab_broken_ok) (f := 84) (args := args) (m := mm) rfl
  have t8 := fun args mm => table_at (l := tab_broken_ok) (f := 85) (args := args) (m := mm) rfl
  have t9 := fun args mm => table_at (l := tab_broken_ok) (f := 86) (args := args) (m := mm) rfl
  have t10 := fun args mm => table_at (l := tab_broken_ok) (f := 87) (args := args) (m := mm) rfl
  have t11 := fun args mm => table_at (l := tab_broken_ok) (f := 92) (args := args) (m := mm) rfl
  refine fun_ok mixed hC Tryz.func38 rfl kpBroken false rfl fun args m r h => ?_
  unfold brokenG at h
  split at h
  · rename_i cs rule
    split at h
    · rename_i R hR
      obtain rfl := unRc_some hR
      split at h
      · rename_i hyp
        obtain ⟨hsm, hfit, hrule⟩ := hyp
        simp only [Option.some.injEq] at h
        subst h
        refine ⟨Nat.le_of_ble_eq_true rfl, ?_⟩
        simp only [entry, List.length_cons, List.length_nil, List.range, List.range.loop, List.zip_cons_cons, List.zip_nil_right]
        have hv3 : (m.push R.row).var m.vars.length = some R.row := push_var
        have hn3 : m.vars.length < (m.push R.row).vars.length := by rw [push_len]; omega
        have hA1 := above_push (cs := R.row) (above_self m)
        have nr := newRc (m := m) (x := R)
        generalize hm1 : m.push R.row = m1 at hv3 hn3 hA1 nr
        have nl := newRl (m := m1) (rule := rule)
        have hv5 : (m1.push [.v (.int .i64 rule), .lst .full 3 []]).var m1.vars.length = some [.v (.int .i64 rule), .lst .full 3 []] := push_var
        have hw3 := push_old (cs' := [.v (.int .i64 rule), .lst .full 3 []]) hv3
        have hA2 := above_push (cs := [.v (.int .i64 rule), .lst .full 3 []]) hA1
        have hle : m.vars.length ≤ m1.vars.length := by omega
        generalize hn5 : m1.vars.length = n5 at nl hv5 hle
        generalize m1.push [.v (.int .i64 rule), .lst .full 3 []] = m5 at nl hv5 hw3 hA2
        have fin : ∀ (e : Env) (m' : Mem) (L : List Fl), Above (flMem m5 n5 rule L) m' → brkL R rule = L → Ev.get e 4 = flLst m5 L → Leaves Tryz.prog false Tryz.f38 m (.lst .no 3 (rowsFl (brkL R rule)), m) .ret e m' := fun e m' L hA hL hg => by
          obtain ⟨g, hgl⟩ := flLst_is m5 L
          rw [hL]
          exact leaves_lst rfl (hg.trans hgl) (fin_own hA2 hle hA)
        have hld : ∀ (m' : Mem) (L : List Fl), Above (flMem m5 n5 rule L) m' → evLoad Tryz.prog m' 40 (.ptr n5 1) = some (flLst m5 L) := fun m' L hA => lpRlList (above_var hA (flMem_var hv5))
        have l1 := vrRc hw3
        have l2 := lpRcSteps hw3
        have l3 := lpRcEpoch hw3
        have l4 := lpRcWeights hw3
        have l5 := lpRcMetrics hw3
        have l6 := lpRcGroups hw3
        have l7 := lpRcEval hw3
        have l8 := lpRcPhases hw3
        have f1 : ∀ x lo hi mm, withinG [.v (.int .i64 x), .v (.int .i64 lo), .v (.int .i64 hi)] mm = some (.v (.bool (decide (lo ≤ x ∧ x ≤ hi))), mm) := fun _ _ _ _ => rfl
        have f3 := fun mm => epochsG_at R mm hfit
        have f6 := fun mm => namesG_at R mm hsm
        rcases hrule with rfl | rfl | rfl | rfl | rfl | rfl | rfl | rfl | rfl | rfl | rfl | rfl | rfl | rfl | rfl | rfl | rfl | rfl | rfl
        · have hL : brkL R 1 = flawIf (!decide (1 ≤ R.steps ∧ R.steps ≤ 1000000)) 1 0 0 := rfl
          obtain ⟨m2, n1, hA, n3⟩ := note_step hv5 (by rw [flMem_nil]; exact above_self m5) (by decide) (!decide (1 ≤ R.steps ∧ R.steps ≤ 1000000)) 0 0
          rw [flawIf_app, List.nil_append] at hA
          have k2 := hld _ _ hA
          repeat' (first | refine gos1 (jn @nr (jn @hn5 (jn @nl (jn @mkRl (jn @l1 (jn @l2 (jn @l3 (jn @l4 (jn @l5 (jn @l6 (jn @l7 (jn @l8 (jn @t1 (jn @f1 (jn @t2 (jn @n1 @k2)))))))))))))))) ?_ | (refine ops_here ?_; (fail_if_success (refine ops_case (B := true) rfl rfl rfl ?_ ?_)); (fail_if_success (refine ops_case (B := false) rfl rfl rfl ?_ ?_)); refine ops_case rfl rfl rfl (fun hB => ?_) (fun hB => ?_) <;> rw [hB]) | (refine runs_here ?_; refine runs_cond rfl (fun hc => ?_) (fun hc => ?_) <;> first | (cases hc; done) | skip))
          exact fin _ _ _ hA hL rfl
        · have hL : brkL R 2 = flawIf (decide (R.epoch > 1000000) || ((R.epoch == 0) && R.epochs)) 2 0 0 := rfl
          cases q1 : decide (R.epoch > 1000000) with
          | true =>
            obtain ⟨m2, n1, hA, n3⟩ := note_step hv5 (by rw [flMem_nil]; exact above_self m5) (by decide) true 0 0
            rw [flawIf_app, List.nil_append] at hA
            rw [q1] at hL
            have k2 := hld _ _ hA
            repeat' (first | refine gos1 (jn @nr (jn @hn5 (jn @nl (jn @mkRl (jn @l1 (jn @l2 (jn @l3 (jn @l4 (jn @l5 (jn @l6 (jn @l7 (jn @l8 (jn @q1 (jn @t2 (jn @n1 @k2))))))))))))))) ?_ | (refine ops_here ?_; (fail_if_success (refine ops_case (B := true) rfl rfl rfl ?_ ?_)); (fail_if_success (refine ops_case (B := false) rfl rfl rfl ?_ ?_)); refine ops_case rfl rfl rfl (fun hB => ?_) (fun hB => ?_) <;> rw [hB]) | (refine runs_here ?_; refine runs_cond rfl (fun hc => ?_) (fun hc => ?_) <;> first | (cases hc; done) | skip))
            exact fin _ _ _ hA hL rfl
          | false =>
            cases q2 : (R.epoch == 0) with
            | false =>
              obtain ⟨m2, n1, hA, n3⟩ := note_step hv5 (by rw [flMem_nil]; exact above_self m5) (by decide) false 0 0
              rw [flawIf_app, List.nil_append] at hA
              rw [q1, q2] at hL
              have k2 := hld _ _ hA
              repeat' (first | refine gos1 (jn @nr (jn @hn5 (jn @nl (jn @mkRl (jn @l1 (jn @l2 (jn @l3 (jn @l4 (jn @l5 (jn @l6 (jn @l7 (jn @l8 (jn @q1 (jn @q2 (jn @t2 (jn @n1 @k2)))))))))))))))) ?_ | (refine ops_here ?_; (fail_if_success (refine ops_case (B := true) rfl rfl rfl ?_ ?_)); (fail_if_success (refine ops_case (B := false) rfl rfl rfl ?_ ?_)); refine ops_case rfl rfl rfl (fun hB => ?_) (fun hB => ?_) <;> rw [hB]) | (refine runs_here ?_; refine runs_cond rfl (fun hc => ?_) (fun hc => ?_) <;> first | (cases hc; done) | skip))
              exact fin _ _ _ hA hL rfl
            | true =>
              obtain ⟨m2, n1, hA, n3⟩ := note_step hv5 (by rw [flMem_nil]; exact above_self m5) (by decide) R.epochs 0 0
              rw [flawIf_app, List.nil_append] at hA
              rw [q1, q2] at hL
              have k2 := hld _ _ hA
              repeat' (first | refine gos1 (jn @nr (jn @hn5 (jn @nl (jn @mkRl (jn @l1 (jn @l2 (jn @l3 (jn @l4 (jn @l5 (jn @l6 (jn @l7 (jn @l8 (jn @q1 (jn @q2 (jn @t2 (jn @t3 (jn @f3 (jn @n1 @k2)))))))))))))))))) ?_ | (refine ops_here ?_; (fail_if_success (refine ops_case (B := true) rfl rfl rfl ?_ ?_)); (fail_if_success (refine ops_case (B := false) rfl rfl rfl ?_ ?_)); refine ops_case rfl rfl rfl (fun hB => ?_) (fun hB => ?_) <;> rw [hB]) | (refine runs_here ?_; refine runs_cond rfl (fun hc => ?_) (fun hc => ?_) <;> first | (cases hc; done) | skip))
              exact fin _ _ _ hA hL rfl
        · have hL : brkL R 3 = flawIf (decide (R.weights > 16)) 3 0 0 := rfl
          obtain ⟨m2, n1, hA, n3⟩ := note_step hv5 (by rw [flMem_nil]; exact above_self m5) (by decide) (decide (R.weights > 16)) 0 0
          rw [flawIf_app, List.nil_append] at hA
          have k2 := hld _ _ hA
          repeat' (first | refine gos1 (jn @nr (jn @hn5 (jn @nl (jn @mkRl (jn @l1 (jn @l2 (jn @l3 (jn @l4 (jn @l5 (jn @l6 (jn @l7 (jn @l8 (jn @t1 (jn @f1 (jn @t2 (jn @n1 @k2)))))))))))))))) ?_ | (refine ops_here ?_; (fail_if_success (refine ops_case (B := true) rfl rfl rfl ?_ ?_)); (fail_if_success (refine ops_case (B := false) rfl rfl rfl ?_ ?_)); refine ops_case rfl rfl rfl (fun hB => ?_) (fun hB => ?_) <;> rw [hB]) | (refine runs_here ?_; refine runs_cond rfl (fun hc => ?_) (fun hc => ?_) <;> first | (cases hc; done) | skip))
          exact fin _ _ _ hA hL rfl
        · have hL : brkL R 4 = twinsL 4 R.metrics := rfl
          have c := twinsG_at (g := .no) hv5 (show R.metrics.length ≤ 64 from hsm.1)
          have hA := above_self (flMem m5 n5 4 (twinsL 4 R.metrics))
          have k2 := hld _ _ hA
          repeat' (first | refine gos1 (jn @nr (jn @hn5 (jn @nl (jn @mkRl (jn @l1 (jn @l2 (jn @l3 (jn @l4 (jn @l5 (jn @l6 (jn @l7 (jn @l8 (jn @t5 (jn @c @k2)))))))))))))) ?_ | (refine ops_here ?_; (fail_if_success (refine ops_case (B := true) rfl rfl rfl ?_ ?_)); (fail_if_success (refine ops_case (B := false) rfl rfl rfl ?_ ?_)); refine ops_case rfl rfl rfl (fun hB => ?_) (fun hB => ?_) <;> rw [hB]) | (refine runs_here ?_; refine runs_cond rfl (fun hc => ?_) (fun hc => ?_) <;> first | (cases hc; done) | skip))
          exact fin _ _ _ hA hL rfl
        · have hL : brkL R 5 = twinsL 5 R.groups := rfl
          have c := twinsG_at (g := .no) hv5 (show R.groups.length ≤ 64 from hsm.2.1)
          have hA := above_self (flMem m5 n5 5 (twinsL 5 R.groups))
          have k2 := hld _ _ hA
          repeat' (first | refine gos1 (jn @nr (jn @hn5 (jn @nl (jn @mkRl (jn @l1 (jn @l2 (jn @l3 (jn @l4 (jn @l5 (jn @l6 (jn @l7 (jn @l8 (jn @t5 (jn @c @k2)))))))))))))) ?_ | (refine ops_here ?_; (fail_if_success (refine ops_case (B := true) rfl rfl rfl ?_ ?_)); (fail_if_success (refine ops_case (B := false) rfl rfl rfl ?_ ?_)); refine ops_case rfl rfl rfl (fun hB => ?_) (fun hB => ?_) <;> rw [hB]) | (refine runs_here ?_; refine runs_cond rfl (fun hc => ?_) (fun hc => ?_) <;> first | (cases hc; done) | skip))
          exact fin _ _ _ hA hL rfl
        · have hL : brkL R 6 = flawIf (((R.phases.length : Int) == 0)) 6 0 0 := rfl
          obtain ⟨m2, n1, hA, n3⟩ := note_step hv5 (by rw [flMem_nil]; exact above_self m5) (by decide) (((R.phases.length : Int) == 0)) 0 0
          rw [flawIf_app, List.nil_append] at hA
          have k2 := hld _ _ hA
          repeat' (first | refine gos1 (jn @nr (jn @hn5 (jn @nl (jn @mkRl (jn @l1 (jn @l2 (jn @l3 (jn @l4 (jn @l5 (jn @l6 (jn @l7 (jn @l8 (jn @t1 (jn @f1 (jn @t2 (jn @n1 @k2)))))))))))))))) ?_ | (refine ops_here ?_; (fail_if_success (refine ops_case (B := true) rfl rfl rfl ?_ ?_)); (fail_if_success (refine ops_case (B := false) rfl rfl rfl ?_ ?_)); refine ops_case rfl rfl rfl (fun hB => ?_) (fun hB => ?_) <;> rw [hB]) | (refine runs_here ?_; refine runs_cond rfl (fun hc => ?_) (fun hc => ?_) <;> first | (cases hc; done) | skip))
          exact fin _ _ _ hA hL rfl
        · have hL : brkL R 7 = twinsL 7 (R.phases.map Ph.name) := rfl
          have c := twinsG_at (g := .no) hv5 (show (R.phases.map Ph.name).length ≤ 64 by rw [List.length_map]; exact hsm.2.2.1)
          have hA := above_self (flMem m5 n5 7 (twinsL 7 (R.phases.map Ph.name)))
          have k2 := hld _ _ hA
          repeat' (first | refine gos1 (jn @nr (jn @hn5 (jn @nl (jn @mkRl (jn @l1 (jn @l2 (jn @l3 (jn @l4 (jn @l5 (jn @l6 (jn @l7 (jn @l8 (jn @t5 (jn @c (jn @k2 (jn @t6 @f6)))))))))))))))) ?_ | (refine ops_here ?_; (fail_if_success (refine ops_case (B := true) rfl rfl rfl ?_ ?_)); (fail_if_success (refine ops_case (B := false) rfl rfl rfl ?_ ?_)); refine ops_case rfl rfl rfl (fun hB => ?_) (fun hB => ?_) <;> rw [hB]) | (refine runs_here ?_; refine runs_cond rfl (fun hc => ?_) (fun hc => ?_) <;> first | (cases hc; done) | skip))
          exact fin _ _ _ hA hL rfl
        · have hL : brkL R 8 = lastsL 8 R := rfl
          have c := rlastsG_at hv5 hsm
          have hA := above_self (flMem m5 n5 8 (lastsL 8 R))
          have k2 := hld _ _ hA
          repeat' (first | refine gos1 (jn @nr (jn @hn5 (jn @nl (jn @mkRl (jn @l1 (jn @l2 (jn @l3 (jn @l4 (jn @l5 (jn @l6 (jn @l7 (jn @l8 (jn @t4 (jn @c @k2)))))))))))))) ?_ | (refine ops_here ?_; (fail_if_success (refine ops_case (B := true) rfl rfl rfl ?_ ?_)); (fail_if_success (refine ops_case (B := false) rfl rfl rfl ?_ ?_)); refine ops_case rfl rfl rfl (fun hB => ?_) (fun hB => ?_) <;> rw [hB]) | (refine runs_here ?_; refine runs_cond rfl (fun hc => ?_) (fun hc => ?_) <;> first | (cases hc; done) | skip))
          exact fin _ _ _ hA hL rfl
        · have hL : brkL R 9 = sumL 9 R := rfl
          have c := sumG_at hv5 hsm hfit
          have hA := above_self (flMem m5 n5 9 (sumL 9 R))
          have k2 := hld _ _ hA
          repeat' (first | refine gos1 (jn @nr (jn @hn5 (jn @nl (jn @mkRl (jn @l1 (jn @l2 (jn @l3 (jn @l4 (jn @l5 (jn @l6 (jn @l7 (jn @l8 (jn @t7 (jn @c @k2)))))))))))))) ?_ | (refine ops_here ?_; (fail_if_success (refine ops_case (B := true) rfl rfl rfl ?_ ?_)); (fail_if_success (refine ops_case (B := false) rfl rfl rfl ?_ ?_)); refine ops_case rfl rfl rfl (fun hB => ?_) (fun hB => ?_) <;> rw [hB]) | (refine runs_here ?_; refine runs_cond rfl (fun hc => ?_) (fun hc => ?_) <;> first | (cases hc; done) | skip))
          exact fin _ _ _ hA hL rfl
        · have hL : brkL R 10 = frozenL 10 R := rfl
          have c := frozenG_at hv5 hsm
          have hA := above_self (flMem m5 n5 10 (frozenL 10 R))
          have k2 := hld _ _ hA
          repeat' (first | refine gos1 (jn @nr (jn @hn5 (jn @nl (jn @mkRl (jn @l1 (jn @l2 (jn @l3 (jn @l4 (jn @l5 (jn @l6 (jn @l7 (jn @l8 (jn @t8 (jn @c @k2)))))))))))))) ?_ | (refine ops_here ?_; (fail_if_success (refine ops_case (B := true) rfl rfl rfl ?_ ?_)); (fail_if_success (refine ops_case (B := false) rfl rfl rfl ?_ ?_)); refine ops_case rfl rfl rfl (fun hB => ?_) (fun hB => ?_) <;> rw [hB]) | (refine runs_here ?_; refine runs_cond rfl (fun hc => ?_) (fun hc => ?_) <;> first | (cases hc; done) | skip))
          exact fin _ _ _ hA hL rfl
        · have hL : brkL R 11 = setsFl 11 R := rfl
          have c := setsG_at hv5 hsm
          have hA := above_self (flMem m5 n5 11 (setsFl 11 R))
          have k2 := hld _ _ hA
          repeat' (first | refine gos1 (jn @nr (jn @hn5 (jn @nl (jn @mkRl (jn @l1 (jn @l2 (jn @l3 (jn @l4 (jn @l5 (jn @l6 (jn @l7 (jn @l8 (jn @t9 (jn @c @k2)))))))))))))) ?_ | (refine ops_here ?_; (fail_if_success (refine ops_case (B := true) rfl rfl rfl ?_ ?_)); (fail_if_success (refine ops_case (B := false) rfl rfl rfl ?_ ?_)); refine ops_case rfl rfl rfl (fun hB => ?_) (fun hB => ?_) <;> rw [hB]) | (refine runs_here ?_; refine runs_cond rfl (fun hc => ?_) (fun hc => ?_) <;> first | (cases hc; done) | skip))
          exact fin _ _ _ hA hL rfl
        · have hL : brkL R 12 = eachBL 12 R := rfl
          have c := eachG_B hv5 hsm
          have hA := above_self (flMem m5 n5 12 (eachBL 12 R))
          have k2 := hld _ _ hA
          repeat' (first | refine gos1 (jn @nr (jn @hn5 (jn @nl (jn @mkRl (jn @l1 (jn @l2 (jn @l3 (jn @l4 (jn @l5 (jn @l6 (jn @l7 (jn @l8 (jn @t10 (jn @c @k2)))))))))))))) ?_ | (refine ops_here ?_; (fail_if_success (refine ops_case (B := true) rfl rfl rfl ?_ ?_)); (fail_if_success (refine ops_case (B := false) rfl rfl rfl ?_ ?_)); refine ops_case rfl rfl rfl (fun hB => ?_) (fun hB => ?_) <;> rw [hB]) | (refine runs_here ?_; refine runs_cond rfl (fun hc => ?_) (fun hc => ?_) <;> first | (cases hc; done) | skip))
          exact fin _ _ _ hA hL rfl
        · have hL : brkL R 13 = eachHL 13 R := rfl
          have c := eachG_H hv5 hsm
          have hA := above_self (flMem m5 n5 13 (eachHL 13 R))
          have k2 := hld _ _ hA
          repeat' (first | refine gos1 (jn @nr (jn @hn5 (jn @nl (jn @mkRl (jn @l1 (jn @l2 (jn @l3 (jn @l4 (jn @l5 (jn @l6 (jn @l7 (jn @l8 (jn @t10 (jn @c @k2)))))))))))))) ?_ | (refine ops_here ?_; (fail_if_success (refine ops_case (B := true) rfl rfl rfl ?_ ?_)); (fail_if_success (refine ops_case (B := false) rfl rfl rfl ?_ ?_)); refine ops_case rfl rfl rfl (fun hB => ?_) (fun hB => ?_) <;> rw [hB]) | (refine runs_here ?_; refine runs_cond rfl (fun hc => ?_) (fun hc => ?_) <;> first | (cases hc; done) | skip))
          exact fin _ _ _ hA hL rfl
        · have hL : brkL R 14 = flawIf (R.endBad 14) 14 0 0 := rfl
          have c := endsFG_at hv5 hsm (by decide) (by decide)
          have hA := above_self (flMem m5 n5 14 (flawIf (R.endBad 14) 14 0 0))
          have k2 := hld _ _ hA
          repeat' (first | refine gos1 (jn @nr (jn @hn5 (jn @nl (jn @mkRl (jn @l1 (jn @l2 (jn @l3 (jn @l4 (jn @l5 (jn @l6 (jn @l7 (jn @l8 (jn @t11 (jn @c @k2)))))))))))))) ?_ | (refine ops_here ?_; (fail_if_success (refine ops_case (B := true) rfl rfl rfl ?_ ?_)); (fail_if_success (refine ops_case (B := false) rfl rfl rfl ?_ ?_)); refine ops_case rfl rfl rfl (fun hB => ?_) (fun hB => ?_) <;> rw [hB]) | (refine runs_here ?_; refine runs_cond rfl (fun hc => ?_) (fun hc => ?_) <;> first | (cases hc; done) | skip))
          exact fin _ _ _ hA hL rfl
        · have hL : brkL R 15 = flawIf (R.endBad 15) 15 0 0 := rfl
          have c := endsFG_at hv5 hsm (by decide) (by decide)
          have hA := above_self (flMem m5 n5 15 (flawIf (R.endBad 15) 15 0 0))
          have k2 := hld _ _ hA
          repeat' (first | refine gos1 (jn @nr (jn @hn5 (jn @nl (jn @mkRl (jn @l1 (jn @l2 (jn @l3 (jn @l4 (jn @l5 (jn @l6 (jn @l7 (jn @l8 (jn @t11 (jn @c @k2)))))))))))))) ?_ | (refine ops_here ?_; (fail_if_success (refine ops_case (B := true) rfl rfl rfl ?_ ?_)); (fail_if_success (refine ops_case (B := false) rfl rfl rfl ?_ ?_)); refine ops_case rfl rfl rfl (fun hB => ?_) (fun hB => ?_) <;> rw [hB]) | (refine runs_here ?_; refine runs_cond rfl (fun hc => ?_) (fun hc => ?_) <;> first | (cases hc; done) | skip))
          exact fin _ _ _ hA hL rfl
        · have hL : brkL R 16 = flawIf (R.endBad 16) 16 0 0 := rfl
          have c := endsFG_at hv5 hsm (by decide) (by decide)
          have hA := above_self (flMem m5 n5 16 (flawIf (R.endBad 16) 16 0 0))
          have k2 := hld _ _ hA
          repeat' (first | refine gos1 (jn @nr (jn @hn5 (jn @nl (jn @mkRl (jn @l1 (jn @l2 (jn @l3 (jn @l4 (jn @l5 (jn @l6 (jn @l7 (jn @l8 (jn @t11 (jn @c @k2)))))))))))))) ?_ | (refine ops_here ?_; (fail_if_success (refine ops_case (B := true) rfl rfl rfl ?_ ?_)); (fail_if_success (refine ops_case (B := false) rfl rfl rfl ?_ ?_)); refine ops_case rfl rfl rfl (fun hB => ?_) (fun hB => ?_) <;> rw [hB]) | (refine runs_here ?_; refine runs_cond rfl (fun hc => ?_) (fun hc => ?_) <;> first | (cases hc; done) | skip))
          exact fin _ _ _ hA hL rfl
        · have hL : brkL R 17 = flawIf (R.endBad 17) 17 0 0 := rfl
          have c := endsFG_at hv5 hsm (by decide) (by decide)
          have hA := above_self (flMem m5 n5 17 (flawIf (R.endBad 17) 17 0 0))
          have k2 := hld _ _ hA
          repeat' (first | refine gos1 (jn @nr (jn @hn5 (jn @nl (jn @mkRl (jn @l1 (jn @l2 (jn @l3 (jn @l4 (jn @l5 (jn @l6 (jn @l7 (jn @l8 (jn @t11 (jn @c @k2)))))))))))))) ?_ | (refine ops_here ?_; (fail_if_success (refine ops_case (B := true) rfl rfl rfl ?_ ?_)); (fail_if_success (refine ops_case (B := false) rfl rfl rfl ?_ ?_)); refine ops_case rfl rfl rfl (fun hB => ?_) (fun hB => ?_) <;> rw [hB]) | (refine runs_here ?_; refine runs_cond rfl (fun hc => ?_) (fun hc => ?_) <;> first | (cases hc; done) | skip))
          exact fin _ _ _ hA hL rfl
        · have hL : brkL R 18 = flawIf (R.endBad 18) 18 0 0 := rfl
          have c := endsFG_at hv5 hsm (by decide) (by decide)
          have hA := above_self (flMem m5 n5 18 (flawIf (R.endBad 18) 18 0 0))
          have k2 := hld _ _ hA
          repeat' (first | refine gos1 (jn @nr (jn @hn5 (jn @nl (jn @mkRl (jn @l1 (jn @l2 (jn @l3 (jn @l4 (jn @l5 (jn @l6 (jn @l7 (jn @l8 (jn @t11 (jn @c @k2)))))))))))))) ?_ | (refine ops_here ?_; (fail_if_success (refine ops_case (B := true) rfl rfl rfl ?_ ?_)); (fail_if_success (refine ops_case (B := false) rfl rfl rfl ?_ ?_)); refine ops_case rfl rfl rfl (fun hB => ?_) (fun hB => ?_) <;> rw [hB]) | (refine runs_here ?_; refine runs_cond rfl (fun hc => ?_) (fun hc => ?_) <;> first | (cases hc; done) | skip))
          exact fin _ _ _ hA hL rfl
        · have hL : brkL R 19 = flawIf (decide (R.eval > R.steps)) 19 0 0 := rfl
          obtain ⟨m2, n1, hA, n3⟩ := note_step hv5 (by rw [flMem_nil]; exact above_self m5) (by decide) (decide (R.eval > R.steps)) 0 0
          rw [flawIf_app, List.nil_append] at hA
          have k2 := hld _ _ hA
          repeat' (first | refine gos1 (jn @nr (jn @hn5 (jn @nl (jn @mkRl (jn @l1 (jn @l2 (jn @l3 (jn @l4 (jn @l5 (jn @l6 (jn @l7 (jn @l8 (jn @t1 (jn @f1 (jn @t2 (jn @n1 @k2)))))))))))))))) ?_ | (refine ops_here ?_; (fail_if_success (refine ops_case (B := true) rfl rfl rfl ?_ ?_)); (fail_if_success (refine ops_case (B := false) rfl rfl rfl ?_ ?_)); refine ops_case rfl rfl rfl (fun hB => ?_) (fun hB => ?_) <;> rw [hB]) | (refine runs_here ?_; refine runs_cond rfl (fun hc => ?_) (fun hc => ?_) <;> first | (cases hc; done) | skip))
          exact fin _ _ _ hA hL rfl
      · cases h
    · cases h
  · cases h
def kpKept : Nat → Option (List Nat) := fun
  | 0 => some [1, 2]
  | 1 => some [4]
  | _ => none
attribute [go_sem] kpKept
end Go.Proofs.YtojaokhkbmiidaaGreat.Ev

namespace Go.Proofs.YtojaokhkbmiidaaGreat.Ev
open Go Go.Proofs
set_option maxRecDepth 10000
set_option maxHeartbeats 8000000
set_option linter.unusedVariables false
set_option linter.unusedSimpArgs false
attribute [local irreducible] Next Inside Runs Ops table
attribute [local go_sem] szStr szInt Option.getD_some isNil evStr iv loadStr loadInt mapRc cellsRc newRc fpRcSteps fpRcEpoch fpRcPhases rowsS_len rowsPh_len
theorem zrLen : zeroCells Tryz.prog 33 = some (lenRow 0 0) := by kernel_rfl
theorem zoLen {a b : Int} : (lenRow a b).all okCell = true := rfl
theorem zsLen {m : Mem} {u n : Int} : evStore Tryz.prog (m.push (lenRow 0 0)) 33 (.ptr m.vars.length 0) (.agg [.v (.int .i64 u), .v (.int .i64 n)]) = some (m.push (lenRow u n)) := by
  rw [store_push (cs := lenRow u n) rfl (show tSize Tryz.prog 33 = some 2 by kernel_rfl) (Nat.le_refl _) rfl]
  rfl
theorem fpLenU {r : Nat} : evFieldAddr Tryz.prog 33 (.ptr r 0) 0 = some (.ptr r 0) := by kernel_rfl
theorem lpLenU {m : Mem} {r : Nat} {u n : Int} (hv : m.var r = some (lenRow u n)) : evLoad Tryz.prog m 3 (.ptr r 0) = some (.v (.int .i64 u)) := by
  unfold evLoad
  simp only [ptrCells, hv, Option.map_some, szInt, agInt]
  rfl
def rlastG : List AV → Mem → Option (AV × Mem)
  | [.agg cs, .v (.int .i64 i)], m =>
    match unRc cs with
    | some R => if R.phases.length ≤ 64 ∧ 0 ≤ i ∧ i < (R.phases.length : Int) ∧ lenMay (R.phases.getD i.toNat ph0).lenU (R.phases.getD i.toNat ph0).lenN ∧ 0 ≤ R.steps ∧ 0 ≤ R.epoch then some (.v (.bool (!R.lastBad i.toNat)), m) else none
    | none => none
  | _, _ => none
theorem rlastG_at {R : Rc} {i : Nat} {m : Mem} (h : R.phases.length ≤ 64) (h1 : i < R.phases.length) (h2 : lenMay (R.phases.getD i ph0).lenU (R.phases.getD i ph0).lenN) (h3 : 0 ≤ R.steps) (h4 : 0 ≤ R.epoch) : rlastG [.agg R.row, .v (.int .i64 (i : Int))] m = some (.v (.bool (!R.lastBad i)), m) := by
  simp only [rlastG, unRc_row]
  rw [if_pos ⟨h, by omega, by omega, by rw [Int.toNat_natCast]; exact h2, h3, h4⟩, Int.toNat_natCast]
def kpRLast20 : Nat → Option (List Nat) := fun
  | 0 => some [1, 2]
  | 1 => some [1, 2, 5]
  | 2 => some [1, 2, 5, 16]
  | 3 => some [4]
  | 4 => some [6, 7]
  | 5 => some [4]
  | _ => none
attribute [go_sem] kpRLast20
def tab_rlast_ok : List (FuncId × (List AV → Mem → Option (AV × Mem))) := [(49, rstepsG)]
theorem rlast_ok : FunOk Tryz.prog 100 rlastG := by
  have hC := table_ok (P := Tryz.prog) (l := tab_rlast_ok) (table_more rsteps_ok table_nil)
  have t1 := fun args mm => table_at (l := tab_rlast_ok) (f := 49) (args := args) (m := mm) rfl
  refine fun_ok mixed hC Tryz.func100 rfl kpRLast20 false rfl fun args m r h => ?_
  unfold rlastG at h
  split at h
  · rename_i cs i
    split at h
    · rename_i R hR
      obtain rfl := unRc_some hR
      split at h
      · rename_i hyp
        obtain ⟨h64, h0, h1, hl, hs, he⟩ := hyp
        obtain ⟨j, rfl⟩ := Int.eq_ofNat_of_zero_le h0
        simp only [Int.toNat_natCast] at hl h
        simp only [Option.some.injEq] at h
        subst h
        refine ⟨Nat.le_of_ble_eq_true rfl, ?_⟩
        simp only [entry, List.length_cons, List.length_nil, List.range, List.range.loop, List.zip_cons_cons, List.zip_nil_right]
        have hj : j < R.phases.length := by omega
        have hA := above_push (cs := R.row) (above_self m)
        have hv : (m.push R.row).var m.vars.length = some R.row := push_var
        have f1 := atPh (g := .no) (kk := .i64) hj
        have l1 := lpRcPhases hv
        have nr := newRc (m := m) (x := R)
        generalize m.push R.row = m1 at hA hv l1 nr
        have hbad : R.lastBad j = if (R.phases.getD j ph0).lenU = 3 then decide (((j + 1 : Nat) : Int) < (R.phases.length : Int)) else ((R.stepsOf (R.phases.getD j ph0)).2 != 0) || ((R.stepsOf (R.phases.getD j ph0)).1 == 0) := rfl
        generalize R.phases.getD j ph0 = p at f1 hl hbad
        have z1 := newLen2 (m := m1) (u := 0) (n := 0)
        have z2 := zsLen (m := m1) (u := p.lenU) (n := p.lenN)
        have hA2 := above_push (cs := lenRow p.lenU p.lenN) hA
        have hv2 := push_old (cs' := lenRow p.lenU p.lenN) hv
        have hw2 : (m1.push (lenRow p.lenU p.lenN)).var m1.vars.length = some (lenRow p.lenU p.lenN) := push_var
        have l2 := lpLenU hw2
        have l3 := lpRcPhases hv2
        have l4 := vrRc hv2
        have l5 := vrLen2 hw2
        by_cases h3 : p.lenU = 3
        · have b3 : (p.lenU == 3) = true := by simpa using h3
          rw [if_pos h3] at hbad
          have r1 : IntKind.i64.wrap ((R.phases.length : Int) - 1) = (R.phases.length : Int) - 1 := i64_wrap (by omega) (by omega)
          have e : (!R.lastBad j) = ((j : Int) == (R.phases.length : Int) - 1) := by
            rw [hbad, Bool.eq_iff_iff]
            simp only [Bool.not_eq_true', decide_eq_false_iff_not, beq_iff_eq]
            omega
          rw [e]
          repeat' (first | refine gos1 (jn @nr (jn @l1 (jn @f1 (jn @fePhLen (jn @lePhLen (jn @zrLen (jn @zoLen (jn @z1 (jn @z2 (jn @fpLenU (jn @l2 (jn @b3 (jn @l3 @r1))))))))))))) ?_ | (refine ops_here ?_; (fail_if_success (refine ops_case (B := true) rfl rfl rfl ?_ ?_)); (fail_if_success (refine ops_case (B := false) rfl rfl rfl ?_ ?_)); refine ops_case rfl rfl rfl (fun hB => ?_) (fun hB => ?_) <;> rw [hB]) | (refine runs_here ?_; refine runs_cond rfl (fun hc => ?_) (fun hc => ?_) <;> first | (cases hc; done) | skip))
          exact leaves_fin rfl rfl (above_fin hA2)
        · have b3 : (p.lenU == 3) = false := by simpa using h3
          rw [if_neg h3] at hbad
          have f3 := fun mm => rstepsG_at (m := mm) (R := R) hl hs he
          rw [show stepsP p.lenU p.lenN R.steps R.epoch = R.stepsOf p from rfl] at f3
          have hin := stepsP_in (u := p.lenU) (n := p.lenN) (of := R.steps) (ep := R.epoch)
          rw [show stepsP p.lenU p.lenN R.steps R.epoch = R.stepsOf p from rfl] at hin
          generalize R.stepsOf p = s at f3 hbad hin
          have e : (!R.lastBad j) = ((s.2 == 0) && decide (s.1 > 0)) := by
            rw [hbad, Bool.eq_iff_iff]
            simp only [Bool.not_eq_true', Bool.or_eq_false_iff, bne_eq_false_iff_eq, beq_eq_false_iff_ne, Bool.and_eq_true, beq_iff_eq, decide_eq_true_eq]
            omega
          rw [e]
          cases hz : (s.2 == 0) with
          | true =>
            repeat' (first | refine gos1 (jn @nr (jn @l1 (jn @f1 (jn @fePhLen (jn @lePhLen (jn @zrLen (jn @zoLen (jn @z1 (jn @z2 (jn @fpLenU (jn @l2 (jn @b3 (jn @l4 (jn @l5 (jn @t1 (jn @f3 @hz)))))))))))))))) ?_ | (refine ops_here ?_; (fail_if_success (refine ops_case (B := true) rfl rfl rfl ?_ ?_)); (fail_if_success (refine ops_case (B := false) rfl rfl rfl ?_ ?_)); refine ops_case rfl rfl rfl (fun hB => ?_) (fun hB => ?_) <;> rw [hB]) | (refine runs_here ?_; refine runs_cond rfl (fun hc => ?_) (fun hc => ?_) <;> first | (cases hc; done) | skip))
            exact leaves_fin rfl rfl (above_fin hA2)
          | false =>
            repeat' (first | refine gos1 (jn @nr (jn @l1 (jn @f1 (jn @fePhLen (jn @lePhLen (jn @zrLen (jn @zoLen (jn @z1 (jn @z2 (jn @fpLenU (jn @l2 (jn @b3 (jn @l4 (jn @l5 (jn @t1 (jn @f3 @hz)))))))))))))))) ?_ | (refine ops_here ?_; (fail_if_success (refine ops_case (B := true) rfl rfl rfl ?_ ?_)); (fail_if_success (refine ops_case (B := false) rfl rfl rfl ?_ ?_)); refine ops_case rfl rfl rfl (fun hB => ?_) (fun hB => ?_) <;> rw [hB]) | (refine runs_here ?_; refine runs_cond rfl (fun hc => ?_) (fun hc => ?_) <;> first | (cases hc; done) | skip))
            exact leaves_fin rfl rfl (above_fin hA2)
      · cases h
    · cases h
  · cases h
end Go.Proofs.YtojaokhkbmiidaaGreat.Ev

namespace Go.Proofs.YtojaokhkbmiidaaGreat.Ev
open Go Go.Proofs
set_option maxRecDepth 10000
set_option maxHeartbeats 8000000
set_option linter.unusedVariables false
set_option linter.unusedSimpArgs false
attribute [local irreducible] Next Inside Runs Ops table
attribute [local go_sem] szStr szInt Option.getD_some isNil evStr iv loadStr loadInt mapRc cellsRc newRc fpRcSteps fpRcEpoch fpRcPhases rowsS_len rowsPh_len fePhLen lePhLen
theorem feLenU {x : Ph} : evFieldAddr Tryz.prog 33 (.eptr (x.row.drop 1)) 0 = some (.eptr (x.row.drop 1)) := by kernel_rfl
theorem leLenU {m : Mem} {x : Ph} : evLoad Tryz.prog m 3 (.eptr (x.row.drop 1)) = some (.v (.int .i64 x.lenU)) := by kernel_rfl
def Rc.lensOk (R : Rc) : Prop := R.phases.length ≤ 64 ∧ (∀ p ∈ R.phases, lenMay p.lenU p.lenN) ∧ 0 ≤ R.steps ∧ 0 ≤ R.epoch
instance (R : Rc) : Decidable R.lensOk := by unfold Rc.lensOk; exact inferInstance
def rsumG : List AV → Mem → Option (AV × Mem)
  | [.agg cs], m =>
    match unRc cs with
    | some R => if R.lensOk then some (.v (.bool (!R.sumBad)), m) else none
    | none => none
  | _, _ => none
theorem rsumG_at (R : Rc) (m : Mem) (h : R.lensOk) : rsumG [.agg R.row] m = some (.v (.bool (!R.sumBad)), m) := by
  simp only [rsumG, unRc_row]
  rw [if_pos h]
def kpRSum20 : Nat → Option (List Nat) := fun
  | 0 => some [1]
  | 1 => some [1, 3]
  | 2 => some [1, 3, 4]
  | 3 => some [1, 3, 4, 11]
  | 4 => some [1, 3, 4]
  | 5 => some [1, 3, 4, 21]
  | 6 => some [2]
  | 7 => some [1, 3, 4, 5]
  | 8 => some [1, 3, 4]
  | 9 => some [2]
  | _ => none
attribute [go_sem] kpRSum20
def tab_rsum_ok : List (FuncId × (List AV → Mem → Option (AV × Mem))) := [(49, rstepsG)]
theorem rsum_ok : FunOk Tryz.prog 139 rsumG := by
  have hC := table_ok (P := Tryz.prog) (l := tab_rsum_ok) (table_more rsteps_ok table_nil)
  have t1 := fun args mm => table_at (l := tab_rsum_ok) (f := 49) (args := args) (m := mm) rfl
  refine fun_ok mixed hC Tryz.func139 rfl kpRSum20 false rfl fun args m r h => ?_
  unfold rsumG at h
  split at h
  · rename_i cs
    split at h
    · rename_i R hR
      obtain rfl := unRc_some hR
      split at h
      · rename_i hyp
        obtain ⟨h64, hl, hs, he⟩ := hyp
        simp only [Option.some.injEq] at h
        subst h
        refine ⟨Nat.le_of_ble_eq_true rfl, ?_⟩
        simp only [entry, List.length_cons, List.length_nil, List.range, List.range.loop, List.zip_cons_cons, List.zip_nil_right]
        have hv : (m.push R.row).var m.vars.length = some R.row := push_var
        have l1 := lpRcPhases hv
        have l2 := lpRcSteps hv
        have l4 := vrRc hv
        refine go0 ?_
        refine runs_loop (fun k e m' => ∃ (i : Nat), i ≤ R.phases.length ∧ firstBy restP (R.phases.drop i) i = firstBy restP R.phases 0 ∧ m' = m.push R.row ∧ k = R.phases.length - i ∧
          e = [(1, AV.ptr m.vars.length 0), (3, .v (.int .i64 (accS R i))), (4, .v (.int .i64 (i : Int)))]) (k := R.phases.length) ⟨0, Nat.zero_le _, rfl, rfl, rfl, rfl⟩ ?_
        rintro k e m' ⟨i, hi0, hf, rfl, rfl, rfl⟩
        refine go1 @l1 ?_
        refine runs_cond rfl (fun hc => ?_) (fun hc => ?_)
        · have hi1 : i < R.phases.length := by have := of_decide_eq_true hc; omega
          have f2 := atPh (g := .no) (kk := .i64) hi1
          have eA : accS R (i + 1) = accS R i + (R.stepsOf (R.phases.getD i ph0)).1 := rfl
          have hin := accS_in R (i + 1)
          have hyes := fun hp => by_yes (d := ph0) hi1 hp hf
          have hno := fun hp => by_no (d := ph0) hi1 hp hf
          have hp := hl (R.phases.getD i ph0) (by rw [List.getD, List.getElem?_eq_getElem hi1]; exact List.getElem_mem _)
          generalize R.phases.getD i ph0 = p at f2 eA hyes hno hp
          have r6 := next_i64 (i := i) (by omega)
          cases h3 : (p.lenU == 3) with
          | true =>
            have hx := hyes h3
            have hb : (!R.sumBad) = decide (accS R i < R.steps) := by
              unfold Rc.sumBad
              rw [hx, if_neg (by omega), Int.toNat_natCast, Bool.eq_iff_iff]
              simp only [Bool.not_eq_true', decide_eq_false_iff_not, decide_eq_true_eq]
              omega
            rw [hb]
            refine go1 (jn @l1 (jn @f2 (jn @feLenU (jn @leLenU @h3)))) ?_
            refine runs_cond rfl (fun hc => ?_) (fun hc => by cases hc)
            refine go1 @l2 ?_
            exact leaves_fin rfl rfl fin_push
          | false =>
            have hx := hno h3
            have f3 := fun mm => rstepsG_at (m := mm) (R := R) hp hs he
            rw [show stepsP p.lenU p.lenN R.steps R.epoch = R.stepsOf p from rfl] at f3
            rw [eA] at hin
            have r1 : IntKind.i64.wrap (accS R i + (R.stepsOf p).1) = accS R i + (R.stepsOf p).1 := i64_wrap (by omega) (by omega)
            rw [← eA] at r1
            refine go1 (jn @l1 (jn @f2 (jn @feLenU (jn @leLenU @h3)))) ?_
            refine runs_cond rfl (fun hc => by cases hc) (fun hc => ?_)
            refine go0 ?_
            refine runs_ops_drawn_kept (by kernel_rfl) ?_
            refine go1 (jn @l1 (jn @l4 (jn @f2 (jn @t1 (jn @f3 @r6))))) ?_
            rw [← eA, r1]
            exact ⟨R.phases.length - (i + 1), by omega, i + 1, hi1, hx, rfl, rfl, rfl⟩
        · have hi1 : i = R.phases.length := by have := of_decide_eq_false hc; omega
          subst hi1
          have hx := by_end hf
          have hb : (!R.sumBad) = (accS R R.phases.length == R.steps) := by
            unfold Rc.sumBad
            rw [hx, if_pos (by decide), bne, Bool.not_not]
          rw [hb]
          refine go1 @l2 ?_
          exact leaves_fin rfl rfl fin_push
      · cases h
    · cases h
  · cases h
end Go.Proofs.YtojaokhkbmiidaaGreat.Ev

namespace Go.Proofs.YtojaokhkbmiidaaGreat.Ev
open Go Go.Proofs
set_option maxRecDepth 10000
set_option maxHeartbeats 8000000
set_option linter.unusedVariables false
set_option linter.unusedSimpArgs false
attribute [local irreducible] Next Inside Runs Ops table
/-! ### api.Len -/
structure Ln where
  U : Int
  N : Int
def ln0 : Ln := ⟨0, 0⟩
def Ln.row (x : Ln) : List AV := [iv x.U, iv x.N]
def rowsLn (l : List Ln) : List (List AV) := l.map Ln.row
theorem rowsLn_len (l : List Ln) : (rowsLn l).length = l.length := List.length_map ..
theorem rowsLn_app (l l2 : List Ln) : rowsLn l ++ rowsLn l2 = rowsLn (l ++ l2) := List.map_append.symm
theorem rowsLn_get {l : List Ln} {i : Nat} (hi : i < l.length) : (rowsLn l)[i]? = some (l.getD i ln0).row := by
  simp [rowsLn, List.getD, List.getElem?_eq_getElem hi]
theorem elLn : tElem Tryz.prog 151 = some 33 := by simp only [tElem, Tryz.underlying151]
theorem naLn : tArr Tryz.prog 151 = none := by simp only [tArr, Tryz.underlying151]
theorem appLn : appB Tryz.prog 151 151 2 = true := by kernel_rfl
theorem szLn : tSize Tryz.prog 33 = some 2 := by kernel_rfl
theorem atLn {g : Grow} {kk : IntKind} {l : List Ln} {i : Nat} (hi : i < l.length) : evIndexAddr Tryz.prog 151 (.lst g 2 (rowsLn l)) (.v (.int kk (i : Int))) = some (.eptr (l.getD i ln0).row) := at_list elLn naLn szLn (rowsLn_get hi)
theorem feLnU {x : Ln} : evFieldAddr Tryz.prog 33 (.eptr x.row) 0 = some (.eptr x.row) := by kernel_rfl
theorem leLnU {m : Mem} {x : Ln} : evLoad Tryz.prog m 3 (.eptr x.row) = some (iv x.U) := by kernel_rfl
end Go.Proofs.YtojaokhkbmiidaaGreat.Ev

namespace Go.Proofs.YtojaokhkbmiidaaGreat.Ev
open Go Go.Proofs
set_option maxRecDepth 10000
set_option maxHeartbeats 8000000
set_option linter.unusedVariables false
set_option linter.unusedSimpArgs false
attribute [local irreducible] Next Inside Runs Ops table
attribute [local go_sem] szStr szInt Option.getD_some isNil evStr iv mapRc cellsRc newRc rowsFl_len
theorem named_len {l : List ByteArray} {n : Int} (h : namedB l n = true) : (l.length : Int) ≤ n := by
  unfold namedB at h
  simp only [Bool.and_eq_true, decide_eq_true_eq] at h
  exact h.1
theorem checkT_len {l : List Nd} (h : checkT l = 0) : l.length ≤ 64 := by
  unfold checkT at h
  split at h
  · cases h
  · omega
theorem Rc.may_small {R : Rc} (h : R.may = true) : R.small := by
  unfold Rc.may Rc.headBad Rc.listBad Rc.phBad at h
  simp only [Bool.and_eq_true, Bool.not_eq_true', Bool.or_eq_false_iff, decide_eq_false_iff_not, Bool.not_eq_false'] at h
  obtain ⟨_, ⟨h1, h2, _⟩, h3, h4, _⟩ := h
  have n1 := named_len h1
  have n2 := named_len h2
  refine ⟨by omega, by omega, by omega, fun p hp => ?_⟩
  have hq := List.any_eq_false.1 h4 p hp
  simp only [phNot, phMay, Bool.not_eq_true', Bool.not_eq_false, Bool.and_eq_true, decide_eq_true_eq, Bool.not_eq_false'] at hq
  obtain ⟨_, _, h5, h6, h7⟩ := hq
  have n5 := named_len h5
  refine ⟨by omega, by omega, fun s hs => ?_⟩
  have h7' : p.sets.any setNot = false := by first | exact h7 | simpa using h7
  have hr := List.any_eq_false.1 h7' s hs
  simp only [setNot, setMay, Bool.not_eq_true', Bool.not_eq_false, Bool.and_eq_true, beq_iff_eq] at hr
  have := checkT_len hr.2.2.2
  omega
theorem flawIf_le (b : Bool) (rule i k : Int) : (flawIf b rule i k).length ≤ 4096 := by have := flawIf_len b rule i k; omega
theorem upto_le1 {n : Nat} {b : Nat → Bool} {rule : Int} {f g : Nat → Int} (hn : n ≤ 64) : (upto n fun i => flawIf (b i) rule (f i) (g i)).length ≤ 64 := by
  have := @upto_len (fun i => flawIf (b i) rule (f i) (g i)) 1 n fun k _ => flawIf_len ..
  omega
theorem upto_le2 {n : Nat} {F : Nat → List Fl} (hn : n ≤ 64) (h : ∀ i, i < n → (F i).length ≤ 64) : (upto n F).length ≤ 4096 := by
  have := @upto_len F 64 n h
  omega
theorem brkL_len {R : Rc} (h : R.small) (rule : Int) : (brkL R rule).length ≤ 4096 := by
  have hp := fun i => h.phase i
  unfold brkL
  by_cases e1 : rule = 1
  · rw [if_pos e1]; exact flawIf_le _ _ _ _
  rw [if_neg e1]
  by_cases e2 : rule = 2
  · rw [if_pos e2]; exact flawIf_le _ _ _ _
  rw [if_neg e2]
  by_cases e3 : rule = 3
  · rw [if_pos e3]; exact flawIf_le _ _ _ _
  rw [if_neg e3]
  by_cases e4 : rule = 4
  · rw [if_pos e4]; have := @upto_le1 R.metrics.length (fun i => decide (placeOf R.metrics (R.metrics.getD i ⟨#[]⟩) < (i : Int))) 4 (fun i => (i : Int)) (fun _ => 0) h.1; unfold twinsL; omega
  rw [if_neg e4]
  by_cases e5 : rule = 5
  · rw [if_pos e5]; have := @upto_le1 R.groups.length (fun i => decide (placeOf R.groups (R.groups.getD i ⟨#[]⟩) < (i : Int))) 5 (fun i => (i : Int)) (fun _ => 0) h.2.1; unfold twinsL; omega
  rw [if_neg e5]
  by_cases e6 : rule = 6
  · rw [if_pos e6]; exact flawIf_le _ _ _ _
  rw [if_neg e6]
  by_cases e7 : rule = 7
  · rw [if_pos e7]; have := @upto_le1 (R.phases.map Ph.name).length (fun i => decide (placeOf (R.phases.map Ph.name) ((R.phases.map Ph.name).getD i ⟨#[]⟩) < (i : Int))) 7 (fun i => (i : Int)) (fun _ => 0) (by rw [List.length_map]; exact h.2.2.1); unfold twinsL; omega
  rw [if_neg e7]
  by_cases e8 : rule = 8
  · rw [if_pos e8]; have := @upto_le1 R.phases.length (fun i => R.lastBad i) 8 (fun i => (i : Int)) (fun _ => 0) h.2.2.1; unfold lastsL; omega
  rw [if_neg e8]
  by_cases e9 : rule = 9
  · rw [if_pos e9]; unfold sumL; split; exact flawIf_le _ _ _ _; simp
  rw [if_neg e9]
  by_cases e10 : rule = 10
  · rw [if_pos e10]; exact upto_le2 h.2.2.1 fun i _ => upto_le1 (hp i).1
  rw [if_neg e10]
  by_cases e11 : rule = 11
  · rw [if_pos e11]; exact upto_le2 h.2.2.1 fun i _ => upto_le1 (hp i).2.1
  rw [if_neg e11]
  by_cases e12 : rule = 12
  · rw [if_pos e12]; exact upto_le2 h.2.2.1 fun i _ => upto_le1 (hp i).2.1
  rw [if_neg e12]
  by_cases e13 : rule = 13
  · rw [if_pos e13]; exact upto_le2 h.2.2.1 fun i _ => upto_le1 (hp i).2.1
  rw [if_neg e13]
  by_cases e14 : rule = 14
  · rw [if_pos e14]; exact flawIf_le _ _ _ _
  rw [if_neg e14]
  by_cases e15 : rule = 15
  · rw [if_pos e15]; exact flawIf_le _ _ _ _
  rw [if_neg e15]
  by_cases e16 : rule = 16
  · rw [if_pos e16]; exact flawIf_le _ _ _ _
  rw [if_neg e16]
  by_cases e17 : rule = 17
  · rw [if_pos e17]; exact flawIf_le _ _ _ _
  rw [if_neg e17]
  by_cases e18 : rule = 18
  · rw [if_pos e18]; exact flawIf_le _ _ _ _
  rw [if_neg e18]
  by_cases e19 : rule = 19
  · rw [if_pos e19]; exact flawIf_le _ _ _ _
  rw [if_neg e19]
  simp
/-- As app_growsA; the variables stay. -/
theorem app_growsV {P : Program} {m : Mem} {t t2 : TypeId} {k : Nat} (ha : appB P t t2 k = true) {g : Grow} {m' : Mem} (hG : GrowsA m g m') {y : AV} {g2 : Grow} {xs ys : List (List AV)} (hy : asList k y = some (g2, ys)) (hl : xs.length + ys.length ≤ lim) :
    ∃ g' m'', evAppend P t t2 m' (.lst g k xs) y = some (.lst g' k (xs ++ ys), m'') ∧ GrowsA m g' m'' ∧ ∀ q, m''.var q = m'.var q := by
  obtain ⟨m1, h1, L, rfl⟩ := hG
  rcases h1 with ⟨rfl, rfl⟩ | ⟨v, rfl, rfl⟩
  · refine ⟨_, _, app_of ha asList_lst hy hl, ⟨m1.tk [0], grows_tok, L, rfl⟩, fun q => rfl⟩
  · refine ⟨_, { vars := m.vars ++ L, toks := m.toks ++ [v + 1] }, ?_, ⟨m.tk [v + 1], grows_tok, L, rfl⟩, fun q => rfl⟩
    rw [app_of ha asList_lst hy hl]
    have h : ({ vars := (m.tk [v]).vars ++ L, toks := (m.tk [v]).toks } : Mem).toks[m.toks.length]? = some v := by simp [Mem.tk]
    simp only [h, if_true]
    simp [Mem.tk, List.set_append]
def flawsTo (R : Rc) (n : Nat) : List Fl := upto n fun k => brkL R ((k + 1 : Nat) : Int)
def Rc.flaws (R : Rc) : List Fl := if R.may = true then flawsTo R 19 else []
def checkOfG : List AV → Mem → Option (AV × Mem)
  | [.agg cs], m =>
    match unRc cs with
    | some R => if R.fit then some (.tup [.lst .no 3 (rowsFl R.flaws), .v (.int .i64 (if R.may then 0 else 1))], m) else none
    | none => none
  | _, _ => none
theorem checkOfG_at (R : Rc) (m : Mem) (h : R.fit) : checkOfG [.agg R.row] m = some (.tup [.lst .no 3 (rowsFl R.flaws), .v (.int .i64 (if R.may then 0 else 1))], m) := by
  simp only [checkOfG, unRc_row]
  rw [if_pos h]
def kpCheckOf : Nat → Option (List Nat) := fun
  | 0 => some [1]
  | 1 => some [1, 4]
  | 2 => some [1, 4, 10]
  | 3 => some [2, 3]
  | 4 => some [1, 5]
  | 5 => some [1, 5, 6]
  | 6 => some [1, 5, 6, 13]
  | 7 => some [1, 5, 6]
  | 8 => some [1, 5, 6]
  | 9 => some [2, 3]
  | _ => none
attribute [go_sem] kpCheckOf
def tab_checkOf_ok : List (FuncId × (List AV → Mem → Option (AV × Mem))) := [(37, mayRG), (38, brokenG)]
theorem checkOf_ok : FunOk Tryz.prog 11 checkOfG := by
  have hC := table_ok (P := Tryz.prog) (l := tab_checkOf_ok) (table_more mayR_ok (table_more broken_ok table_nil))
  have t1 := fun args mm => table_at (l := tab_checkOf_ok) (f := 37) (args := args) (m := mm) rfl
  have t2 := fun args mm => table_at (l := tab_checkOf_ok) (f := 38) (args := args) (m := mm) rfl
  refine fun_ok mixed hC Tryz.func11 rfl kpCheckOf false rfl fun args m r h => ?_
  unfold checkOfG at h
  split at h
  · rename_i cs
    split at h
    · rename_i R hR
      obtain rfl := unRc_some hR
      split at h
      · rename_i hfit
        simp only [Option.some.injEq] at h
        subst h
        refine ⟨Nat.le_of_ble_eq_true rfl, ?_⟩
        simp only [entry, List.length_cons, List.length_nil, List.range, List.range.loop, List.zip_cons_cons, List.zip_nil_right]
        have hv : (m.push R.row).var m.vars.length = some R.row := push_var
        have l1 := vrRc hv
        have f1 := fun mm => mayRG_at R mm hfit
        unfold Rc.flaws
        cases hm : R.may with
        | false =>
          rw [hm] at f1
          have b1 : ((1 : Int) != 0) = true := rfl
          have i1 : (if false = true then (0 : Int) else 1) = 1 := rfl
          rw [i1] at f1
          refine go1 (jn @l1 (jn @t1 (jn @f1 @b1))) ?_
          refine runs_cond rfl (fun hc => ?_) (fun hc => by cases hc)
          refine go0 ?_
          exact leaves_two rfl rfl rfl fin_push
        | true =>
          rw [hm] at f1
          have hsm := Rc.may_small hm
          have b1 : ((0 : Int) != 0) = false := rfl
          have i1 : (if true = true then (0 : Int) else 1) = 0 := rfl
          rw [i1] at f1
          refine go1 (jn @l1 (jn @t1 (jn @f1 @b1))) ?_
          refine runs_cond rfl (fun hc => by cases hc) (fun hc => ?_)
          refine go0 ?_
          have hG0 : GrowsA m .full (m.push R.row) := growsA_push growsA_full
          refine runs_loop (fun k e m' => ∃ (i : Nat) (gr : Grow), i ≤ 19 ∧ GrowsA m gr m' ∧ m'.var m.vars.length = some R.row ∧ k = 19 - i ∧
            e = [(1, AV.ptr m.vars.length 0), (5, .lst gr 3 (rowsFl (flawsTo R i))), (6, .v (.int .i64 ((i + 1 : Nat) : Int)))]) (k := 19) ⟨0, _, Nat.zero_le _, hG0, hv, rfl, rfl⟩ ?_
          rintro k e m' ⟨i, gr, hi0, hG, hw, rfl, rfl⟩
          refine go0 ?_
          refine runs_cond rfl (fun hc => ?_) (fun hc => ?_)
          · have hi1 : i < 19 := by have := of_decide_eq_true hc; omega
            have l2 := vrRc hw
            have f2 := fun mm => brokenG_at (m := mm) (R := R) (rule := ((i + 1 : Nat) : Int)) hsm hfit (by omega)
            have hN : flawsTo R (i + 1) = flawsTo R i ++ brkL R ((i + 1 : Nat) : Int) := upto_next
            have hl1 : (flawsTo R i).length ≤ i * 4096 := upto_len i fun k _ => brkL_len hsm _
            have hl2 := brkL_len hsm ((i + 1 : Nat) : Int)
            have r6 := next_i64 (i := i + 1) (by omega)
            generalize ((i + 1 : Nat) : Int) = j at f2 hN hl2 r6
            obtain ⟨g2, m2, a1, hG2, hV⟩ := app_growsV appFl hG (y := .lst .no 3 (rowsFl (brkL R j))) asList_lst (xs := rowsFl (flawsTo R i)) (by rw [rowsFl_len, rowsFl_len]; unfold lim; omega)
            rw [rowsFl_app, ← hN] at a1
            refine go1 (jn @l2 (jn @t2 (jn @f2 (jn @a1 @r6)))) ?_
            exact ⟨19 - (i + 1), by omega, i + 1, _, hi1, hG2, by rw [hV]; exact hw, rfl, rfl⟩
          · have hi1 : i = 19 := by have := of_decide_eq_false hc; omega
            subst hi1
            refine go0 ?_
            exact leaves_two rfl rfl rfl (growsA_fin hG)
      · cases h
    · cases h
  · cases h
def Rc.sound (R : Rc) : Bool := R.may && ((((R.flaws).length : Nat) : Int) == 0)
def soundG : List AV → Mem → Option (AV × Mem)
  | [.agg cs], m =>
    match unRc cs with
    | some R => if R.fit then some (.v (.bool R.sound), m) else none
    | none => none
  | _, _ => none
theorem soundG_at (R : Rc) (m : Mem) (h : R.fit) : soundG [.agg R.row] m = some (.v (.bool R.sound), m) := by
  simp only [soundG, unRc_row]
  rw [if_pos h]
def kpSound : Nat → Option (List Nat) := fun
  | 0 => some [1]
  | 1 => some [3, 4]
  | 2 => some [2]
  | _ => none
attribute [go_sem] kpSound
def tab_sound_ok : List (FuncId × (List AV → Mem → Option (AV × Mem))) := [(11, checkOfG)]
theorem sound_ok : FunOk Tryz.prog 12 soundG := by
  have hC := table_ok (P := Tryz.prog) (l := tab_sound_ok) (table_more checkOf_ok table_nil)
  have t1 := fun args mm => table_at (l := tab_sound_ok) (f := 11) (args := args) (m := mm) rfl
  refine fun_ok mixed hC Tryz.func12 rfl kpSound false rfl fun args m r h => ?_
  unfold soundG at h
  split at h
  · rename_i cs
    split at h
    · rename_i R hR
      obtain rfl := unRc_some hR
      split at h
      · rename_i hfit
        simp only [Option.some.injEq] at h
        subst h
        refine ⟨Nat.le_of_ble_eq_true rfl, ?_⟩
        simp only [entry, List.length_cons, List.length_nil, List.range, List.range.loop, List.zip_cons_cons, List.zip_nil_right]
        have l1 := vrRc (x := R) (push_var (m := m))
        have f1 := fun mm => checkOfG_at R mm hfit
        unfold Rc.sound
        cases hm : R.may with
        | false =>
          rw [hm, show (if false = true then (0 : Int) else 1) = 1 from rfl] at f1
          have b1 : ((1 : Int) == 0) = false := rfl
          refine go1 (jn @l1 (jn @t1 (jn @f1 @b1))) ?_
          exact leaves_fin rfl rfl fin_push
        | true =>
          rw [hm, show (if true = true then (0 : Int) else 1) = 0 from rfl] at f1
          have b1 : ((0 : Int) == 0) = true := rfl
          refine go1 (jn @l1 (jn @t1 (jn @f1 @b1))) ?_
          exact leaves_fin rfl rfl fin_push
      · cases h
    · cases h
  · cases h
end Go.Proofs.YtojaokhkbmiidaaGreat.Ev

namespace Go.Proofs.YtojaokhkbmiidaaGreat.Ev
open Go Go.Proofs
set_option maxRecDepth 10000
set_option maxHeartbeats 8000000
set_option linter.unusedVariables false
set_option linter.unusedSimpArgs false
attribute [local irreducible] Next Inside Runs Ops table
attribute [local go_sem] szStr szInt Option.getD_some isNil evStr loadStr loadInt mapRc cellsRc newRc fpRcPhases fpRcSwa fpRcSwaOn fpRcSwaFrom rowsPh_len rowsGs_len rowsN_len fePhLen lePhLen fePhSets lePhSets feGsNodes leGsNodes iv
theorem feNdLen {x : Nd} : evFieldAddr Tryz.prog 102 (.eptr x.row) 5 = some (.eptr [iv x.u, iv x.n]) := by kernel_rfl
attribute [local go_sem] feNdLen
theorem leNdLen {m : Mem} {u n : Int} : evLoad Tryz.prog m 33 (.eptr [.v (.int .i64 u), .v (.int .i64 n)]) = some (.agg [.v (.int .i64 u), .v (.int .i64 n)]) := by kernel_rfl
attribute [local go_sem] leNdLen
theorem mkLn0 : evBuildSlice Tryz.prog 151 0 [] = some (.lst .full 2 []) := build_nil appLn
attribute [local go_sem] mkLn0
theorem mkLn1 {u n : Int} : evBuildSlice Tryz.prog 151 1 [(0, .agg [.v (.int .i64 u), .v (.int .i64 n)])] = some (.lst .full 2 [[.v (.int .i64 u), .v (.int .i64 n)]]) := build_rows appLn rfl rfl (by decide)
attribute [local go_sem] mkLn1
def setLens (s : Gs) : List Ln := s.nodes.map fun x => ⟨x.u, x.n⟩
def phLens (p : Ph) : List Ln := ⟨p.lenU, p.lenN⟩ :: p.sets.flatMap setLens
def Rc.lens (R : Rc) : List Ln := R.phases.flatMap phLens ++ (if R.swaOn then [⟨R.swaFromU, R.swaFromN⟩] else [])
theorem flat_len {α β : Type} {f : α → List β} {c : Nat} : ∀ (l : List α), (∀ x ∈ l, (f x).length ≤ c) → (l.flatMap f).length ≤ l.length * c
  | [], _ => by simp
  | x :: l, h => by
    have h1 := h x (List.mem_cons_self ..)
    have h2 := flat_len l fun y hy => h y (List.mem_cons_of_mem _ hy)
    rw [List.flatMap_cons, List.length_append, List.length_cons, Nat.add_mul]
    omega
theorem setLens_len {s : Gs} (h : s.nodes.length ≤ 100) : (setLens s).length ≤ 100 := by unfold setLens; rw [List.length_map]; exact h
theorem take_len {α β : Type} {f : α → List β} {c : Nat} {l : List α} {i : Nat} (h : ∀ x ∈ l, (f x).length ≤ c) (hi : i ≤ l.length) : ((l.take i).flatMap f).length ≤ i * c := by
  have := flat_len (l.take i) fun x hx => h x (List.mem_of_mem_take hx)
  rw [List.length_take, Nat.min_eq_left hi] at this
  exact this
theorem phLens_len {R : Rc} (h : R.small) : ∀ p ∈ R.phases, (phLens p).length ≤ 6401 := fun p hp => by
  have := h.2.2.2 p hp
  have h2 := flat_len (f := setLens) p.sets fun s hs => setLens_len (this.2.2 s hs)
  have h3 := Nat.mul_le_mul_right 100 this.2.1
  unfold phLens
  rw [List.length_cons]
  omega
theorem rowsLn1 {u n : Int} : ([[.v (.int .i64 u), .v (.int .i64 n)]] : List (List AV)) = rowsLn [⟨u, n⟩] := rfl
def lensG : List AV → Mem → Option (AV × Mem)
  | [.agg cs], m =>
    match unRc cs with
    | some R => if R.small then some (.lst .no 2 (rowsLn R.lens), m) else none
    | none => none
  | _, _ => none
theorem lensG_at (R : Rc) (m : Mem) (h : R.small) : lensG [.agg R.row] m = some (.lst .no 2 (rowsLn R.lens), m) := by
  simp only [lensG, unRc_row]
  rw [if_pos h]
theorem app_ln {m m' : Mem} {g g2 : Grow} (hG : GrowsA m g m') (xs : List Ln) (u n : Int) (hl : xs.length ≤ 1000000) :
    ∃ g' m'', evAppend Tryz.prog 151 151 m' (.lst g 2 (rowsLn xs)) (.lst g2 2 [[.v (.int .i64 u), .v (.int .i64 n)]]) = some (.lst g' 2 (rowsLn (xs ++ [⟨u, n⟩])), m'') ∧ GrowsA m g' m'' ∧ ∀ q, m''.var q = m'.var q := by
  have := app_growsV appLn hG (y := .lst g2 2 [[.v (.int .i64 u), .v (.int .i64 n)]]) asList_lst (xs := rowsLn xs) (by rw [rowsLn_len]; unfold lim; simp; omega)
  rwa [rowsLn1, rowsLn_app] at this
def kpLens20 : Nat → Option (List Nat) := fun
  | 0 => some [1]
  | 1 => some [1, 3]
  | 2 => some [1, 3, 4]
  | 3 => some [1, 3, 4, 12]
  | 4 => some [1, 3, 4]
  | 5 => some [1, 3, 4]
  | 6 => some [1, 3, 4, 5]
  | 7 => some [1, 3, 4, 5, 32]
  | 8 => some [1, 3, 4, 5]
  | 9 => some [1, 3, 4, 5, 6]
  | 10 => some [1, 3, 4, 5, 6, 47]
  | 11 => some [1, 3, 4, 5, 6]
  | 12 => some [1, 3, 4, 5, 6]
  | 13 => some [1, 3, 69]
  | 14 => some [3]
  | 15 => some [2]
  | _ => none
attribute [go_sem] kpLens20
theorem lens_ok : FunOk Tryz.prog 138 lensG := by
  have hC := table_ok (P := Tryz.prog) (l := []) table_nil
  refine fun_ok mixed hC Tryz.func138 rfl kpLens20 false rfl fun args m r h => ?_
  unfold lensG at h
  split at h
  · rename_i cs
    split at h
    · rename_i R hR
      obtain rfl := unRc_some hR
      split at h
      · rename_i hsm
        simp only [Option.some.injEq] at h
        subst h
        have hP64 := hsm.2.2.1
        refine ⟨Nat.le_of_ble_eq_true rfl, ?_⟩
        simp only [entry, List.length_cons, List.length_nil, List.range, List.range.loop, List.zip_cons_cons, List.zip_nil_right]
        have hv : (m.push R.row).var m.vars.length = some R.row := push_var
        have hG0 : GrowsA m .full (m.push R.row) := growsA_push growsA_full
        refine go0 ?_
        refine runs_loop (fun k e m' => ∃ (i : Nat) (gr : Grow), i ≤ R.phases.length ∧ GrowsA m gr m' ∧ m'.var m.vars.length = some R.row ∧ k = R.phases.length - i ∧
          e = [(1, AV.ptr m.vars.length 0), (3, .lst gr 2 (rowsLn ((R.phases.take i).flatMap phLens))), (4, .v (.int .i64 (i : Int)))]) (k := R.phases.length) ⟨0, _, Nat.zero_le _, hG0, hv, rfl, rfl⟩ ?_
        rintro k e m' ⟨i, gr, hi0, hG, hw, rfl, rfl⟩
        have l1 := lpRcPhases hw
        refine go1 @l1 ?_
        refine runs_cond rfl (fun hc => ?_) (fun hc => ?_)
        · have hi1 : i < R.phases.length := by have := of_decide_eq_true hc; omega
          have f2 := atPh (g := .no) (kk := .i64) hi1
          have hp := hsm.phase i
          have hN := flat_next (f := phLens) (d := ph0) hi1
          have hB := take_len (phLens_len hsm) hi0
          have hph : phLens (R.phases.getD i ph0) = ⟨(R.phases.getD i ph0).lenU, (R.phases.getD i ph0).lenN⟩ :: (R.phases.getD i ph0).sets.flatMap setLens := rfl
          generalize R.phases.getD i ph0 = p at f2 hp hN hph
          generalize (R.phases.take i).flatMap phLens = acc at hG hN hB
          obtain ⟨g1, m1, a1, hG1, hV1⟩ := app_ln (g2 := .full) hG acc p.lenU p.lenN (by omega)
          have hw1 : m1.var m.vars.length = some R.row := by rw [hV1]; exact hw
          refine go1 (jn @l1 (jn @f2 @a1)) ?_
          refine runs_loop (fun k e m' => ∃ (j : Nat) (gr : Grow), j ≤ p.sets.length ∧ GrowsA m gr m' ∧ m'.var m.vars.length = some R.row ∧ k = p.sets.length - j ∧
            e = [(1, AV.ptr m.vars.length 0), (3, .lst gr 2 (rowsLn (acc ++ [⟨p.lenU, p.lenN⟩] ++ (p.sets.take j).flatMap setLens))), (4, .v (.int .i64 (i : Int))), (5, .v (.int .i64 (j : Int)))]) (k := p.sets.length) ⟨0, _, Nat.zero_le _, hG1, hw1, rfl, by rw [List.take_zero, List.flatMap_nil, List.append_nil]; rfl⟩ ?_
          rintro k e m2 ⟨j, gr2, hj0, hG2, hw2, rfl, rfl⟩
          have l2 := lpRcPhases hw2
          refine go1 (jn @l2 @f2) ?_
          refine runs_cond rfl (fun hc => ?_) (fun hc => ?_)
          · have hj1 : j < p.sets.length := by have := of_decide_eq_true hc; omega
            have f3 := atGs (g := .no) (kk := .i64) hj1
            have hN2 := flat_next (f := setLens) (d := gs0) hj1
            have hB2 := take_len (fun s hs => setLens_len (hp.2.2 s hs)) hj0
            have hs : (p.sets.getD j gs0).nodes.length ≤ 100 := hp.2.2 _ (by rw [List.getD, List.getElem?_eq_getElem hj1]; exact List.getElem_mem _)
            have hse : setLens (p.sets.getD j gs0) = (p.sets.getD j gs0).nodes.map fun x => ⟨x.u, x.n⟩ := rfl
            generalize p.sets.getD j gs0 = s at f3 hN2 hs hse
            generalize (p.sets.take j).flatMap setLens = acc2 at hG2 hN2 hB2
            have hp2 := hp.2.1
            refine go0 ?_
            refine runs_loop (fun k e m' => ∃ (t : Nat) (gr : Grow), t ≤ s.nodes.length ∧ GrowsA m gr m' ∧ m'.var m.vars.length = some R.row ∧ k = s.nodes.length - t ∧
              e = [(1, AV.ptr m.vars.length 0), (3, .lst gr 2 (rowsLn (acc ++ [⟨p.lenU, p.lenN⟩] ++ acc2 ++ (s.nodes.take t).map fun x => ⟨x.u, x.n⟩))), (4, .v (.int .i64 (i : Int))), (5, .v (.int .i64 (j : Int))), (6, .v (.int .i64 (t : Int)))]) (k := s.nodes.length) ⟨0, _, Nat.zero_le _, hG2, hw2, rfl, by rw [List.take_zero, List.map_nil, List.append_nil]; rfl⟩ ?_
            rintro k e m3 ⟨t, gr3, ht0, hG3, hw3, rfl, rfl⟩
            have l3 := lpRcPhases hw3
            refine go1 (jn @l3 (jn @f2 @f3)) ?_
            refine runs_cond rfl (fun hc => ?_) (fun hc => ?_)
            · have ht1 : t < s.nodes.length := by have := of_decide_eq_true hc; omega
              have f4 := atNodes (g := .no) (kk := .i64) ht1
              have hN3 : (s.nodes.take (t + 1)).map (fun x => (⟨x.u, x.n⟩ : Ln)) = (s.nodes.take t).map (fun x => ⟨x.u, x.n⟩) ++ [⟨(s.nodes.getD t nd0).u, (s.nodes.getD t nd0).n⟩] := by rw [take_next (d := nd0) ht1, List.map_append]; rfl
              have hB3 : ((s.nodes.take t).map (fun x => (⟨x.u, x.n⟩ : Ln))).length ≤ 100 := by rw [List.length_map, List.length_take]; omega
              generalize s.nodes.getD t nd0 = x at f4 hN3
              generalize (s.nodes.take t).map (fun x => (⟨x.u, x.n⟩ : Ln)) = acc3 at hG3 hN3 hB3
              obtain ⟨g4, m4, a4, hG4, hV4⟩ := app_ln (g2 := .full) hG3 (acc ++ [⟨p.lenU, p.lenN⟩] ++ acc2 ++ acc3) x.u x.n (by simp only [List.length_append, List.length_cons, List.length_nil]; omega)
              have r6 := next_i64 (i := t) (by omega)
              refine go1 (jn @l3 (jn @f2 (jn @f3 (jn @f4 (jn @a4 @r6))))) ?_
              exact ⟨s.nodes.length - (t + 1), by omega, t + 1, _, ht1, hG4, by rw [hV4]; exact hw3, rfl, by rw [hN3, ← List.append_assoc]⟩
            · have ht1 : t = s.nodes.length := by have := of_decide_eq_false hc; omega
              subst ht1
              have r6 := next_i64 (i := j) (by omega)
              rw [List.take_length, ← hse, List.append_assoc _ acc2, ← hN2]
              refine go1 @r6 ?_
              exact ⟨p.sets.length - (j + 1), by omega, j + 1, _, hj1, hG3, hw3, rfl, rfl⟩
          · have hj1 : j = p.sets.length := by have := of_decide_eq_false hc; omega
            subst hj1
            have r6 := next_i64 (i := i) (by omega)
            rw [List.take_length, List.append_assoc acc, List.singleton_append, ← hph, ← hN]
            refine go1 @r6 ?_
            exact ⟨R.phases.length - (i + 1), by omega, i + 1, _, hi1, hG2, hw2, rfl, rfl⟩
        · have hi1 : i = R.phases.length := by have := of_decide_eq_false hc; omega
          subst hi1
          rw [List.take_length]
          have hB := flat_len R.phases (phLens_len hsm)
          have y1 := lpRcSwaOn hw
          have y2 := lpRcSwaFrom hw
          unfold Rc.lens
          cases hq : R.swaOn with
          | true =>
            obtain ⟨g4, m4, a4, hG4, hV4⟩ := app_ln (g2 := .full) hG (R.phases.flatMap phLens) R.swaFromU R.swaFromN (by omega)
            repeat' (first | refine gos1 (jn @y1 (jn @hq (jn @y2 @a4))) ?_ | (refine ops_here ?_; (fail_if_success (refine ops_case (B := true) rfl rfl rfl ?_ ?_)); (fail_if_success (refine ops_case (B := false) rfl rfl rfl ?_ ?_)); refine ops_case rfl rfl rfl (fun hB => ?_) (fun hB => ?_) <;> rw [hB]) | (refine runs_here ?_; refine runs_cond rfl (fun hc => ?_) (fun hc => ?_) <;> first | (cases hc; done) | skip))
            exact leaves_lst rfl rfl (growsA_fin hG4)
          | false =>
            rw [if_neg (by decide), List.append_nil]
            repeat' (first | refine gos1 (jn @y1 @hq) ?_ | (refine ops_here ?_; (fail_if_success (refine ops_case (B := true) rfl rfl rfl ?_ ?_)); (fail_if_success (refine ops_case (B := false) rfl rfl rfl ?_ ?_)); refine ops_case rfl rfl rfl (fun hB => ?_) (fun hB => ?_) <;> rw [hB]) | (refine runs_here ?_; refine runs_cond rfl (fun hc => ?_) (fun hc => ?_) <;> first | (cases hc; done) | skip))
            exact leaves_lst rfl rfl (growsA_fin hG)
      · cases h
    · cases h
  · cases h
end Go.Proofs.YtojaokhkbmiidaaGreat.Ev

namespace Go.Proofs.YtojaokhkbmiidaaGreat.Ev
open Go Go.Proofs
set_option maxRecDepth 10000
set_option maxHeartbeats 8000000
set_option linter.unusedVariables false
set_option linter.unusedSimpArgs false
attribute [local irreducible] Next Inside Runs Ops table
theorem endW_all9 : ∀ (xs : List Nd) (k p : Nat), (∀ x ∈ xs, x.op = 9) → endW xs (k + 1) p = -1
  | [], k, p, _ => rfl
  | x :: r, k, p, h => by
    have hx := h x (List.mem_cons_self ..)
    have ha : arityOf x.op = 2 := by rw [hx]; rfl
    rw [endW, ha, if_neg (by omega)]
    have := endW_all9 r (k + 1) (p + 1) fun y hy => h y (List.mem_cons_of_mem _ hy)
    first | exact this | (rw [show k + (2 : Int).toNat = k + 1 + 1 from rfl]; exact this)
theorem any_badN {l : List Nd} (h : l.any badN = false) {x : Nd} (hx : x ∈ l) : mayN x := by
  have := List.any_eq_false.1 h x hx
  simpa [badN] using this
theorem checkT_parts {l : List Nd} (h : checkT l = 0) : 0 < l.length ∧ l.length ≤ 64 ∧ endOf l 0 = (l.length : Int) ∧ ∀ x ∈ l, mayN x := by
  unfold checkT at h
  split at h
  · cases h
  · split at h
    · cases h
    · split at h
      · cases h
      · rename_i h1 h2 h3
        have hw : wholeB l = true := by
          cases hw : wholeB l with
          | true => rfl
          | false => exact absurd (.inl hw) h2
        have hb : l.any badN = false := by
          cases hb : l.any badN with
          | false => rfl
          | true => exact absurd (.inr hb) h2
        unfold wholeB at hw
        simp only [Bool.and_eq_true, decide_eq_true_eq] at hw
        exact ⟨hw.1.1, hw.1.2, hw.2, fun x hx => any_badN hb hx⟩
theorem nums_ends {l : List Nd} (h : ∀ x ∈ l, mayN x) : l.flatMap numsN = l.flatMap endsN := by
  induction l with
  | nil => rfl
  | cons x l ih =>
    rw [List.flatMap_cons, List.flatMap_cons, ih fun y hy => h y (List.mem_cons_of_mem _ hy)]
    have hx := h x (List.mem_cons_self ..)
    unfold mayN at hx
    rw [numsN_ends ⟨hx.1, hx.2.1⟩]
theorem endsN_in {x : Nd} (h : mayN x) : ∀ y ∈ endsN x, 0 ≤ y ∧ y ≤ 4503599627370496 := by
  unfold mayN inQ at h
  intro y hy
  unfold endsN at hy
  split at hy
  · simp at hy
  · split at hy
    · simp at hy; omega
    · split at hy
      · simp at hy; omega
      · simp at hy; omega
theorem endsN_some {x : Nd} (h : x.op ≠ 9) : x.a ∈ endsN x := by
  unfold endsN
  rw [if_neg h]
  split <;> (try split) <;> simp
theorem nums_some {l : List Nd} (h : checkT l = 0) : ∃ y, y ∈ l.flatMap endsN := by
  obtain ⟨h0, h64, he, hm⟩ := checkT_parts h
  by_cases hall : ∀ x ∈ l, x.op = 9
  · have := endW_all9 l 0 0 hall
    rw [show (0 : Int) = ((0 : Nat) : Int) from rfl, endOf_nat, List.drop_zero] at he
    rw [Nat.zero_add] at this
    omega
  · simp only [Classical.not_forall] at hall
    obtain ⟨x, hx, h9⟩ := hall
    exact ⟨x.a, List.mem_flatMap.2 ⟨x, hx, endsN_some h9⟩⟩
/-- What the law holds against the numbers. -/
theorem lohi_best {l : List Nd} (h : checkT l = 0) : (∀ y ∈ l.flatMap numsN, (endsL l).1 ≤ y ∧ y ≤ (endsL l).2) ∧ (endsL l).1 ∈ l.flatMap numsN ∧ (endsL l).2 ∈ l.flatMap numsN := by
  obtain ⟨h0, h64, he, hm⟩ := checkT_parts h
  rw [nums_ends hm, show endsL l = lohi (4503599627370496, 0) (l.flatMap endsN) from if_pos h]
  obtain ⟨⟨a1, a2, a3⟩, b1, b2, b3⟩ := lohi_spec (l.flatMap endsN) (4503599627370496, 0)
  have hin : ∀ y ∈ l.flatMap endsN, 0 ≤ y ∧ y ≤ 4503599627370496 := fun y hy => by
    obtain ⟨x, hx, hy⟩ := List.mem_flatMap.1 hy
    exact endsN_in (hm x hx) y hy
  obtain ⟨y, hy⟩ := nums_some h
  have hy2 := hin y hy
  refine ⟨fun z hz => ⟨a2 z hz, b2 z hz⟩, ?_, ?_⟩
  · rcases a3 with a3 | a3
    · have e : y = (lohi (4503599627370496, 0) (l.flatMap endsN)).1 := by have := a2 y hy; simp only at a3; omega
      rw [← e]; exact hy
    · exact a3
  · rcases b3 with b3 | b3
    · have e : y = (lohi (4503599627370496, 0) (l.flatMap endsN)).2 := by have := b2 y hy; simp only at b3; omega
      rw [← e]; exact hy
    · exact b3
def bigN (l : List Nd) : Bool := (l.flatMap numsN).any fun y => decide (y > 4294967296)
theorem high_big {l : List Nd} (h : checkT l = 0) : decide ((endsL l).2 > 4294967296) = bigN l := by
  obtain ⟨h1, _, h3⟩ := lohi_best h
  unfold bigN
  rw [Bool.eq_iff_iff]
  simp only [decide_eq_true_eq, List.any_eq_true]
  exact ⟨fun hb => ⟨_, h3, hb⟩, fun ⟨y, hy, hb⟩ => by have := (h1 y hy).2; omega⟩
theorem highS_big {s : Gs} (h : checkT s.nodes = 0) : highS s = ((s.param != 0) && bigN s.nodes) := by
  unfold highS
  rw [high_big h]
/-! ### cuts -/
theorem ops_rcut {P : Program} {call : CallF} {nt : Nat} {kp : Nat → Option (List Nat)} {ops : Array Oper} {pu : Bool} {l : List Oper} {e : Env} {m : Mem} {id : Nat} {Q : Env → Mem → Prop} (E : Env) (M : Mem)
    (h : Ops P call nt ops pu l e m fun e' m' => ∀ e2, Ev.restr (kp id) e' = e2 → e2 = E ∧ m' = M) (hk : Q E M) : Ops P call nt ops pu l e m fun e' m' => ∀ e2, Ev.restr (kp id) e' = e2 → Q e2 m' :=
  ops_cut h fun e' m' hh e2 he => by obtain ⟨a, b⟩ := hh e2 he; rw [a, b]; exact hk
/-- A cut behind a piece of code: what holds there. -/
theorem runs_icut {P : Program} {call : CallF} {nt : Nat} {kp : Nat → Option (List Nat)} {c : Code} {e : Env} {m : Mem} {Q : Ex → Env → Mem → Prop} (I : Env → Mem → Prop) (h : Runs P call nt kp c e m fun x e2 m2 => x = .normal ∧ I e2 m2) (hk : ∀ e2 m2, I e2 m2 → Q .normal e2 m2) : Runs P call nt kp c e m Q :=
  runs_mono h fun x e2 m2 ⟨h1, h2⟩ => by rw [h1]; exact hk _ _ h2
theorem firstAt_app2 (p : ByteArray → Bool) : ∀ (l1 l2 : List ByteArray) (j : Nat), firstAt p (l1 ++ l2) j = if l1.any p then firstAt p l1 j else firstAt p l2 (j + l1.length)
  | [], l2, j => by simp
  | s :: l1, l2, j => by
    rw [List.cons_append, firstAt]
    cases h : p s with
    | true => simp [firstAt, h]
    | false =>
      rw [if_neg (by simp), firstAt_app2 p l1 l2 (j + 1)]
      simp only [List.any_cons, h, Bool.false_or, List.length_cons, firstAt, Bool.false_eq_true, if_false]
      rw [show j + 1 + l1.length = j + (l1.length + 1) by omega]
theorem place_take {l : List ByteArray} {i : Nat} (hi : i < l.length) : decide (0 ≤ placeOf (l.take i) (l.getD i ⟨#[]⟩)) = decide (placeOf l (l.getD i ⟨#[]⟩) < (i : Int)) := by
  unfold placeOf
  rw [firstAt_any]
  have e : l = l.take i ++ l.drop i := (List.take_append_drop i l).symm
  have hlen : (l.take i).length = i := by rw [List.length_take]; omega
  generalize hx : l.getD i ⟨#[]⟩ = x
  have e2 : firstAt (fun y => decide (y = x)) l 0 = if (l.take i).any (fun y => decide (y = x)) then firstAt (fun y => decide (y = x)) (l.take i) 0 else (i : Int) := by
    conv => lhs; rw [e]
    rw [firstAt_app2, hlen, drop_next (d := ⟨#[]⟩) hi, hx, firstAt]
    simp
  rw [e2]
  cases h : (l.take i).any fun y => decide (y = x) with
  | true =>
    rw [if_pos rfl]
    have := (firstAt_in (fun y => decide (y = x)) (l.take i) 0).2
    rw [hlen] at this
    exact (decide_eq_true (by omega)).symm
  | false => simp
theorem place_self {l : List ByteArray} {i : Nat} (hi : i < l.length) : (!(placeOf l (l.getD i ⟨#[]⟩) == (i : Int))) = decide (placeOf l (l.getD i ⟨#[]⟩) < (i : Int)) := by
  have hle : placeOf l (l.getD i ⟨#[]⟩) ≤ (i : Int) := by
    unfold placeOf
    have e : l = l.take i ++ l.drop i := (List.take_append_drop i l).symm
    have hlen : (l.take i).length = i := by rw [List.length_take]; omega
    generalize hx : l.getD i ⟨#[]⟩ = x
    have e2 : firstAt (fun y => decide (y = x)) l 0 = if (l.take i).any (fun y => decide (y = x)) then firstAt (fun y => decide (y = x)) (l.take i) 0 else (i : Int) := by
      conv => lhs; rw [e]
      rw [firstAt_app2, hlen, drop_next (d := ⟨#[]⟩) hi, hx, firstAt]
      simp
    rw [e2]
    split
    · have := (firstAt_in (fun y => decide (y = x)) (l.take i) 0).2
      rw [hlen] at this
      omega
    · omega
  rw [Bool.eq_iff_iff]
  simp only [Bool.not_eq_true', beq_eq_false_iff_ne, decide_eq_true_eq]
  omega
theorem place_any {l : List ByteArray} {i : Nat} (hi : i < l.length) : (l.take i).any (fun y => decide (y = l.getD i ⟨#[]⟩)) = decide (placeOf l (l.getD i ⟨#[]⟩) < (i : Int)) := by
  rw [← place_take hi]
  exact (firstAt_any _ _ 0).symm
theorem runs_xcut {P : Program} {call : CallF} {nt : Nat} {kp : Nat → Option (List Nat)} {c : Code} {e : Env} {m : Mem} {Q : Ex → Env → Mem → Prop} (x0 : Ex) (I : Env → Mem → Prop) (h : Runs P call nt kp c e m fun x e2 m2 => x = x0 ∧ I e2 m2) (hk : ∀ e2 m2, I e2 m2 → Q x0 e2 m2) : Runs P call nt kp c e m Q :=
  runs_mono h fun x e2 m2 ⟨h1, h2⟩ => by rw [h1]; exact hk _ _ h2
end Go.Proofs.YtojaokhkbmiidaaGreat.Ev

namespace Go.Proofs.YtojaokhkbmiidaaGreat.Ev
open Go Go.Proofs
set_option maxRecDepth 10000
set_option maxHeartbeats 8000000
set_option linter.unusedVariables false
set_option linter.unusedSimpArgs false
attribute [local irreducible] Next Inside Runs Ops table
attribute [local go_sem] szStr szInt Option.getD_some isNil evStr iv loadStr loadInt mapRc cellsRc newRc fpRcPhases fpRcGroups rowsPh_len rowsGs_len rowsN_len rowsI_len ldPh ldGs ldNode cellsPh cellsGs cellsNd zrPh zoPh znPh zsPh zrGs zoGs znGs zsGs fpPhSets fpPhFrozen fpGsGroup fpGsParam fpGsNodes fpNdOp fpNdA fpNdB fpNdK feGsParam leGsParam leGsGroup feGsGroup
def zeroNd : List AV := [.v (.int .i64 0), .v (.int .i64 0), .v (.int .i64 0), .v (.int .i64 0), .v (.int .i64 0), .v (.int .i64 0), .v (.int .i64 0)]
theorem zrNd : zeroCells Tryz.prog 102 = some zeroNd := by kernel_rfl
attribute [local go_sem] zrNd
theorem zoNd : zeroNd.all okCell = true := rfl
attribute [local go_sem] zoNd
theorem znNd {m : Mem} : newVar m m.vars.length zeroNd = some (m.push zeroNd) := newVar_push rfl
attribute [local go_sem] znNd
theorem zsNd {m : Mem} {x : Nd} : evStore Tryz.prog (m.push zeroNd) 102 (.ptr m.vars.length 0) (.agg x.row) = some (m.push x.row) := by
  rw [store_push (cs := x.row) rfl szNode (Nat.le_refl _) rfl]
  rfl
attribute [local go_sem] zsNd
def Rc.setOk (R : Rc) (rule : Int) (i k : Nat) : Bool :=
  if rule = 11 then !setBad R (R.phases.getD i ph0) k else
  if rule = 13 then !((((R.phases.getD i ph0).sets.getD k gs0).param != 0) && bigN ((R.phases.getD i ph0).sets.getD k gs0).nodes) else
  !bentS ((R.phases.getD i ph0).sets.getD k gs0)
def setOkG : List AV → Mem → Option (AV × Mem)
  | [.agg cs, .v (.int .i64 rule), .v (.int .i64 i), .v (.int .i64 k)], m =>
    match unRc cs with
    | some R => if R.small ∧ (rule = 11 ∨ rule = 12 ∨ rule = 13) ∧ 0 ≤ i ∧ i < (R.phases.length : Int) ∧ 0 ≤ k ∧ k < ((R.phases.getD i.toNat ph0).sets.length : Int) then some (.v (.bool (R.setOk rule i.toNat k.toNat)), m) else none
    | none => none
  | _, _ => none
theorem setOkG_at {R : Rc} {m : Mem} {rule : Int} {i k : Nat} (h : R.small) (h1 : rule = 11 ∨ rule = 12 ∨ rule = 13) (h2 : i < R.phases.length) (h3 : k < (R.phases.getD i ph0).sets.length) : setOkG [.agg R.row, .v (.int .i64 rule), .v (.int .i64 (i : Int)), .v (.int .i64 (k : Int))] m = some (.v (.bool (R.setOk rule i k)), m) := by
  simp only [setOkG, unRc_row]
  rw [if_pos ⟨h, h1, by omega, by omega, by omega, by rw [Int.toNat_natCast]; omega⟩, Int.toNat_natCast, Int.toNat_natCast]
theorem among_place (l : List ByteArray) (s : ByteArray) : decide (placeOf l s ≥ 0) = among l s := place_in l s
theorem place_neg (l : List ByteArray) (s : ByteArray) : decide (placeOf l s < 0) = !among l s := by
  rw [← place_in, Bool.eq_iff_iff]
  simp only [decide_eq_true_eq, Bool.not_eq_true', decide_eq_false_iff_not]
  omega
def keyB (s x : Gs) : Bool := (x.group == s.group) && (x.param == s.param)
theorem dup_by {l : List Gs} {k : Nat} : dupAt l k = decide (0 ≤ firstBy (keyB (l.getD k gs0)) (l.take k) 0) := by
  rw [firstBy_any]
  unfold dupAt cnt
  rw [Bool.eq_iff_iff]
  simp only [decide_eq_true_eq, List.length_pos_iff_exists_mem, List.mem_filter, List.any_eq_true, keyB, Bool.and_eq_true, bytes_same, beq_iff_eq, keyOf, Prod.mk.injEq]
theorem bentN_ops (x : Nd) : bentN x = ((((x.op == 3) || (x.op == 7)) && (decide (x.k < 1) || decide (x.k > 16))) || ((x.op == 4) && (decide (x.b > x.a) || decide (x.k > 4294967296)))) := by
  unfold bentN
  rw [Bool.eq_iff_iff]
  split
  · rename_i h
    simp only [Bool.not_eq_true', decide_eq_false_iff_not, Bool.or_eq_true, Bool.and_eq_true, beq_iff_eq, decide_eq_true_eq]
    omega
  · split
    · simp only [Bool.or_eq_true, Bool.and_eq_true, beq_iff_eq, decide_eq_true_eq]
      omega
    · rename_i h1 h2
      have a3 : ¬ x.op = 3 := fun h => h1 (.inl h)
      have a7 : ¬ x.op = 7 := fun h => h1 (.inr h)
      simp only [Bool.false_eq_true, Bool.or_eq_true, Bool.and_eq_true, beq_iff_eq, a3, a7, h2, false_or, false_and]
theorem firstBy_no {α : Type} {p : α → Bool} {l : List α} (h : firstBy p (l.drop l.length) l.length = firstBy p l 0) : l.any p = false := by
  rw [← firstBy_any p l 0, by_end h]
  rfl
theorem firstBy_yes {α : Type} {d : α} {p : α → Bool} {l : List α} {i : Nat} (hi : i < l.length) (hp : p (l.getD i d) = true) : l.any p = true := by
  rw [List.any_eq_true]
  refine ⟨_, ?_, hp⟩
  rw [List.getD, List.getElem?_eq_getElem hi]
  exact List.getElem_mem _
def kpSet20 : Nat → Option (List Nat) := fun
  | 0 => some [1, 2, 3, 4]
  | 1 => some [1, 3, 4, 9]
  | 2 => some [1, 3, 4, 9, 10]
  | 3 => some [1, 3, 4, 9, 10, 27]
  | 4 => some [3, 4, 9, 10, 11]
  | 5 => some [3, 4, 9, 10, 11, 30]
  | 6 => some [3, 4, 9, 10, 11]
  | 7 => some [3, 4, 9, 10, 11, 52]
  | 8 => some [8]
  | 9 => some [8]
  | 10 => some [10, 68]
  | 11 => some [10, 12]
  | 12 => some [10, 12, 13]
  | 13 => some [10, 12, 13, 80]
  | 14 => some [10, 12, 13]
  | 15 => some [10, 12, 13, 87]
  | 16 => some [8]
  | 17 => some [8]
  | 18 => some [10, 14]
  | 19 => some [10, 14, 92]
  | 20 => some [10, 14]
  | 21 => some [10, 14, 15]
  | 22 => some [10, 14, 134]
  | 23 => some [8]
  | 24 => some [8]
  | _ => none
attribute [go_sem] kpSet20
def tab_set20_ok : List (FuncId × (List AV → Mem → Option (AV × Mem))) := [(93, placeG), (116, numsG)]
theorem set20_ok : FunOk Tryz.prog 101 setOkG := by
  have hC := table_ok (P := Tryz.prog) (l := tab_set20_ok) (table_more refPlace_ok (table_more nums_ok table_nil))
  have t1 := fun args mm => table_at (l := tab_set20_ok) (f := 93) (args := args) (m := mm) rfl
  have t2 := fun args mm => table_at (l := tab_set20_ok) (f := 116) (args := args) (m := mm) rfl
  refine fun_ok mixed hC Tryz.func101 rfl kpSet20 false rfl fun args m r h => ?_
  unfold setOkG at h
  split at h
  · rename_i cs rule i0 k0
    split at h
    · rename_i R hR
      obtain rfl := unRc_some hR
      split at h
      · rename_i hyp
        obtain ⟨hsm, hrule, hi0, hi1, hk0, hk1⟩ := hyp
        obtain ⟨i, rfl⟩ := Int.eq_ofNat_of_zero_le hi0
        obtain ⟨k, rfl⟩ := Int.eq_ofNat_of_zero_le hk0
        simp only [Int.toNat_natCast] at hk1 h
        simp only [Option.some.injEq] at h
        subst h
        refine ⟨Nat.le_of_ble_eq_true rfl, ?_⟩
        simp only [entry, List.length_cons, List.length_nil, List.range, List.range.loop, List.zip_cons_cons, List.zip_nil_right]
        have hi : i < R.phases.length := by omega
        have hk : k < (R.phases.getD i ph0).sets.length := by omega
        have hP64 := hsm.2.2.1
        have hG64 := hsm.2.1
        have hp := hsm.phase i
        have hA := above_push (cs := R.row) (above_self m)
        have hv : (m.push R.row).var m.vars.length = some R.row := push_var
        have f1 := atPh (g := .no) (kk := .i64) hi
        have l1 := lpRcPhases hv
        have nr := newRc (m := m) (x := R)
        generalize m.push R.row = m1 at hA hv l1 nr
        have hok : R.setOk rule i k = if rule = 11 then !setBad R (R.phases.getD i ph0) k else if rule = 13 then !((((R.phases.getD i ph0).sets.getD k gs0).param != 0) && bigN ((R.phases.getD i ph0).sets.getD k gs0).nodes) else !bentS ((R.phases.getD i ph0).sets.getD k gs0) := rfl
        generalize R.phases.getD i ph0 = p at f1 hk hp hok
        have z1 := zsPh (m := m1) (x := p)
        have z2 := znPh (m := m1)
        have hA2 := above_push (cs := p.row) hA
        have hv2 := push_old (cs' := p.row) hv
        have hp2 : (m1.push p.row).var m1.vars.length = some p.row := push_var
        have l2 := lpPhSets hp2
        have f2 := atGs (g := .no) (kk := .i64) hk
        generalize m1.push p.row = m2 at z1 hA2 hv2 hp2 l2
        have hs : (p.sets.getD k gs0).nodes.length ≤ 100 := hp.2.2 _ (by rw [List.getD, List.getElem?_eq_getElem hk]; exact List.getElem_mem _)
        have hdup := dup_by (l := p.sets) (k := k)
        have hbad : setBad R p k = (!among R.groups (p.sets.getD k gs0).group || (among p.frozen (p.sets.getD k gs0).group || dupAt p.sets k)) := rfl
        rw [hbad, hdup] at hok
        clear hbad hdup
        generalize p.sets.getD k gs0 = s at f2 hs hok
        have z3 := zsGs (m := m2) (x := s)
        have z4 := znGs (m := m2)
        have hA3 := above_push (cs := s.row) hA2
        have hv3 := push_old (cs' := s.row) hv2
        have hp3 := push_old (cs' := s.row) hp2
        have hs3 : (m2.push s.row).var m2.vars.length = some s.row := push_var
        generalize m2.push s.row = m3 at z3 hA3 hv3 hp3 hs3
        have g1 := lpPhSets hp3
        have g2 := lpPhFrozen hp3
        have g3 := lpGsGroup hs3
        have g4 := lpGsParam hs3
        have g5 := lpGsNodes hs3
        have g6 := lpRcGroups hv3
        have yes11 : ∀ j : Nat, j < k → j < p.sets.length := fun j hj => by omega
        have hp2' := hp.2.1
        generalize hD : decide (0 ≤ firstBy (keyB s) (p.sets.take k) 0) = D at hok
        rw [hok]
        rcases hrule with rfl | rfl | rfl
        · rw [if_pos rfl]
          have b11 : ((11 : Int) == 11) = true := rfl
          refine go1 (jn @nr (jn @l1 (jn @f1 (jn @z2 (jn @z1 (jn @l2 (jn @f2 (jn @z4 (jn @z3 @b11))))))))) ?_
          refine runs_cond rfl (fun hc => ?_) (fun hc => by cases hc)
          refine go0 ?_
          have hlen : (p.sets.take k).length = k := by rw [List.length_take]; omega
          refine runs_loop (fun kk e m' => ∃ (j : Nat), j ≤ k ∧ firstBy (keyB s) ((p.sets.take k).drop j) j = firstBy (keyB s) (p.sets.take k) 0 ∧ m3 = m' ∧ kk = k - j ∧
            e = [(3, .v (.int .i64 (k : Int))), (4, AV.ptr m.vars.length 0), (9, .ptr m1.vars.length 0), (10, .ptr m2.vars.length 0), (11, .v (.int .i64 (j : Int)))]) (k := k) ⟨0, Nat.zero_le _, rfl, rfl, rfl, rfl⟩ ?_
          rintro kk e m' ⟨j, hj0, hf, rfl, rfl, rfl⟩
          refine go0 ?_
          refine runs_cond rfl (fun hc => ?_) (fun hc => ?_)
          · have hj1 : j < k := by have := of_decide_eq_true hc; omega
            have f3 := atGs (g := .no) (kk := .i64) (yes11 j hj1)
            have hj2 : j < (p.sets.take k).length := by omega
            have hget : (p.sets.take k).getD j gs0 = p.sets.getD j gs0 := by simp [List.getD, List.getElem?_take, hj1]
            have hyes := fun hp => by_yes (d := gs0) hj2 hp hf
            have hno := fun hp => by_no (d := gs0) hj2 hp hf
            rw [hget] at hyes hno
            have r6 := next_i64 (i := j) (by omega)
            generalize p.sets.getD j gs0 = x at f3 hyes hno
            have hkey : keyB s x = ((x.group == s.group) && (x.param == s.param)) := rfl
            refine go0 ?_
            refine runs_ops_drawn_kept (by kernel_rfl) ?_
            cases ha : (x.group == s.group) with
            | false =>
              have hn := hno (by rw [hkey, ha]; rfl)
              refine go1 (jn @g1 (jn @f3 (jn @g3 @ha))) ?_
              refine runs_cond rfl (fun hc => by cases hc) (fun hc => ?_)
              refine go1 @r6 ?_
              exact ⟨k - (j + 1), by omega, j + 1, hj1, hn, rfl, rfl, rfl⟩
            | true =>
              cases hb : (x.param == s.param) with
              | false =>
                have hn := hno (by rw [hkey, ha, hb]; rfl)
                refine go1 (jn @g1 (jn @f3 (jn @g3 (jn @g4 (jn @ha @hb))))) ?_
                refine runs_cond rfl (fun hc => by cases hc) (fun hc => ?_)
                refine go1 @r6 ?_
                exact ⟨k - (j + 1), by omega, j + 1, hj1, hn, rfl, rfl, rfl⟩
              | true =>
                have hy := hyes (by rw [hkey, ha, hb]; rfl)
                rw [show D = true by rw [← hD, hy]; exact decide_eq_true (by omega), Bool.or_true, Bool.or_true]
                refine go1 (jn @g1 (jn @f3 (jn @g3 (jn @g4 (jn @ha @hb))))) ?_
                refine runs_cond rfl (fun hc => ?_) (fun hc => by cases hc)
                refine go0 ?_
                exact leaves_fin rfl rfl (above_fin hA3)
          · have hj1 : j = k := by have := of_decide_eq_false hc; omega
            subst hj1
            rw [show D = false by rw [← hD, by_end (by rw [hlen]; exact hf)]; rfl, Bool.or_false]
            have c1 := fun mm => placeG_eq (m := mm) (g := .no) (s := s.group) (show R.groups.length ≤ 9223372036854775807 by omega)
            have c2 := fun mm => placeG_eq (m := mm) (g := .no) (s := s.group) (show p.frozen.length ≤ 9223372036854775807 by omega)
            have d1 := among_place R.groups s.group
            have d2 := place_neg p.frozen s.group
            generalize placeOf R.groups s.group = q1 at c1 d1
            generalize placeOf p.frozen s.group = q2 at c2 d2
            cases ha : among R.groups s.group with
            | true =>
              rw [ha] at d1
              rw [show (!(!true || among p.frozen s.group)) = !among p.frozen s.group from by cases among p.frozen s.group <;> rfl]
              refine go1 (jn @g6 (jn @g3 (jn @t1 (jn @c1 (jn @d1 (jn @g2 (jn @c2 @d2))))))) ?_
              exact leaves_fin rfl rfl (above_fin hA3)
            | false =>
              rw [ha] at d1
              refine go1 (jn @g6 (jn @g3 (jn @t1 (jn @c1 @d1)))) ?_
              exact leaves_fin rfl rfl (above_fin hA3)
        · rw [if_neg (by decide), if_neg (by decide)]
          have b11 : ((12 : Int) == 11) = false := rfl
          have b13 : ((12 : Int) == 13) = false := rfl
          refine go1 (jn @nr (jn @l1 (jn @f1 (jn @z2 (jn @z1 (jn @l2 (jn @f2 (jn @z4 (jn @z3 @b11))))))))) ?_
          refine runs_cond rfl (fun hc => by cases hc) (fun hc => ?_)
          refine go1 @b13 ?_
          refine runs_cond rfl (fun hc => by cases hc) (fun hc => ?_)
          refine go0 ?_
          unfold bentS
          refine runs_loop (fun kk e m' => ∃ (j : Nat), j ≤ s.nodes.length ∧ firstBy bentN (s.nodes.drop j) j = firstBy bentN s.nodes 0 ∧ Above m m' ∧ m'.var m2.vars.length = some s.row ∧ kk = s.nodes.length - j ∧
            e = [(10, AV.ptr m2.vars.length 0), (14, .v (.int .i64 (j : Int)))]) (k := s.nodes.length) ⟨0, Nat.zero_le _, rfl, hA3, hs3, rfl, rfl⟩ ?_
          rintro kk e m' ⟨j, hj0, hf, hA4, hs4, rfl, rfl⟩
          have l4 := lpGsNodes hs4
          refine go1 @l4 ?_
          refine runs_cond rfl (fun hc => ?_) (fun hc => ?_)
          · have hj1 : j < s.nodes.length := by have := of_decide_eq_true hc; omega
            have f3 := atNodes (g := .no) (kk := .i64) hj1
            have hyes := fun hp => firstBy_yes (d := nd0) (p := bentN) hj1 hp
            have hno := fun hp => by_no (d := nd0) hj1 hp hf
            generalize s.nodes.getD j nd0 = x at f3 hyes hno
            have z5 := zsNd (m := m') (x := x)
            have z6 := znNd (m := m')
            have hA5 := above_push (cs := x.row) hA4
            have hs5 := push_old (cs' := x.row) hs4
            have hx5 : (m'.push x.row).var m'.vars.length = some x.row := push_var
            generalize m'.push x.row = m5 at z5 hA5 hs5 hx5
            have y0 := lpNdI (i := 0) (v := x.op) hx5 rfl
            have y1 := lpNdI (i := 1) (v := x.a) hx5 rfl
            have y2 := lpNdI (i := 2) (v := x.b) hx5 rfl
            have y4 := lpNdI (i := 4) (v := x.k) hx5 rfl
            have r6 := next_i64 (i := j) (by omega)
            have hbn := bentN_ops x
            refine go1 (jn @l4 (jn @f3 (jn @z6 @z5))) ?_
            refine ops_rcut [(10, .ptr m2.vars.length 0), (14, .v (.int .i64 (j : Int))), (134, .v (.bool (bentN x)))] m5 ?_ ?_
            · rw [hbn]
              repeat' (first | refine gos1 (jn @y0 (jn @y1 (jn @y2 @y4))) ?_ | (refine ops_here ?_; (fail_if_success (refine ops_case (B := true) rfl rfl rfl ?_ ?_)); (fail_if_success (refine ops_case (B := false) rfl rfl rfl ?_ ?_)); refine ops_case rfl rfl rfl (fun hB => ?_) (fun hB => ?_) <;> rw [hB]) | (refine runs_here ?_; refine runs_cond rfl (fun hc => ?_) (fun hc => ?_) <;> first | (cases hc; done) | skip))
              all_goals refine ⟨?_, rfl⟩
              all_goals simp_all
            refine next_normal ?_
            refine runs_cond rfl (fun hc => ?_) (fun hc => ?_)
            · rw [hyes hc]
              refine go0 ?_
              exact leaves_fin rfl rfl (above_fin hA5)
            · refine go1 @r6 ?_
              exact ⟨s.nodes.length - (j + 1), by omega, j + 1, hj1, hno hc, hA5, hs5, rfl, rfl⟩
          · have hj1 : j = s.nodes.length := by have := of_decide_eq_false hc; omega
            subst hj1
            rw [firstBy_no hf]
            refine go0 ?_
            exact leaves_fin rfl rfl (above_fin hA4)
        · rw [if_neg (by decide), if_pos rfl]
          have b11 : ((13 : Int) == 11) = false := rfl
          have b13 : ((13 : Int) == 13) = true := rfl
          have c1 := fun mm => numsG_eq (m := mm) (g := .no) (l := s.nodes) (by omega)
          have hl := numsL_len s.nodes
          refine go1 (jn @nr (jn @l1 (jn @f1 (jn @z2 (jn @z1 (jn @l2 (jn @f2 (jn @z4 (jn @z3 @b11))))))))) ?_
          refine runs_cond rfl (fun hc => by cases hc) (fun hc => ?_)
          refine go1 @b13 ?_
          refine runs_cond rfl (fun hc => ?_) (fun hc => by cases hc)
          refine go1 (jn @g5 (jn @t2 @c1)) ?_
          unfold bigN
          generalize s.nodes.flatMap numsN = all at hl
          refine runs_loop (fun kk e m' => ∃ (j : Nat), j ≤ all.length ∧ firstBy (fun y => decide (y > 4294967296)) (all.drop j) j = firstBy (fun y => decide (y > 4294967296)) all 0 ∧ m3 = m' ∧ kk = all.length - j ∧
            e = [(10, AV.ptr m2.vars.length 0), (12, .lst .no 1 (rowsI all)), (13, .v (.int .i64 (j : Int)))]) (k := all.length) ⟨0, Nat.zero_le _, rfl, rfl, rfl, rfl⟩ ?_
          rintro kk e m' ⟨j, hj0, hf, rfl, rfl, rfl⟩
          by_cases hj1 : j < all.length
          · have b0 : decide ((j : Int) < (all.length : Int)) = true := decide_eq_true (by omega)
            have f3 := atInts (g := .no) (kk := .i64) hj1
            have hyes := fun hp => firstBy_yes (d := (0 : Int)) (p := fun y => decide (y > 4294967296)) hj1 hp
            have hno := fun hp => by_no (d := (0 : Int)) hj1 hp hf
            have r6 := next_i64 (i := j) (by omega)
            generalize all.getD j 0 = y at f3 hyes hno
            cases ha : (s.param != 0) with
            | false =>
              refine go1 (jn @b0 (jn @g4 @ha)) ?_
              refine runs_cond rfl (fun hc => by cases hc) (fun hc => ?_)
              refine go0 ?_
              exact leaves_fin rfl rfl (above_fin hA3)
            | true =>
              refine go1 (jn @b0 (jn @g4 @ha)) ?_
              refine runs_cond rfl (fun hc => ?_) (fun hc => by cases hc)
              refine go1 @f3 ?_
              refine runs_cond rfl (fun hc => ?_) (fun hc => ?_)
              · rw [hyes hc]
                refine go0 ?_
                exact leaves_fin rfl rfl (above_fin hA3)
              · refine go1 @r6 ?_
                exact ⟨all.length - (j + 1), by omega, j + 1, hj1, hno hc, rfl, rfl, rfl⟩
          · have hj2 : j = all.length := by omega
            subst hj2
            have b0 : decide ((all.length : Int) < (all.length : Int)) = false := decide_eq_false (by omega)
            rw [firstBy_no hf, Bool.and_false]
            refine go1 @b0 ?_
            refine runs_cond rfl (fun hc => by cases hc) (fun hc => ?_)
            refine go0 ?_
            exact leaves_fin rfl rfl (above_fin hA3)
      · cases h
    · cases h
  · cases h
end Go.Proofs.YtojaokhkbmiidaaGreat.Ev

namespace Go.Proofs.YtojaokhkbmiidaaGreat.Ev
open Go Go.Proofs
set_option maxRecDepth 10000
set_option maxHeartbeats 8000000
set_option linter.unusedVariables false
set_option linter.unusedSimpArgs false
attribute [local irreducible] Next Inside Runs Ops table
theorem setMay_tree {s : Gs} (h : setMay s = true) : checkT s.nodes = 0 := by
  simp only [setMay, Bool.and_eq_true, beq_iff_eq] at h
  exact h.2.2.2
/-- What a recipe that may be told has. -/
theorem may_parts {R : Rc} (h : R.may = true) : R.headBad = false ∧ (∀ p ∈ R.phases, lenMay p.lenU p.lenN ∧ ∀ s ∈ p.sets, checkT s.nodes = 0) ∧ R.endsMay = true ∧ R.listBad = false ∧ R.phases.length ≤ 16 := by
  unfold Rc.may at h
  simp only [Bool.and_eq_true, Bool.not_eq_true'] at h
  obtain ⟨h1, h2, h3⟩ := h
  unfold Rc.phBad at h3
  simp only [Bool.or_eq_false_iff, decide_eq_false_iff_not, Bool.not_eq_false'] at h3
  obtain ⟨h4, h5, h6⟩ := h3
  refine ⟨h1, fun p hp => ?_, h6, h2, by omega⟩
  have hq := List.any_eq_false.1 h5 p hp
  simp only [phNot, phMay, Bool.not_eq_true', Bool.not_eq_false, Bool.and_eq_true, decide_eq_true_eq, Bool.not_eq_false'] at hq
  obtain ⟨_, a, _, _, b⟩ := hq
  refine ⟨a, fun s hs => ?_⟩
  have b' : p.sets.any setNot = false := by first | exact b | simpa using b
  have hr := List.any_eq_false.1 b' s hs
  simp only [setNot, Bool.not_eq_true', Bool.not_eq_false, Bool.not_eq_true] at hr
  exact setMay_tree (by simpa using hr)
structure Rc.Num (R : Rc) : Prop where
  steps : 0 ≤ R.steps ∧ R.steps ≤ 1099511627776
  epoch : 0 ≤ R.epoch ∧ R.epoch ≤ 1099511627776
  weights : 0 ≤ R.weights ∧ R.weights ≤ 1099511627776
  eval : 0 ≤ R.eval ∧ R.eval ≤ 1099511627776
  stop : R.stopOn = true → 0 ≤ R.stopPatience
  plateau : R.plateauOn = true → 0 ≤ R.plateauPatience
  every : R.swaOn = true → 0 ≤ R.swaEvery
  from_ : lenMay R.swaFromU R.swaFromN
  swa3 : R.swaOn = true → R.swaFromU ≠ 3
theorem Rc.may_num {R : Rc} (h : R.may = true) : R.Num := by
  obtain ⟨h1, _, h2, _⟩ := may_parts h
  unfold Rc.headBad at h1
  simp only [Bool.or_eq_false_iff, Bool.not_eq_false', countB, decide_eq_true_eq] at h1
  obtain ⟨_, a1, a2, a3, a4⟩ := h1
  unfold Rc.endsMay at h2
  simp only [Bool.and_eq_true] at h2
  obtain ⟨b1, b2, _, _, b5⟩ := h2
  unfold Tp.may Tp.bad at b1
  unfold Pt.may Pt.bad at b2
  unfold Sw.may Sw.bad at b5
  simp only [Bool.and_eq_true, Bool.not_eq_true', Bool.and_eq_false_iff, Rc.tp, Rc.pt, Rc.sw, countB, Bool.not_eq_false', Bool.or_eq_false_iff, Bool.or_eq_true, decide_eq_true_eq, beq_eq_false_iff_ne] at b1 b2 b5
  refine ⟨a1, a2, a3, a4, fun ho => ?_, fun ho => ?_, fun ho => ?_, ?_, fun ho => ?_⟩
  · rcases b1.1 with b | b
    · rw [b] at ho; cases ho
    · exact (of_decide_eq_true b.2.1).1
  · rcases b2.1 with b | b
    · rw [b] at ho; cases ho
    · exact (of_decide_eq_true b.2.2.1).1
  · rcases b5.1 with b | b
    · rw [b] at ho; cases ho
    · exact (of_decide_eq_true b.2.2).1
  · rcases b5.1 with b | b
    · have hz := b5.2
      rw [b] at hz
      rcases hz with hz | hz
      · cases hz
      · simp only [swEq, sw0, Bool.and_eq_true, beq_iff_eq] at hz
        obtain ⟨_, ⟨hu, hn, _⟩, _⟩ := hz
        rw [hu, hn]
        unfold lenMay
        decide
    · exact of_decide_eq_true b.1
  · rcases b5.1 with b | b
    · rw [b] at ho; cases ho
    · exact b.2.1
theorem Rc.may_lens {R : Rc} (h : R.may = true) : R.lensOk := by
  obtain ⟨_, h1, _, _, h2⟩ := may_parts h
  have hn := Rc.may_num h
  exact ⟨by omega, fun p hp => (h1 p hp).1, hn.steps.1, hn.epoch.1⟩
def Rc.wholeBad (R : Rc) (rule : Int) : Bool :=
  if rule = 1 then !decide (1 ≤ R.steps ∧ R.steps ≤ 1000000) else if rule = 2 then (decide (R.epoch > 1000000) || ((R.epoch == 0) && R.epochs)) else if rule = 3 then decide (R.weights > 16) else if rule = 6 then ((R.phases.length : Int) == 0) else
  if rule = 9 then (R.kept 1 && (R.kept 2 && R.kept 8)) && R.sumBad else if rule = 19 then decide (R.eval > R.steps) else R.endBad rule
theorem seen_blind {R : Rc} (s : ByteArray) (h : 0 ≤ R.eval) : R.seen s = !R.blind s := by
  unfold Rc.seen Rc.blind
  rw [among_place]
  cases among R.metrics s with
  | false => rfl
  | true =>
    rw [Bool.eq_iff_iff]
    simp only [Bool.true_and, Bool.not_true, Bool.false_or, Bool.not_eq_true', decide_eq_true_eq, beq_eq_false_iff_ne]
    omega
theorem any_flat {α β : Type} {f : α → List β} {p : β → Bool} {q : α → Bool} (h : ∀ x, (f x).any p = q x) : ∀ l : List α, (l.flatMap f).any p = l.any q
  | [] => rfl
  | x :: l => by rw [List.flatMap_cons, List.any_append, h, any_flat h l, List.any_cons]
def u1 (x : Ln) : Bool := x.U == 1
theorem lens_epochs (R : Rc) : R.lens.any u1 = R.epochs := by
  have h1 : ∀ s : Gs, (setLens s).any u1 = epS s := fun s => by
    unfold setLens epS
    rw [List.any_map]
    rfl
  have h2 : ∀ p : Ph, (phLens p).any u1 = epP p := fun p => by
    unfold phLens epP
    rw [List.any_cons, any_flat h1]
    rfl
  unfold Rc.lens Rc.epochs
  rw [List.any_append, any_flat h2]
  cases R.swaOn <;> simp [u1]
theorem neg_eq {a b : Bool} (h : (a = true) ↔ ¬ (b = true)) : (!b) = a := by
  cases a <;> cases b <;> simp_all
section
variable {R : Rc}
theorem whole_1 : (!R.wholeBad 1) = (decide (R.steps ≥ 1) && decide (R.steps ≤ 1000000)) := neg_eq (by simp [Rc.wholeBad])
theorem whole_2 : (!R.wholeBad 2) = (!(R.lens.any u1 && (R.epoch == 0)) && decide (R.epoch ≤ 1000000)) := by
  unfold Rc.wholeBad
  rw [lens_epochs, if_neg (by decide), if_pos rfl, Bool.not_or, Bool.and_comm R.epochs, Bool.and_comm]
  congr 1
  rw [Bool.eq_iff_iff]
  simp only [Bool.not_eq_true', decide_eq_false_iff_not, decide_eq_true_eq]
  omega
theorem whole_3 : (!R.wholeBad 3) = decide (R.weights ≤ 16) := neg_eq (by simp [Rc.wholeBad])
theorem whole_6 : (!R.wholeBad 6) = decide ((R.phases.length : Int) > 0) := by
  show (!((R.phases.length : Int) == 0)) = _
  rw [Bool.eq_iff_iff]
  simp only [Bool.not_eq_true', beq_eq_false_iff_ne, ne_eq, decide_eq_true_eq]
  omega
theorem whole_9 : (!R.wholeBad 9) = (!R.kept 1 || (!R.kept 2 || (!R.kept 8 || !R.sumBad))) := by
  unfold Rc.wholeBad
  rw [if_neg (by decide), if_neg (by decide), if_neg (by decide), if_neg (by decide), if_pos rfl]
  cases R.kept 1 <;> cases R.kept 2 <;> cases R.kept 8 <;> cases R.sumBad <;> rfl
theorem whole_14 (hn : R.Num) : (!R.wholeBad 14) = (!R.stopOn || (R.seen R.stopMetric && decide (R.stopPatience > 0))) := by
  rw [seen_blind _ hn.eval.1]
  show (!(R.stopOn && (R.blind R.stopMetric || (R.stopPatience == 0)))) = _
  have := hn.stop
  generalize R.blind R.stopMetric = b
  cases h : R.stopOn
  · rfl
  · have := this h
    cases b
    · rw [Bool.eq_iff_iff]; simp; omega
    · rfl
theorem whole_15 (hn : R.Num) : (!R.wholeBad 15) = (!R.plateauOn || ((R.seen R.plateauMetric && decide (R.plateauPatience > 0)) && decide (R.plateauFactor < 4294967296))) := by
  rw [seen_blind _ hn.eval.1]
  show (!(R.plateauOn && (R.blind R.plateauMetric || ((R.plateauPatience == 0) || decide (R.plateauFactor ≥ 4294967296))))) = _
  have := hn.plateau
  generalize R.blind R.plateauMetric = b
  cases h : R.plateauOn
  · rfl
  · have := this h
    cases b
    · rw [Bool.eq_iff_iff]; simp; omega
    · rfl
theorem whole_16 (hn : R.Num) : (!R.wholeBad 16) = (!R.keepOn || ((R.seen R.keepMetric && decide (R.keepCount ≥ 1)) && decide (R.keepCount ≤ 16))) := by
  rw [seen_blind _ hn.eval.1]
  show (!(R.keepOn && (R.blind R.keepMetric || !decide (1 ≤ R.keepCount ∧ R.keepCount ≤ 16)))) = _
  generalize R.blind R.keepMetric = b
  cases h : R.keepOn
  · rfl
  · cases b
    · rw [Bool.eq_iff_iff]; simp
    · rfl
theorem whole_17 : (!R.wholeBad 17) = (!R.emaOn || decide (R.emaDecay ≤ 4294967296)) := by
  show (!(R.emaOn && decide (R.emaDecay > 4294967296))) = _
  cases R.emaOn
  · rfl
  · rw [Bool.eq_iff_iff]; simp
theorem whole_18 (hn : R.Num) : (!R.wholeBad 18) = (!R.swaOn || ((decide (R.swaEvery > 0) && (R.swaSteps.2 == 0)) && decide (R.swaSteps.1 ≤ R.steps))) := by
  show (!(R.swaOn && ((R.swaEvery == 0) || ((R.swaSteps.2 != 0) || decide (R.swaSteps.1 > R.steps))))) = _
  have := hn.every
  cases h : R.swaOn
  · rfl
  · have := this h
    rw [Bool.eq_iff_iff]
    simp only [Bool.true_and, Bool.not_true, Bool.false_or, Bool.not_or, Bool.and_eq_true, Bool.not_eq_true', beq_eq_false_iff_ne, bne_eq_false_iff_eq, decide_eq_false_iff_not, decide_eq_true_eq, beq_iff_eq]
    omega
theorem whole_19 : (!R.wholeBad 19) = decide (R.eval ≤ R.steps) := neg_eq (by simp [Rc.wholeBad])
end
def isRule (n : Int) : Prop := n = 1 ∨ n = 2 ∨ n = 3 ∨ n = 4 ∨ n = 5 ∨ n = 6 ∨ n = 7 ∨ n = 8 ∨ n = 9 ∨ n = 10 ∨ n = 11 ∨ n = 12 ∨ n = 13 ∨ n = 14 ∨ n = 15 ∨ n = 16 ∨ n = 17 ∨ n = 18 ∨ n = 19
instance (n : Int) : Decidable (isRule n) := by unfold isRule; exact inferInstance
def wholeRG (b : Bool) : List AV → Mem → Option (AV × Mem)
  | [.agg cs, .v (.int .i64 rule)], m =>
    match unRc cs with
    | some R => if R.may = true ∧ R.fit ∧ isRule rule ∧ (b = true ∨ rule ≠ 9) then some (.v (.bool (!R.wholeBad rule)), m) else none
    | none => none
  | _, _ => none
theorem wholeRG_at {R : Rc} {m : Mem} {b : Bool} {rule : Int} (h : R.may = true) (h1 : R.fit) (h2 : isRule rule) (h3 : b = true ∨ rule ≠ 9) : wholeRG b [.agg R.row, .v (.int .i64 rule)] m = some (.v (.bool (!R.wholeBad rule)), m) := by
  simp only [wholeRG, unRc_row]
  rw [if_pos ⟨h, h1, h2, h3⟩]
end Go.Proofs.YtojaokhkbmiidaaGreat.Ev
