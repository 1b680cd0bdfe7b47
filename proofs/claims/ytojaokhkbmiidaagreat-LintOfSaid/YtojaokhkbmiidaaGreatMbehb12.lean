/- The document's rules: where a rule is broken. (Written out by wip/tools/gen_broken20.py.) -/
import Derived.Test.YtojaokhkbmiidaaGreatMbehb11
import Derived.Test.YtojaokhkbmiidaaGreatMbehb3
import Derived.Test.YtojaokhkbmiidaaGreatMbehb5
import Derived.Test.YtojaokhkbmiidaaGreatMbehb9
namespace Go.Proofs.YtojaokhkbmiidaaGreat.Ev
open Go Go.Proofs
set_option maxRecDepth 10000
set_option maxHeartbeats 8000000
set_option linter.unusedVariables false
set_option linter.unusedSimpArgs false
section
attribute [local irreducible] Next Inside Runs Ops table
attribute [local go_sem] szStr szInt Option.getD_some isNil evStr iv loadStr loadInt mapRc cellsRc newRc rowsPh_len rowsS_len rowsGs_len rowsFl_len mkFl mkFls1 zrPh zoPh ldPh cellsPh mapPh fpRcMetrics fpRcGroups fpRcPhases fpPhName fpPhFrozen fpPhSets fePhName lePhName feFlItem leFlItem Bool.not_not
theorem mkFl2 {a b : Int} : evBuild Tryz.prog 83 [(0, .v (.int .i64 a)), (1, .v (.int .i64 b))] = some (.agg [.v (.int .i64 a), .v (.int .i64 b), .v (.int .i64 0)]) := by kernel_rfl
attribute [local go_sem] mkFl2
theorem mkFl1 {a : Int} : evBuild Tryz.prog 83 [(0, .v (.int .i64 a))] = some (.agg [.v (.int .i64 a), .v (.int .i64 0), .v (.int .i64 0)]) := by kernel_rfl
attribute [local go_sem] mkFl1
theorem mkFl0 : evBuildSlice Tryz.prog 40 0 [] = some (.lst .full 3 []) := build_nil appFl
attribute [local go_sem] mkFl0
theorem app_fl {m m' : Mem} {g g2 : Grow} (hG : GrowsA m g m') (xs : List Fl) (a b c : Int) (hl : xs.length ≤ 1000000) :
  ∃ g' m'', evAppend Tryz.prog 40 40 m' (.lst g 3 (rowsFl xs)) (.lst g2 3 [[.v (.int .i64 a), .v (.int .i64 b), .v (.int .i64 c)]]) = some (.lst g' 3 (rowsFl (xs ++ [⟨a, b, c⟩])), m'') ∧ GrowsA m g' m'' ∧ ∀ q, m''.var q = m'.var q := by
 have := app_growsV appFl hG (y := .lst g2 3 [[.v (.int .i64 a), .v (.int .i64 b), .v (.int .i64 c)]]) asList_lst (xs := rowsFl xs) (by rw [rowsFl_len]; unfold lim; simp; omega)
 rwa [show ([[.v (.int .i64 a), .v (.int .i64 b), .v (.int .i64 c)]] : List (List AV)) = rowsFl [⟨a, b, c⟩] from rfl, rowsFl_app] at this
/-! ### what the phases have -/
def nameDup (R : Rc) (i : Nat) : Bool := decide (placeOf (R.phases.map Ph.name) ((R.phases.map Ph.name).getD i ⟨#[]⟩) < (i : Int))
def fl7 (R : Rc) (rule : Int) (i : Nat) : List Fl := if rule = 7 then flawIf (nameDup R i) 7 i 0 else []
def fl8 (R : Rc) (rule : Int) (i : Nat) : List Fl := if rule = 8 then flawIf (R.lastBad i) 8 i 0 else []
def fl10 (R : Rc) (rule : Int) (i : Nat) : List Fl := if rule = 10 then upto (R.phases.getD i ph0).frozen.length fun k => flawIf (R.frozenBad (R.phases.getD i ph0) k) 10 i k else []
def fl11 (R : Rc) (rule : Int) (i : Nat) : List Fl := if 11 ≤ rule ∧ rule ≤ 13 then upto (R.phases.getD i ph0).sets.length fun k => flawIf (!R.setOk rule i k) rule i k else []
def phFl (R : Rc) (rule : Int) (i : Nat) : List Fl := fl7 R rule i ++ fl8 R rule i ++ fl10 R rule i ++ fl11 R rule i
theorem upto_nil {f : Nat → List Fl} : ∀ {n : Nat}, (∀ i, i < n → f i = []) → upto n f = []
 | 0, _ => rfl
 | n + 1, h => by rw [upto_next, upto_nil fun i hi => h i (by omega), h n (by omega)]; rfl
theorem upto_eq {f g : Nat → List Fl} : ∀ {n : Nat}, (∀ i, i < n → f i = g i) → upto n f = upto n g
 | 0, _ => rfl
 | n + 1, h => by rw [upto_next, upto_next, upto_eq fun i hi => h i (by omega), h n (by omega)]
theorem ph_none {R : Rc} {rule : Int} (h7 : rule ≠ 7) (h8 : rule ≠ 8) (h10 : rule ≠ 10) (h11 : ¬ (11 ≤ rule ∧ rule ≤ 13)) : upto R.phases.length (phFl R rule) = [] :=
 upto_nil fun i _ => by unfold phFl fl7 fl8 fl10 fl11; rw [if_neg h7, if_neg h8, if_neg h10, if_neg h11]; rfl
theorem brk_whole {R : Rc} {rule : Int} (h7 : rule ≠ 7) (h8 : rule ≠ 8) (h10 : rule ≠ 10) (h11 : ¬ (11 ≤ rule ∧ rule ≤ 13)) (h : brkL R rule = flawIf (R.wholeBad rule) rule 0 0) : brkL R rule = upto R.phases.length (phFl R rule) ++ flawIf (R.wholeBad rule) rule 0 0 := by
 rw [ph_none h7 h8 h10 h11, h]
 rfl
theorem brk_ph {R : Rc} {rule : Int} (hw : R.wholeBad rule = false) (h : brkL R rule = upto R.phases.length (phFl R rule)) : brkL R rule = upto R.phases.length (phFl R rule) ++ flawIf (R.wholeBad rule) rule 0 0 := by
 rw [hw, h]
 exact (List.append_nil _).symm
theorem sum_flaw (R : Rc) : sumL 9 R = flawIf ((R.kept 1 && (R.kept 2 && R.kept 8)) && R.sumBad) 9 0 0 := by
 have e : sumL 9 R = if R.kept 1 && (R.kept 2 && R.kept 8) then flawIf R.sumBad 9 0 0 else [] := rfl
 rw [e]
 cases R.kept 1 && (R.kept 2 && R.kept 8) <;> rfl
theorem phase_mem {R : Rc} {i : Nat} (hi : i < R.phases.length) : R.phases.getD i ph0 ∈ R.phases := by
 rw [List.getD, List.getElem?_eq_getElem hi]
 exact List.getElem_mem _
theorem set_mem {p : Ph} {i : Nat} (hi : i < p.sets.length) : p.sets.getD i gs0 ∈ p.sets := by
 rw [List.getD, List.getElem?_eq_getElem hi]
 exact List.getElem_mem _
theorem brk_is {R : Rc} {rule : Int} (hm : R.may = true) (h : isRule rule) (h4 : rule ≠ 4) (h5 : rule ≠ 5) : brkL R rule = upto R.phases.length (phFl R rule) ++ flawIf (R.wholeBad rule) rule 0 0 := by
 have ht := (may_parts hm).2.1
 unfold isRule at h
 rcases h with rfl | rfl | rfl | rfl | rfl | rfl | rfl | rfl | rfl | rfl | rfl | rfl | rfl | rfl | rfl | rfl | rfl | rfl | rfl
 ·exact brk_whole (by decide) (by decide) (by decide) (by decide) rfl
 ·exact brk_whole (by decide) (by decide) (by decide) (by decide) rfl
 ·exact brk_whole (by decide) (by decide) (by decide) (by decide) rfl
 ·exact absurd rfl h4
 ·exact absurd rfl h5
 ·exact brk_whole (by decide) (by decide) (by decide) (by decide) rfl
 ·refine brk_ph rfl ?_
  show upto (R.phases.map Ph.name).length _ = _
  rw [List.length_map]
  exact upto_eq fun i _ => by unfold phFl fl7 fl8 fl10 fl11; rw [if_pos rfl, if_neg (by decide), if_neg (by decide), if_neg (by decide), List.append_nil, List.append_nil, List.append_nil]; rfl
 ·refine brk_ph rfl ?_
  show upto R.phases.length _ = _
  exact upto_eq fun i _ => by unfold phFl fl7 fl8 fl10 fl11; rw [if_neg (by decide), if_pos rfl, if_neg (by decide), if_neg (by decide), List.append_nil, List.append_nil, List.nil_append]
 ·exact brk_whole (by decide) (by decide) (by decide) (by decide) (sum_flaw R)
 ·refine brk_ph rfl ?_
  show upto R.phases.length _ = _
  exact upto_eq fun i _ => by unfold phFl fl7 fl8 fl10 fl11; rw [if_neg (by decide), if_neg (by decide), if_pos rfl, if_neg (by decide), List.append_nil, List.nil_append, List.nil_append]
 ·refine brk_ph rfl ?_
  show upto R.phases.length _ = _
  refine upto_eq fun i _ => ?_
  unfold phFl fl7 fl8 fl10 fl11
  rw [if_neg (by decide), if_neg (by decide), if_neg (by decide), if_pos (by decide), List.nil_append, List.nil_append, List.nil_append]
  exact upto_eq fun k _ => by show _ = flawIf (!(!setBad R (R.phases.getD i ph0) k)) 11 i k; rw [Bool.not_not]
 ·refine brk_ph rfl ?_
  show upto R.phases.length _ = _
  refine upto_eq fun i _ => ?_
  unfold phFl fl7 fl8 fl10 fl11
  rw [if_neg (by decide), if_neg (by decide), if_neg (by decide), if_pos (by decide), List.nil_append, List.nil_append, List.nil_append]
  exact upto_eq fun k _ => by show _ = flawIf (!(!bentS ((R.phases.getD i ph0).sets.getD k gs0))) 12 i k; rw [Bool.not_not]
 ·refine brk_ph rfl ?_
  show upto R.phases.length _ = _
  refine upto_eq fun i hi => ?_
  unfold phFl fl7 fl8 fl10 fl11
  rw [if_neg (by decide), if_neg (by decide), if_neg (by decide), if_pos (by decide), List.nil_append, List.nil_append, List.nil_append]
  exact upto_eq fun k hk => by
   show flawIf (highS _) 13 i k = flawIf (!(!((((R.phases.getD i ph0).sets.getD k gs0).param != 0) && bigN ((R.phases.getD i ph0).sets.getD k gs0).nodes))) 13 i k
   rw [Bool.not_not, highS_big ((ht _ (phase_mem hi)).2 _ (set_mem hk))]
 ·exact brk_whole (by decide) (by decide) (by decide) (by decide) rfl
 ·exact brk_whole (by decide) (by decide) (by decide) (by decide) rfl
 ·exact brk_whole (by decide) (by decide) (by decide) (by decide) rfl
 ·exact brk_whole (by decide) (by decide) (by decide) (by decide) rfl
 ·exact brk_whole (by decide) (by decide) (by decide) (by decide) rfl
 ·exact brk_whole (by decide) (by decide) (by decide) (by decide) rfl
theorem phFl_len {R : Rc} (h : R.small) (rule : Int) (i : Nat) : (phFl R rule i).length ≤ 130 := by
 have hp := h.phase i
 have a1 : (fl7 R rule i).length ≤ 1 := by unfold fl7; split; exact flawIf_len ..; simp
 have a2 : (fl8 R rule i).length ≤ 1 := by unfold fl8; split; exact flawIf_len ..; simp
 have a3 : (fl10 R rule i).length ≤ 64 := by unfold fl10; split; exact upto_le1 hp.1; simp
 have a4 : (fl11 R rule i).length ≤ 64 := by unfold fl11; split; exact upto_le1 hp.2.1; simp
 unfold phFl
 simp only [List.length_append]
 omega
theorem fl7_item {R : Rc} {n : Nat} : ∀ x ∈ upto n (phFl R 7), x.item < (n : Int) := by
 induction n with
 | zero => intro x hx; simp [upto_zero] at hx
 | succ n ih =>
  intro x hx
  rw [upto_next, List.mem_append] at hx
  rcases hx with hx | hx
  ·have := ih x hx; omega
  ·unfold phFl fl7 fl8 fl10 fl11 at hx
   rw [if_pos rfl, if_neg (by decide), if_neg (by decide), if_neg (by decide), List.append_nil, List.append_nil, List.append_nil] at hx
   unfold flawIf at hx
   split at hx
   ·simp only [List.mem_singleton] at hx
    rw [hx]
    simp only
    omega
   ·simp at hx
theorem last_item {acc : List Fl} {i : Int} (h : ∀ x ∈ acc, x.item < i) (h0 : acc.length ≠ 0) : ((acc.getD (acc.length - 1) fl0).item != i) = true := by
 have hm : acc.getD (acc.length - 1) fl0 ∈ acc := by
  rw [List.getD, List.getElem?_eq_getElem (by omega)]
  exact List.getElem_mem _
 have := h _ hm
 simp only [bne_iff_ne, ne_eq]
 omega
theorem last_app {acc : List Fl} {x : Fl} : (acc ++ [x]).getD ((acc ++ [x]).length - 1) fl0 = x := by
 simp [List.getD]
def brokenRG (b : Bool) : List AV → Mem → Option (AV × Mem)
 | [.agg cs, .v (.int .i64 rule)], m =>
  match unRc cs with
  | some R => if R.may = true ∧ R.fit ∧ isRule rule ∧ (b = true ∨ rule ≠ 9) then some (.lst .no 3 (rowsFl (brkL R rule)), m) else none
  | none => none
 | _, _ => none
theorem brokenRG_at {R : Rc} {m : Mem} {b : Bool} {rule : Int} (h : R.may = true) (h1 : R.fit) (h2 : isRule rule) (h3 : b = true ∨ rule ≠ 9) : brokenRG b [.agg R.row, .v (.int .i64 rule)] m = some (.lst .no 3 (rowsFl (brkL R rule)), m) := by
 simp only [brokenRG, unRc_row]
 rw [if_pos ⟨h, h1, h2, h3⟩]
def kpBroken20 : Nat → Option (List Nat) := fun
 | 0 => some [1, 2]
 | 1 => some [1, 2, 5]
 | 2 => some [1, 2, 5, 19]
 | 3 => some [1, 2, 5, 6]
 | 4 => some [1, 2, 5, 6, 23]
 | 5 => some [1, 5, 6]
 | 6 => some [1, 5, 6, 7]
 | 7 => some [1, 5, 6, 7, 29]
 | 8 => some [1, 5, 6, 7]
 | 9 => some [1, 5, 6, 7, 35]
 | 10 => some [1, 5, 6, 7]
 | 11 => some [4]
 | 12 => some [1, 2, 5, 8]
 | 13 => some [1, 2, 5, 8, 47]
 | 14 => some [1, 2, 5, 8]
 | 15 => some [1, 2, 5, 8, 9]
 | 16 => some [1, 2, 5, 8, 9, 56]
 | 17 => some [1, 2, 5, 8, 9, 10]
 | 18 => some [1, 2, 5, 8, 9, 10, 59]
 | 19 => some [1, 2, 5, 8, 9, 10]
 | 20 => some [1, 2, 5, 8, 9, 10, 86]
 | 21 => some [1, 2, 5, 8, 9, 10]
 | 22 => some [1, 2, 5, 8, 9, 100]
 | 23 => some [1, 2, 5, 8, 9]
 | 24 => some [1, 2, 5, 8, 9, 11]
 | 25 => some [1, 2, 5, 8, 9, 11, 115]
 | 26 => some [1, 2, 5, 8, 9, 11]
 | 27 => some [1, 2, 5, 8, 9, 11, 133]
 | 28 => some [1, 2, 5, 8, 9, 11]
 | 29 => some [1, 2, 5, 8, 9, 12]
 | 30 => some [1, 2, 5, 8, 9, 12, 153]
 | 31 => some [1, 2, 5, 8, 9, 12]
 | 32 => some [1, 2, 5, 8, 9, 12, 161]
 | 33 => some [1, 2, 5, 8, 9, 12]
 | 34 => some [1, 5, 172]
 | 35 => some [5]
 | 36 => some [4]
 | _ => none
attribute [go_sem] kpBroken20
def tab_broken20 (b : Bool) : List (FuncId × (List AV → Mem → Option (AV × Mem))) := [(99, firstG), (100, rlastG), (93, placeG), (101, setOkG), (102, wholeRG b)]
theorem broken20_ok (b : Bool) (hW : FunOk Tryz.prog 102 (wholeRG b)) : FunOk Tryz.prog 46 (brokenRG b) := by
 have hC := table_ok (P := Tryz.prog) (l := tab_broken20 b) (table_more first20_ok (table_more rlast_ok (table_more refPlace_ok (table_more set20_ok (table_more hW table_nil)))))
 have t1 := fun args mm => table_at (l := tab_broken20 b) (f := 99) (args := args) (m := mm) rfl
 have t2 := fun args mm => table_at (l := tab_broken20 b) (f := 100) (args := args) (m := mm) rfl
 have t3 := fun args mm => table_at (l := tab_broken20 b) (f := 93) (args := args) (m := mm) rfl
 have t4 := fun args mm => table_at (l := tab_broken20 b) (f := 101) (args := args) (m := mm) rfl
 have t5 := fun args mm => table_at (l := tab_broken20 b) (f := 102) (args := args) (m := mm) rfl
 refine fun_ok mixed hC Tryz.func46 rfl kpBroken20 false rfl fun args m r h => ?_
 unfold brokenRG at h
 split at h
 ·rename_i cs rule
  split at h
  ·rename_i R hR
   obtain rfl := unRc_some hR
   split at h
   ·rename_i hyp
    obtain ⟨hmay, hfit, hrule, hb⟩ := hyp
    simp only [Option.some.injEq] at h
    subst h
    refine ⟨Nat.le_of_ble_eq_true rfl, ?_⟩
    refine en ?_
    have hn := Rc.may_num hmay
    have hsm := Rc.may_small hmay
    have hP64 := hsm.2.2.1
    have hG0 : GrowsA m .full (m.push R.row) := growsA_push growsA_full
    have hv : (m.push R.row).var m.vars.length = some R.row := push_var
    have nr := newRc (m := m) (x := R)
    generalize m.push R.row = m1 at hG0 hv nr
    by_cases h45 : rule = 4 ∨ rule = 5
    ·rcases h45 with rfl | rfl
     ·-- rule 4
      have hbrk : brkL R 4 = twinsL 4 R.metrics := rfl
      have hl64 := hsm.1
      have y1 := lpRcMetrics hv
      have y0 := lpRcMetrics hv
      rw [hbrk]
      refine go1 @nr ?_
      refine runs_cond rfl (fun hc => ?_) (fun hc => by cases hc)
      refine go1 @y1 ?_
      refine runs_cond rfl (fun hc => by cases hc) (fun hc => ?_)
      refine go1 @y1 ?_
      generalize R.metrics = l at hl64
      refine runs_loop (fun k e m' => ∃ (i : Nat) (gr : Grow), i ≤ l.length ∧ GrowsA m gr m' ∧ k = l.length - i ∧
       e = [(1, AV.v (.int .i64 4)), (5, .lst gr 3 (rowsFl (upto i fun i => flawIf (decide (placeOf l (l.getD i ⟨#[]⟩) < (i : Int))) 4 i 0))), (6, .lst .no 1 (rowsS l)), (7, .v (.int .i64 (i : Int)))]) (k := l.length) ⟨0, _, Nat.zero_le _, hG0, rfl, rfl⟩ ?_
      rintro k e m' ⟨i, gr, hi0, hG, rfl, rfl⟩
      refine go0 ?_
      refine runs_cond rfl (fun hc => ?_) (fun hc => ?_)
      ·have hi1 : i < l.length := by have := of_decide_eq_true hc; omega
       have c1 := fun mm => firstG_at (m := mm) (g := .no) (l := l) (i := i) (by omega) hi1
       have d1 := place_self hi1
       have hN := @upto_next i (fun i => flawIf (decide (placeOf l (l.getD i ⟨#[]⟩) < (i : Int))) 4 i 0)
       have hB := @upto_len (fun i => flawIf (decide (placeOf l (l.getD i ⟨#[]⟩) < (i : Int))) 4 i 0) 1 i fun k _ => flawIf_len ..
       generalize (upto i fun i => flawIf (decide (placeOf l (l.getD i ⟨#[]⟩) < (i : Int))) 4 i 0) = acc at hG hN hB
       generalize (placeOf l (l.getD i ⟨#[]⟩) == (i : Int)) = qb at c1 d1
       rw [← d1] at hN
       have r6 := next_i64 (i := i) (by omega)
       refine go1 (jn @t1 @c1) ?_
       refine runs_cond rfl (fun hc => ?_) (fun hc => ?_)
       ·obtain ⟨g2, m2, a1, hG2, hV2⟩ := app_fl (g2 := .full) hG acc 4 i 0 (by omega)
        rw [show flawIf (!qb) 4 i 0 = [⟨4, i, 0⟩] from if_pos hc] at hN
        refine go1 (jn @a1 @r6) ?_
        exact ⟨l.length - (i + 1), by omega, i + 1, _, hi1, hG2, rfl, by rw [hN]⟩
       ·rw [show flawIf (!qb) 4 i 0 = [] from if_neg (by rw [hc]; decide), List.append_nil] at hN
        refine go1 @r6 ?_
        exact ⟨l.length - (i + 1), by omega, i + 1, _, hi1, hG, rfl, by rw [hN]⟩
      ·have hi1 : i = l.length := by have := of_decide_eq_false hc; omega
       subst hi1
       refine go0 ?_
       exact leaves_lst rfl rfl (growsA_fin hG)
     ·-- rule 5
      have hbrk : brkL R 5 = twinsL 5 R.groups := rfl
      have hl64 := hsm.2.1
      have y1 := lpRcGroups hv
      have y0 := lpRcMetrics hv
      rw [hbrk]
      refine go1 @nr ?_
      refine runs_cond rfl (fun hc => ?_) (fun hc => by cases hc)
      refine go1 @y0 ?_
      refine runs_cond rfl (fun hc => ?_) (fun hc => by cases hc)
      refine go1 @y1 ?_
      generalize R.groups = l at hl64
      refine runs_loop (fun k e m' => ∃ (i : Nat) (gr : Grow), i ≤ l.length ∧ GrowsA m gr m' ∧ k = l.length - i ∧
       e = [(1, AV.v (.int .i64 5)), (5, .lst gr 3 (rowsFl (upto i fun i => flawIf (decide (placeOf l (l.getD i ⟨#[]⟩) < (i : Int))) 5 i 0))), (6, .lst .no 1 (rowsS l)), (7, .v (.int .i64 (i : Int)))]) (k := l.length) ⟨0, _, Nat.zero_le _, hG0, rfl, rfl⟩ ?_
      rintro k e m' ⟨i, gr, hi0, hG, rfl, rfl⟩
      refine go0 ?_
      refine runs_cond rfl (fun hc => ?_) (fun hc => ?_)
      ·have hi1 : i < l.length := by have := of_decide_eq_true hc; omega
       have c1 := fun mm => firstG_at (m := mm) (g := .no) (l := l) (i := i) (by omega) hi1
       have d1 := place_self hi1
       have hN := @upto_next i (fun i => flawIf (decide (placeOf l (l.getD i ⟨#[]⟩) < (i : Int))) 5 i 0)
       have hB := @upto_len (fun i => flawIf (decide (placeOf l (l.getD i ⟨#[]⟩) < (i : Int))) 5 i 0) 1 i fun k _ => flawIf_len ..
       generalize (upto i fun i => flawIf (decide (placeOf l (l.getD i ⟨#[]⟩) < (i : Int))) 5 i 0) = acc at hG hN hB
       generalize (placeOf l (l.getD i ⟨#[]⟩) == (i : Int)) = qb at c1 d1
       rw [← d1] at hN
       have r6 := next_i64 (i := i) (by omega)
       refine go1 (jn @t1 @c1) ?_
       refine runs_cond rfl (fun hc => ?_) (fun hc => ?_)
       ·obtain ⟨g2, m2, a1, hG2, hV2⟩ := app_fl (g2 := .full) hG acc 5 i 0 (by omega)
        rw [show flawIf (!qb) 5 i 0 = [⟨5, i, 0⟩] from if_pos hc] at hN
        refine go1 (jn @a1 @r6) ?_
        exact ⟨l.length - (i + 1), by omega, i + 1, _, hi1, hG2, rfl, by rw [hN]⟩
       ·rw [show flawIf (!qb) 5 i 0 = [] from if_neg (by rw [hc]; decide), List.append_nil] at hN
        refine go1 @r6 ?_
        exact ⟨l.length - (i + 1), by omega, i + 1, _, hi1, hG, rfl, by rw [hN]⟩
      ·have hi1 : i = l.length := by have := of_decide_eq_false hc; omega
       subst hi1
       refine go0 ?_
       exact leaves_lst rfl rfl (growsA_fin hG)
    ·have hbrk := brk_is hmay hrule (fun h => h45 (.inl h)) (fun h => h45 (.inr h))
     rw [hbrk]
     have q4 : (rule == 4) = false := by simpa using fun h => h45 (.inl h)
     have q5 : (rule == 5) = false := by simpa using fun h => h45 (.inr h)
     refine go1 (jn @nr (jn @q4 @q5)) ?_
     refine runs_cond rfl (fun hc => by cases hc) (fun hc => ?_)
     refine go0 ?_
     refine runs_loop (fun k e m' => ∃ (i : Nat) (gr : Grow), i ≤ R.phases.length ∧ GrowsA m gr m' ∧ m'.var m.vars.length = some R.row ∧ k = R.phases.length - i ∧
      e = [(1, AV.v (.int .i64 rule)), (2, .ptr m.vars.length 0), (5, .lst gr 3 (rowsFl (upto i (phFl R rule)))), (8, .v (.int .i64 (i : Int)))]) (k := R.phases.length) ⟨0, _, Nat.zero_le _, hG0, hv, rfl, rfl⟩ ?_
     rintro k e m' ⟨i, gr, hi0, hG, hw, rfl, rfl⟩
     have l1 := lpRcPhases hw
     refine go1 @l1 ?_
     refine runs_cond rfl (fun hc => ?_) (fun hc => ?_)
     ·have hi1 : i < R.phases.length := by have := of_decide_eq_true hc; omega
      have f2 := atPh (g := .no) (kk := .i64) hi1
      have hp := hsm.phase i
      have hlen := phFl_len hsm rule
      have hN := @upto_next i (phFl R rule)
      have hB := @upto_len (phFl R rule) 130 i fun k _ => hlen k
      have hit := @fl7_item R i
      have hdup : (nameDup R i) = ((R.phases.map Ph.name).take i).any fun y => decide (y = (R.phases.getD i ph0).name) := by
       unfold nameDup
       rw [← place_any (by rw [List.length_map]; exact hi1)]
       have : (R.phases.map Ph.name).getD i ⟨#[]⟩ = (R.phases.getD i ph0).name := by simp [List.getD, List.getElem?_eq_getElem hi1]
       rw [this]
      have hmay2 := (may_parts hmay).2.1 _ (phase_mem hi1)
      have e10 : fl10 R rule i = if rule = 10 then upto (R.phases.getD i ph0).frozen.length fun k => flawIf (R.frozenBad (R.phases.getD i ph0) k) 10 i k else [] := rfl
      have e11 : fl11 R rule i = if 11 ≤ rule ∧ rule ≤ 13 then upto (R.phases.getD i ph0).sets.length fun k => flawIf (!R.setOk rule i k) rule i k else [] := rfl
      have hset : ∀ (k : Nat) mm, (rule = 11 ∨ rule = 12 ∨ rule = 13) → k < (R.phases.getD i ph0).sets.length → setOkG [.agg R.row, .v (.int .i64 rule), .v (.int .i64 (i : Int)), .v (.int .i64 (k : Int))] mm = some (.v (.bool (R.setOk rule i k)), mm) := fun k mm h1 h2 => setOkG_at hsm h1 hi1 h2
      have hl8 := fun mm => rlastG_at (R := R) (i := i) (m := mm) hP64 hi1 hmay2.1 hn.steps.1 hn.epoch.1
      generalize R.phases.getD i ph0 = p at f2 hp hdup e10 e11 hset
      have z1 := zsPh (m := m') (x := p)
      have z2 := znPh (m := m')
      have hG1 := growsA_push (cs := p.row) hG
      have hw1 := push_old (cs' := p.row) hw
      have hp1 : (m'.push p.row).var m'.vars.length = some p.row := push_var
      generalize m'.push p.row = m5 at z1 hG1 hw1 hp1
      have hphi : phFl R rule i = fl7 R rule i ++ fl8 R rule i ++ fl10 R rule i ++ fl11 R rule i := rfl
      have hlen7 : (fl7 R rule i).length ≤ 1 := by unfold fl7; split; exact flawIf_len ..; simp
      have hlen8 : (fl8 R rule i).length ≤ 1 := by unfold fl8; split; exact flawIf_len ..; simp
      have hlen10 : (fl10 R rule i).length ≤ 64 := by rw [e10]; split; exact upto_le1 hp.1; simp
      generalize hacc : upto i (phFl R rule) = acc at hG1 hN hB
      refine go1 (jn @l1 (jn @f2 (jn @z2 @z1))) ?_
      generalize m'.vars.length = n5 at hp1 ⊢
      -- the names
      refine runs_icut (fun e2 m2 => ∃ gr2 E, GrowsA m gr2 m2 ∧ m2.var m.vars.length = some R.row ∧ m2.var n5 = some p.row ∧ e2 = (1, AV.v (.int .i64 rule)) :: (2, .ptr m.vars.length 0) :: (5, .lst gr2 3 (rowsFl (acc ++ fl7 R rule i))) :: (8, .v (.int .i64 (i : Int))) :: (9, .ptr n5 0) :: E) ?_ ?_
      ·refine runs_cond rfl (fun hc => ?_) (fun hc => ?_)
       ·have h7 : rule = 7 := by simpa using hc
        subst h7
        rw [show fl7 R 7 i = flawIf (nameDup R i) 7 i 0 from if_pos rfl, hdup]
        rw [hacc] at hit
        refine go0 ?_
        refine runs_loop (fun k e m' => ∃ (j : Nat) (gr : Grow), j ≤ i ∧ GrowsA m gr m' ∧ m'.var m.vars.length = some R.row ∧ m'.var n5 = some p.row ∧ k = i - j ∧
         e = [(1, AV.v (.int .i64 7)), (2, .ptr m.vars.length 0), (5, .lst gr 3 (rowsFl (acc ++ flawIf (((R.phases.map Ph.name).take j).any fun y => decide (y = p.name)) 7 i 0))), (8, .v (.int .i64 (i : Int))), (9, .ptr n5 0), (10, .v (.int .i64 (j : Int)))]) (k := i) ⟨0, _, Nat.zero_le _, hG1, hw1, hp1, rfl, by rw [List.take_zero]; show _ = [_, _, (5, AV.lst gr 3 (rowsFl (acc ++ []))), _, _, _]; rw [List.append_nil]; rfl⟩ ?_
        rintro k e m' ⟨j, gr, hj0, hG, hw, hpv, rfl, rfl⟩
        refine go0 ?_
        refine runs_cond rfl (fun hc => ?_) (fun hc => ?_)
        ·have hj1 : j < i := by have := of_decide_eq_true hc; omega
         have hj2 : j < R.phases.length := by omega
         have f3 := atPh (g := .no) (kk := .i64) hj2
         have hNx : ((R.phases.map Ph.name).take (j + 1)).any (fun y => decide (y = p.name)) = (((R.phases.map Ph.name).take j).any (fun y => decide (y = p.name)) || decide ((R.phases.getD j ph0).name = p.name)) := by
          rw [take_next (d := ⟨#[]⟩) (by rw [List.length_map]; exact hj2), List.any_append]
          have : (R.phases.map Ph.name).getD j ⟨#[]⟩ = (R.phases.getD j ph0).name := by simp [List.getD, List.getElem?_eq_getElem hj2]
          rw [this]
          simp
         have l3 := lpRcPhases hw
         have l4 := lpPhName hpv
         have r6 := next_i64 (i := j) (by omega)
         generalize R.phases.getD j ph0 = x at f3 hNx
         generalize hbn : ((R.phases.map Ph.name).take (j + 1)).any (fun y => decide (y = p.name)) = bn at hNx
         generalize ((R.phases.map Ph.name).take j).any (fun y => decide (y = p.name)) = bj at hNx hG
         rw [← bytes_dec] at hNx
         refine go0 ?_
         refine runs_ops_drawn_kept (by kernel_rfl) ?_
         cases q0 : (x.name == p.name) with
         | false =>
          rw [q0, Bool.or_false] at hNx
          subst hNx
          refine go1 (jn @l3 (jn @f3 (jn @l4 @q0))) ?_
          refine runs_cond rfl (fun hc => by cases hc) (fun hc => ?_)
          refine go1 @r6 ?_
          exact ⟨i - (j + 1), by omega, j + 1, _, hj1, hG, hw, hpv, rfl, by rw [hbn]⟩
         | true =>
          rw [q0, Bool.or_true] at hNx
          subst hNx
          cases bj with
          | true =>
           rw [show flawIf true 7 i 0 = [⟨7, i, 0⟩] from rfl] at *
           have hla : ((acc ++ [(⟨7, i, 0⟩ : Fl)]).getD ((acc ++ [(⟨7, i, 0⟩ : Fl)]).length - 1) fl0).item = i := by rw [last_app]
           have hz : (acc ++ [(⟨7, i, 0⟩ : Fl)]).length = acc.length + 1 := by simp
           generalize hL : acc ++ [(⟨7, i, 0⟩ : Fl)] = L at hla hz
           have z0 : (((L.length : Nat) : Int) == 0) = false := by simp only [beq_eq_false_iff_ne]; omega
           have r1 : IntKind.i64.wrap (((L.length : Nat) : Int) - 1) = ((L.length - 1 : Nat) : Int) := by rw [i64_wrap (by omega) (by omega)]; omega
           have f4 := atFl (g := gr) (kk := .i64) (l := L) (i := L.length - 1) (by omega)
           generalize L.getD (L.length - 1) fl0 = y at f4 hla
           have q9 : (y.item != (i : Int)) = false := by rw [hla]; simp
           refine go1 (jn @l3 (jn @f3 (jn @l4 (jn @q0 (jn @z0 (jn @r1 (jn @f4 @q9))))))) ?_
           refine runs_cond rfl (fun hc => by cases hc) (fun hc => ?_)
           refine go1 @r6 ?_
           exact ⟨i - (j + 1), by omega, j + 1, _, hj1, hG, hw, hpv, rfl, by rw [hbn, ← hL]; rfl⟩
          | false =>
           rw [show flawIf false 7 i 0 = [] from rfl, List.append_nil] at *
           obtain ⟨g2, m2, a1, hG2, hV2⟩ := app_fl (g2 := .full) hG acc 7 i 0 (by omega)
           by_cases hz : acc.length = 0
           ·have z0 : (((acc.length : Nat) : Int) == 0) = true := by simp only [beq_iff_eq]; omega
            refine go1 (jn @l3 (jn @f3 (jn @l4 (jn @q0 @z0)))) ?_
            refine runs_cond rfl (fun hc => ?_) (fun hc => by cases hc)
            refine go1 (jn @a1 @r6) ?_
            exact ⟨i - (j + 1), by omega, j + 1, _, hj1, hG2, by rw [hV2]; exact hw, by rw [hV2]; exact hpv, rfl, by rw [hbn]; rfl⟩
           ·have z0 : (((acc.length : Nat) : Int) == 0) = false := by simp only [beq_eq_false_iff_ne]; omega
            have r1 : IntKind.i64.wrap (((acc.length : Nat) : Int) - 1) = ((acc.length - 1 : Nat) : Int) := by rw [i64_wrap (by omega) (by omega)]; omega
            have f4 := atFl (g := gr) (kk := .i64) (l := acc) (i := acc.length - 1) (by omega)
            have q9 := last_item hit hz
            generalize acc.getD (acc.length - 1) fl0 = y at f4 q9
            refine go1 (jn @l3 (jn @f3 (jn @l4 (jn @q0 (jn @z0 (jn @r1 (jn @f4 @q9))))))) ?_
            refine runs_cond rfl (fun hc => ?_) (fun hc => by cases hc)
            refine go1 (jn @a1 @r6) ?_
            exact ⟨i - (j + 1), by omega, j + 1, _, hj1, hG2, by rw [hV2]; exact hw, by rw [hV2]; exact hpv, rfl, by rw [hbn]; rfl⟩
        ·have hj1 : j = i := by have := of_decide_eq_false hc; omega
         subst hj1
         refine go0 ?_
         exact ⟨rfl, _, _, hG, hw, hpv, rfl⟩
       ·have h7 : rule ≠ 7 := by simpa using hc
        rw [show fl7 R rule i = [] from if_neg h7, List.append_nil]
        refine go0 ?_
        exact ⟨rfl, _, _, hG1, hw1, hp1, rfl⟩
      rintro e2 m2 ⟨gr2, E, hG2, hw2, hp2, rfl⟩
      refine next_normal ?_
      -- the lengths
      have l0 := vrRc hw2
      generalize hacc2 : acc ++ fl7 R rule i = acc2 at hG2
      have hlen2 : acc2.length ≤ acc.length + 1 := by rw [← hacc2, List.length_append]; omega
      have hR22 : ∀ (bb : Bool), bb = ((rule == 8) && R.lastBad i) → fl8 R rule i = if bb then [⟨rule, i, 0⟩] else [] := fun bb h => by
       unfold fl8 flawIf
       rw [h]
       by_cases h8 : rule = 8
       ·subst h8; rfl
       ·rw [if_neg h8, show (rule == 8) = false by simpa using h8, Bool.false_and]; rfl
      repeat (refine runs_seq ?_)
      refine runs_ops_kept ?_
      refine ops_rcut ((1, AV.v (.int .i64 rule)) :: (2, .ptr m.vars.length 0) :: (5, .lst gr2 3 (rowsFl acc2)) :: (8, .v (.int .i64 (i : Int))) :: (9, .ptr n5 0) :: [(100, .v (.bool ((rule == 8) && R.lastBad i)))]) m2 ?_ ?_
      ·cases q8 : (rule == 8) with
       | true =>
        refine go1 (jn @q8 (jn @l0 (jn @t2 @hl8))) ?_
        exact ⟨rfl, rfl⟩
       | false =>
        refine go1 @q8 ?_
        exact ⟨rfl, rfl⟩
      repeat (first | refine next_normal ?_ | refine runs_seq ?_)
      refine runs_icut (fun e2 m2 => ∃ gr2 E, GrowsA m gr2 m2 ∧ m2.var m.vars.length = some R.row ∧ m2.var n5 = some p.row ∧ e2 = (1, AV.v (.int .i64 rule)) :: (2, .ptr m.vars.length 0) :: (5, .lst gr2 3 (rowsFl (acc2 ++ fl8 R rule i))) :: (8, .v (.int .i64 (i : Int))) :: (9, .ptr n5 0) :: E) ?_ ?_
      ·refine runs_cond rfl (fun hc => ?_) (fun hc => ?_)
       ·rw [hR22 true hc.symm]
        obtain ⟨g3, m3, a1, hG3, hV3⟩ := app_fl (g2 := .full) hG2 acc2 rule i 0 (by omega)
        refine go1 @a1 ?_
        exact ⟨rfl, _, _, hG3, by rw [hV3]; exact hw2, by rw [hV3]; exact hp2, rfl⟩
       ·rw [hR22 false hc.symm, if_neg (by decide), List.append_nil]
        refine go0 ?_
        exact ⟨rfl, _, _, hG2, hw2, hp2, rfl⟩
      rintro e3 m3 ⟨gr3, E3, hG3, hw3, hp3, rfl⟩
      refine next_normal ?_
      -- the frozen ones
      generalize hacc3 : acc2 ++ fl8 R rule i = acc3 at hG3
      have hlen3 : acc3.length ≤ acc2.length + 1 := by rw [← hacc3, List.length_append]; omega
      refine go0 ?_
      refine runs_xcut (.exit 6) (fun e2 m2 => ∃ gr2 E, GrowsA m gr2 m2 ∧ m2.var m.vars.length = some R.row ∧ m2.var n5 = some p.row ∧ e2 = (1, AV.v (.int .i64 rule)) :: (2, .ptr m.vars.length 0) :: (5, .lst gr2 3 (rowsFl (acc3 ++ fl10 R rule i))) :: (8, .v (.int .i64 (i : Int))) :: (9, .ptr n5 0) :: E) ?_ ?_
      ·by_cases h10 : rule = 10
       ·subst h10
        have b10 : ((10 : Int) == 10) = true := rfl
        rw [e10, if_pos rfl]
        refine go0 ?_
        refine runs_loop (fun k e m' => ∃ (j : Nat) (gr : Grow), j ≤ p.frozen.length ∧ GrowsA m gr m' ∧ m'.var m.vars.length = some R.row ∧ m'.var n5 = some p.row ∧ k = p.frozen.length - j ∧
         e = [(1, AV.v (.int .i64 10)), (2, .ptr m.vars.length 0), (5, .lst gr 3 (rowsFl (acc3 ++ upto j fun k => flawIf (R.frozenBad p k) 10 i k))), (8, .v (.int .i64 (i : Int))), (9, .ptr n5 0), (11, .v (.int .i64 (j : Int)))]) (k := p.frozen.length) ⟨0, _, Nat.zero_le _, hG3, hw3, hp3, rfl, by rw [upto_zero, List.append_nil]; rfl⟩ ?_
        rintro k e m' ⟨j, gr, hj0, hG, hw, hpv, rfl, rfl⟩
        have y1 := lpPhFrozen hpv
        have y2 := lpRcGroups hw
        by_cases hj1 : j < p.frozen.length
        ·have bj : decide ((j : Int) < (p.frozen.length : Int)) = true := decide_eq_true (by omega)
         refine go1 (jn @y1 (jn @bj @b10)) ?_
         refine runs_cond rfl (fun hc => ?_) (fun hc => by cases hc)
         have hpf := hp.1
         have c1 := fun mm => firstG_at (m := mm) (g := .no) (l := p.frozen) (i := j) (by omega) hj1
         have d1 := place_self hj1
         have hN5 := @upto_next j (fun k => flawIf (R.frozenBad p k) 10 i k)
         have hB5 := @upto_len (fun k => flawIf (R.frozenBad p k) 10 i k) 1 j fun k _ => flawIf_len ..
         have hbad : R.frozenBad p j = (!among R.groups (p.frozen.getD j ⟨#[]⟩) || decide (placeOf p.frozen (p.frozen.getD j ⟨#[]⟩) < (j : Int))) := rfl
         have f4 := atStrs (g := .no) (kk := .i64) hj1
         have hg64 := hsm.2.1
         have c2 := fun mm => placeG_eq (m := mm) (g := .no) (s := p.frozen.getD j ⟨#[]⟩) (show R.groups.length ≤ 9223372036854775807 by omega)
         have d2 := place_neg R.groups (p.frozen.getD j ⟨#[]⟩)
         have r6 := next_i64 (i := j) (by omega)
         generalize (placeOf p.frozen (p.frozen.getD j ⟨#[]⟩) == (j : Int)) = qb at c1 d1
         generalize decide (placeOf p.frozen (p.frozen.getD j ⟨#[]⟩) < (j : Int)) = qc at d1 hbad
         generalize p.frozen.getD j ⟨#[]⟩ = s at f4 c2 d2 hbad
         generalize placeOf R.groups s = q2 at c2 d2
         generalize (upto j fun k => flawIf (R.frozenBad p k) 10 i k) = fl5 at hG hN5 hB5
         generalize R.frozenBad p j = bad at hN5 hbad
         refine go0 ?_
         refine runs_ops_drawn_kept (by kernel_rfl) ?_
         refine ops_rcut ((1, AV.v (.int .i64 10)) :: (2, .ptr m.vars.length 0) :: (5, .lst gr 3 (rowsFl (acc3 ++ fl5))) :: (8, .v (.int .i64 (i : Int))) :: (9, .ptr n5 0) :: (11, .v (.int .i64 (j : Int))) :: [(133, .v (.bool bad))]) m' ?_ ?_
         ·subst hbad
          cases qc with
          | true =>
           refine go1 (jn @y1 (jn @t1 (jn @c1 @d1))) ?_
           exact ⟨by rw [Bool.or_true], rfl⟩
          | false =>
           rw [Bool.or_false]
           refine go1 (jn @y1 (jn @t1 (jn @c1 (jn @d1 (jn @y2 (jn @f4 (jn @t3 (jn @c2 @d2)))))))) ?_
           exact ⟨rfl, rfl⟩
         repeat (first | refine next_normal ?_ | refine runs_seq ?_)
         refine runs_icut (fun e2 m2 => ∃ gr2 E, GrowsA m gr2 m2 ∧ m2.var m.vars.length = some R.row ∧ m2.var n5 = some p.row ∧ e2 = (1, AV.v (.int .i64 10)) :: (2, .ptr m.vars.length 0) :: (5, .lst gr2 3 (rowsFl (acc3 ++ (fl5 ++ flawIf bad 10 i j)))) :: (8, .v (.int .i64 (i : Int))) :: (9, .ptr n5 0) :: (11, .v (.int .i64 (j : Int))) :: E) ?_ ?_
         ·refine runs_cond rfl (fun hc => ?_) (fun hc => ?_)
          ·rw [hc, show flawIf true 10 i j = [⟨10, i, j⟩] from rfl, ← List.append_assoc]
           obtain ⟨g4, m4, a1, hG4, hV4⟩ := app_fl (g2 := .full) hG (acc3 ++ fl5) 10 i j (by rw [List.length_append]; omega)
           refine go1 @a1 ?_
           exact ⟨rfl, _, _, hG4, by rw [hV4]; exact hw, by rw [hV4]; exact hpv, rfl⟩
          ·rw [hc, show flawIf false 10 i j = [] from rfl, List.append_nil]
           refine go0 ?_
           exact ⟨rfl, _, _, hG, hw, hpv, rfl⟩
         rintro e6 m6 ⟨gr6, E6, hG6, hw6, hp6, rfl⟩
         refine go1 @r6 ?_
         exact ⟨p.frozen.length - (j + 1), by omega, j + 1, _, hj1, hG6, hw6, hp6, rfl, by rw [hN5]⟩
        ·have hj2 : j = p.frozen.length := by omega
         subst hj2
         have bj : decide ((p.frozen.length : Int) < (p.frozen.length : Int)) = false := decide_eq_false (by omega)
         refine go1 (jn @y1 @bj) ?_
         refine runs_cond rfl (fun hc => by cases hc) (fun hc => ?_)
         refine go0 ?_
         exact ⟨rfl, _, _, hG, hw, hpv, rfl⟩
       ·have b10 : (rule == 10) = false := by simpa using h10
        rw [e10, if_neg h10, List.append_nil]
        have y1 := lpPhFrozen hp3
        refine go0 ?_
        refine runs_loop (fun k e m' => m3 = m' ∧ k = 0 ∧
         e = [(1, AV.v (.int .i64 rule)), (2, .ptr m.vars.length 0), (5, .lst gr3 3 (rowsFl acc3)), (8, .v (.int .i64 (i : Int))), (9, .ptr n5 0), (11, .v (.int .i64 0))]) (k := 0) ⟨rfl, rfl, rfl⟩ ?_
        rintro k e m' ⟨rfl, rfl, rfl⟩
        cases bj : decide ((0 : Int) < (p.frozen.length : Int)) with
        | true =>
         refine go1 (jn @y1 (jn @bj @b10)) ?_
         refine runs_cond rfl (fun hc => by cases hc) (fun hc => ?_)
         refine go0 ?_
         exact ⟨rfl, _, _, hG3, hw3, hp3, rfl⟩
        | false =>
         refine go1 (jn @y1 @bj) ?_
         refine runs_cond rfl (fun hc => by cases hc) (fun hc => ?_)
         refine go0 ?_
         exact ⟨rfl, _, _, hG3, hw3, hp3, rfl⟩
      rintro e4 m4 ⟨gr4, E4, hG4, hw4, hp4, rfl⟩
      -- the sets
      generalize hacc4 : acc3 ++ fl10 R rule i = acc4 at hG4
      have hlen4 : acc4.length ≤ acc3.length + 64 := by rw [← hacc4, List.length_append]; omega
      have hround : upto (i + 1) (phFl R rule) = acc4 ++ fl11 R rule i := by
       rw [hN, hphi, ← hacc4, ← hacc3, ← hacc2]
       simp only [List.append_assoc]
      have r6 := next_i64 (i := i) (by omega)
      refine go0 ?_
      by_cases h11 : 11 ≤ rule ∧ rule ≤ 13
      ·rw [e11, if_pos h11] at hround
       have b11 : decide (rule ≥ 11) = true := decide_eq_true h11.1
       have b13 : decide (rule ≤ 13) = true := decide_eq_true h11.2
       have h123 : rule = 11 ∨ rule = 12 ∨ rule = 13 := by omega
       refine runs_loop (fun k e m' => ∃ (j : Nat) (gr : Grow), j ≤ p.sets.length ∧ GrowsA m gr m' ∧ m'.var m.vars.length = some R.row ∧ m'.var n5 = some p.row ∧ k = p.sets.length - j ∧
        e = [(1, AV.v (.int .i64 rule)), (2, .ptr m.vars.length 0), (5, .lst gr 3 (rowsFl (acc4 ++ upto j fun k => flawIf (!R.setOk rule i k) rule i k))), (8, .v (.int .i64 (i : Int))), (9, .ptr n5 0), (12, .v (.int .i64 (j : Int)))]) (k := p.sets.length) ⟨0, _, Nat.zero_le _, hG4, hw4, hp4, rfl, by rw [upto_zero, List.append_nil]; rfl⟩ ?_
       rintro k e m' ⟨j, gr, hj0, hG, hw, hpv, rfl, rfl⟩
       have y1 := lpPhSets hpv
       have y2 := vrRc hw
       by_cases hj1 : j < p.sets.length
       ·have bj : decide ((j : Int) < (p.sets.length : Int)) = true := decide_eq_true (by omega)
        have c1 := fun mm => hset j mm h123 hj1
        have hN5 := @upto_next j (fun k => flawIf (!R.setOk rule i k) rule i k)
        have hB5 := @upto_len (fun k => flawIf (!R.setOk rule i k) rule i k) 1 j fun k _ => flawIf_len ..
        have hps := hp.2.1
        have r7 := next_i64 (i := j) (by omega)
        generalize (upto j fun k => flawIf (!R.setOk rule i k) rule i k) = fl5 at hG hN5 hB5
        generalize R.setOk rule i j = ok at hN5 c1
        refine go1 (jn @y1 (jn @bj (jn @b11 @b13))) ?_
        refine runs_cond rfl (fun hc => ?_) (fun hc => by cases hc)
        refine go1 (jn @y2 (jn @t4 @c1)) ?_
        refine runs_cond rfl (fun hc => ?_) (fun hc => ?_)
        ·rw [show flawIf (!ok) rule i j = [⟨rule, i, j⟩] from if_pos hc] at hN5
         obtain ⟨g4, m4, a1, hG4, hV4⟩ := app_fl (g2 := .full) hG (acc4 ++ fl5) rule i j (by rw [List.length_append]; omega)
         refine go1 (jn @a1 @r7) ?_
         exact ⟨p.sets.length - (j + 1), by omega, j + 1, _, hj1, hG4, by rw [hV4]; exact hw, by rw [hV4]; exact hpv, rfl, by rw [hN5, List.append_assoc]⟩
        ·rw [show flawIf (!ok) rule i j = [] from if_neg (by rw [hc]; decide), List.append_nil] at hN5
         refine go1 @r7 ?_
         exact ⟨p.sets.length - (j + 1), by omega, j + 1, _, hj1, hG, hw, hpv, rfl, by rw [hN5]⟩
       ·have hj2 : j = p.sets.length := by omega
        subst hj2
        have bj : decide ((p.sets.length : Int) < (p.sets.length : Int)) = false := decide_eq_false (by omega)
        refine go1 (jn @y1 @bj) ?_
        refine runs_cond rfl (fun hc => by cases hc) (fun hc => ?_)
        refine go1 @r6 ?_
        exact ⟨R.phases.length - (i + 1), by omega, i + 1, _, hi1, hG, hw, rfl, by rw [hround]⟩
      ·rw [e11, if_neg h11, List.append_nil] at hround
       have y1 := lpPhSets hp4
       have h13 : ¬ (rule ≥ 11) ∨ ¬ (rule ≤ 13) := by omega
       refine runs_loop (fun k e m' => m4 = m' ∧ k = 0 ∧
        e = [(1, AV.v (.int .i64 rule)), (2, .ptr m.vars.length 0), (5, .lst gr4 3 (rowsFl acc4)), (8, .v (.int .i64 (i : Int))), (9, .ptr n5 0), (12, .v (.int .i64 0))]) (k := 0) ⟨rfl, rfl, rfl⟩ ?_
       rintro k e m' ⟨rfl, rfl, rfl⟩
       cases bj : decide ((0 : Int) < (p.sets.length : Int)) with
       | true =>
        cases b11 : decide (rule ≥ 11) with
        | true =>
         have b13 : decide (rule ≤ 13) = false := decide_eq_false (by have := of_decide_eq_true b11; omega)
         refine go1 (jn @y1 (jn @bj (jn @b11 @b13))) ?_
         refine runs_cond rfl (fun hc => by cases hc) (fun hc => ?_)
         refine go1 @r6 ?_
         exact ⟨R.phases.length - (i + 1), by omega, i + 1, _, hi1, hG4, hw4, rfl, by rw [hround]⟩
        | false =>
         refine go1 (jn @y1 (jn @bj @b11)) ?_
         refine runs_cond rfl (fun hc => by cases hc) (fun hc => ?_)
         refine go1 @r6 ?_
         exact ⟨R.phases.length - (i + 1), by omega, i + 1, _, hi1, hG4, hw4, rfl, by rw [hround]⟩
       | false =>
        refine go1 (jn @y1 @bj) ?_
        refine runs_cond rfl (fun hc => by cases hc) (fun hc => ?_)
        refine go1 @r6 ?_
        exact ⟨R.phases.length - (i + 1), by omega, i + 1, _, hi1, hG4, hw4, rfl, by rw [hround]⟩
     ·have hi1 : i = R.phases.length := by have := of_decide_eq_false hc; omega
      subst hi1
      have l0 := vrRc hw
      have c5 := fun mm => wholeRG_at (m := mm) hmay hfit hrule hb
      have hB := @upto_len (phFl R rule) 130 R.phases.length fun k _ => phFl_len hsm rule k
      generalize upto R.phases.length (phFl R rule) = acc at hG hB
      generalize R.wholeBad rule = wb at c5
      refine go1 (jn @l0 (jn @t5 @c5)) ?_
      refine runs_cond rfl (fun hc => ?_) (fun hc => ?_)
      ·obtain ⟨g2, m2, a1, hG2, hV2⟩ := app_fl (g2 := .full) hG acc rule 0 0 (by omega)
       rw [show flawIf wb rule 0 0 = [⟨rule, 0, 0⟩] from if_pos hc]
       refine go1 @a1 ?_
       exact leaves_lst rfl rfl (growsA_fin hG2)
      ·rw [show flawIf wb rule 0 0 = [] from if_neg (by rw [hc]; decide), List.append_nil]
       refine go0 ?_
       exact leaves_lst rfl rfl (growsA_fin hG)
   ·cases h
  ·cases h
 ·cases h
def keptRG (b : Bool) : List AV → Mem → Option (AV × Mem)
 | [.agg cs, .v (.int .i64 rule)], m =>
  match unRc cs with
  | some R => if R.may = true ∧ R.fit ∧ isRule rule ∧ (b = true ∨ rule ≠ 9) then some (.v (.bool (R.kept rule)), m) else none
  | none => none
 | _, _ => none
theorem keptRG_at {R : Rc} {m : Mem} {b : Bool} {rule : Int} (h : R.may = true) (h1 : R.fit) (h2 : isRule rule) (h3 : b = true ∨ rule ≠ 9) : keptRG b [.agg R.row, .v (.int .i64 rule)] m = some (.v (.bool (R.kept rule)), m) := by
 simp only [keptRG, unRc_row]
 rw [if_pos ⟨h, h1, h2, h3⟩]
def kpKept20 : Nat → Option (List Nat) := fun
 | 0 => some [1, 2]
 | 1 => some [4]
 | _ => none
attribute [go_sem] kpKept20
def tab_kept20 (b : Bool) : List (FuncId × (List AV → Mem → Option (AV × Mem))) := [(46, brokenRG b)]
theorem kept20_ok (b : Bool) (hB : FunOk Tryz.prog 46 (brokenRG b)) : FunOk Tryz.prog 39 (keptRG b) := by
 have hC := table_ok (P := Tryz.prog) (l := tab_kept20 b) (table_more hB table_nil)
 have t1 := fun args mm => table_at (l := tab_kept20 b) (f := 46) (args := args) (m := mm) rfl
 refine fun_ok mixed hC Tryz.func39 rfl kpKept20 false rfl fun args m r h => ?_
 unfold keptRG at h
 split at h
 ·rename_i cs rule
  split at h
  ·rename_i R hR
   obtain rfl := unRc_some hR
   split at h
   ·rename_i hyp
    obtain ⟨hmay, hfit, hrule, hb⟩ := hyp
    simp only [Option.some.injEq] at h
    subst h
    refine ⟨Nat.le_of_ble_eq_true rfl, ?_⟩
    refine en ?_
    have hA := above_push (cs := R.row) (above_self m)
    have hv : (m.push R.row).var m.vars.length = some R.row := push_var
    have nr := newRc (m := m) (x := R)
    generalize m.push R.row = m1 at hA hv nr
    have l0 := vrRc hv
    have c1 := fun mm => brokenRG_at (m := mm) hmay hfit hrule hb
    unfold Rc.kept
    refine go1 (jn @nr (jn @l0 (jn @t1 @c1))) ?_
    exact leaves_fin rfl rfl (above_fin hA)
   ·cases h
  ·cases h
 ·cases h
/-- The rules in their order: the ninth asks for three others. -/
theorem noneG_ok {P : Program} {f : FuncId} : FunOk P f fun _ _ => none := fun args m r m' h => by cases h
theorem whole20_0 : FunOk Tryz.prog 102 (wholeRG false) := whole20_ok false _ noneG_ok fun h => by cases h
theorem broken20_0 : FunOk Tryz.prog 46 (brokenRG false) := broken20_ok false whole20_0
theorem kept20_0 : FunOk Tryz.prog 39 (keptRG false) := kept20_ok false broken20_0
theorem whole20_1 : FunOk Tryz.prog 102 (wholeRG true) := whole20_ok true _ kept20_0 fun _ R mm rule h1 h2 h3 => keptRG_at h1 h2 (by unfold isRule; omega) (.inr (by omega))
theorem broken20_1 : FunOk Tryz.prog 46 (brokenRG true) := broken20_ok true whole20_1
theorem kept20_1 : FunOk Tryz.prog 39 (keptRG true) := kept20_ok true broken20_1
end
section
attribute [local irreducible] Next Inside Runs Ops table
attribute [local go_sem] szStr szInt Option.getD_some isNil loadStr loadInt mkInts0 mkInts1 mkStrs0 mkStrs1 rowsS_len rowsI_len evStr
def lowB (c : Nat) : Bool := decide (97 ≤ c) && decide (c ≤ 122)
def otherB (c : Nat) : Bool := (decide (48 ≤ c) && decide (c ≤ 57)) || decide (c = 95)
theorem letter_parts (c : Nat) (f : Bool) : letterB (c : Int) f = (lowB c || (!f && otherB c)) := by
 unfold letterB lowB otherB
 have e1 : decide (97 ≤ (c : Int)) = decide (97 ≤ c) := by congr 1; simp; omega
 have e2 : decide ((c : Int) ≤ 122) = decide (c ≤ 122) := by congr 1; simp; omega
 have e3 : decide (48 ≤ (c : Int)) = decide (48 ≤ c) := by congr 1; simp; omega
 have e4 : decide ((c : Int) ≤ 57) = decide (c ≤ 57) := by congr 1; simp; omega
 have e5 : decide ((c : Int) = 95) = decide (c = 95) := by congr 1; simp; omega
 rw [e1, e2, e3, e4, e5]
def kpRefIs : Nat → Option (List Nat) := fun _ => some [0, 2, 3, 4, 5, 9, 47]
attribute [go_sem] kpRefIs
def tabRefIs : List (FuncId × (List AV → Mem → Option (AV × Mem))) := [(94, keywordsG), (93, placeG)]
theorem refIs_ok : FunOk Tryz.prog 42 isNameG := by
 have hC := table_ok (P := Tryz.prog) (l := tabRefIs) (table_more keywords_ok (table_more refPlace_ok table_nil))
 have t1 := fun args mm => table_at (l := tabRefIs) (f := 94) (args := args) (m := mm) rfl
 have t2 := fun args mm => table_at (l := tabRefIs) (f := 93) (args := args) (m := mm) rfl
 refine fun_ok mixed hC Tryz.func42 rfl kpRefIs false rfl fun args m r h => ?_
 unfold isNameG at h
 split at h
 ·rename_i s
  split at h
  ·rename_i hlen
   simp only [Option.some.injEq] at h
   subst h
   refine ⟨Nat.le_of_ble_eq_true rfl, ?_⟩
   refine en ?_
   refine go0 ?_
   refine runs_loop (fun k e m' => ∃ (i : Nat) (x4 x5 x9 x47 : AV), i ≤ s.size ∧ lettersTo s i = true ∧ m = m' ∧ k = s.size - i ∧
    e = [(0, AV.v (.string s)), (2, .v (.bool false)), (3, .v (.int .i64 (i : Int))), (4, x4), (5, x5), (9, x9), (47, x47)]) (k := s.size) ⟨0, _, _, _, _, Nat.zero_le _, rfl, rfl, rfl, rfl⟩ ?_
   rintro k e m' ⟨i, x4, x5, x9, x47, hi, hok, rfl, rfl, rfl⟩
   refine go0 ?_
   refine runs_cond rfl (fun hc => ?_) (fun hc => ?_)
   ·have hi1 : i < s.size := by have := of_decide_eq_true hc; omega
    have fi := index_str (P := Tryz.prog) (k := .i64) strS hi1
    have hl := fun n => lettersTo.eq_2 s n
    have hname := name_no hi1
    have hnext : letterB ((s.get! i).toNat : Nat) (i == 0) = true → lettersTo s (i + 1) = true := fun h => by rw [lettersTo, hok, h]; rfl
    rw [letter_parts] at hname hnext
    generalize (s.get! i).toNat = c at fi hname hnext
    refine go1 @fi ?_
    refine ops_cut (K' := fun e' m' => restr (kpRefIs 4) e' = [(0, AV.v (.string s)), (2, .v (.bool false)), (3, .v (.int .i64 (i : Int))), (4, .v (.bool (lowB c))), (5, x5), (9, .v (.bool (decide ((i : Int) < (s.size : Int))))), (47, x47)] ∧ m = m') ?_ ?_
    ·by_cases h1 : 97 ≤ c
     ·have b1 : decide ((c : Int) ≥ 97) = true := decide_eq_true (by omega)
      have e1 : decide ((c : Int) ≤ 122) = lowB c := by simp [lowB, h1]; omega
      refine go1 (jn @fi (jn @b1 @e1)) ?_
      exact ops_nil ⟨by simp only [restr, kpRefIs, List.map_cons, List.map_nil, Ev.get, reduceIte, Nat.reduceEqDiff], rfl⟩
     ·have b1 : decide ((c : Int) ≥ 97) = false := decide_eq_false (by omega)
      have e1 : lowB c = false := by simp [lowB, h1]
      rw [e1]
      refine go1 (jn @fi @b1) ?_
      exact ops_nil ⟨by simp only [restr, kpRefIs, List.map_cons, List.map_nil, Ev.get, reduceIte, Nat.reduceEqDiff], rfl⟩
    ·rintro e' m' ⟨he, rfl⟩ e2 h2
     rw [he] at h2
     subst h2
     refine go1 @fi ?_
     refine ops_cut (K' := fun e' m' => restr (kpRefIs 5) e' = [(0, AV.v (.string s)), (2, .v (.bool false)), (3, .v (.int .i64 (i : Int))), (4, .v (.bool (lowB c))), (5, .v (.bool (otherB c))), (9, .v (.bool (decide ((i : Int) < (s.size : Int))))), (47, x47)] ∧ m = m') ?_ ?_
     ·by_cases h1 : 48 ≤ c
      ·have b1 : decide ((c : Int) ≥ 48) = true := decide_eq_true (by omega)
       by_cases h2 : c ≤ 57
       ·have b2 : decide ((c : Int) ≤ 57) = true := decide_eq_true (by omega)
        have e1 : otherB c = true := by simp [otherB, h1, h2]
        rw [e1]
        refine go1 (jn @fi (jn @b1 @b2)) ?_
        exact ops_nil ⟨by simp only [restr, kpRefIs, List.map_cons, List.map_nil, Ev.get, reduceIte, Nat.reduceEqDiff], rfl⟩
       ·have b2 : decide ((c : Int) ≤ 57) = false := decide_eq_false (by omega)
        have e1 : ((c : Int) == 95) = otherB c := by
         by_cases h3 : c = 95
         ·subst h3; rfl
         ·rw [beq_eq_false_iff_ne.2 (by omega : (c : Int) ≠ 95)]; simp [otherB, h2, h3]
        refine go1 (jn @fi (jn @b1 (jn @b2 @e1))) ?_
        exact ops_nil ⟨by simp only [restr, kpRefIs, List.map_cons, List.map_nil, Ev.get, reduceIte, Nat.reduceEqDiff], rfl⟩
      ·have b1 : decide ((c : Int) ≥ 48) = false := decide_eq_false (by omega)
       have e1 : ((c : Int) == 95) = otherB c := by
        rw [beq_eq_false_iff_ne.2 (by omega : (c : Int) ≠ 95)]; simp [otherB, h1]; omega
       refine go1 (jn @fi (jn @b1 @e1)) ?_
       exact ops_nil ⟨by simp only [restr, kpRefIs, List.map_cons, List.map_nil, Ev.get, reduceIte, Nat.reduceEqDiff], rfl⟩
     ·rintro e' m' ⟨he, rfl⟩ e2 h2
      rw [he] at h2
      subst h2
      have hz : ((i : Int) == 0) = (i == 0) := by cases i <;> rfl
      refine go0 ?_
      refine ops_cut (K' := fun e' m' => restr (kpRefIs 6) e' = [(0, AV.v (.string s)), (2, .v (.bool false)), (3, .v (.int .i64 (i : Int))), (4, .v (.bool (lowB c))), (5, .v (.bool (otherB c))), (9, .v (.bool (decide ((i : Int) < (s.size : Int))))), (47, .v (.bool (!(lowB c || (!(i == 0) && otherB c)))))] ∧ m = m') ?_ ?_
      ·cases h1 : lowB c with
       | true =>
        have b1 : (!true) = false := rfl
        refine go1 @b1 ?_
        exact ops_nil ⟨by simp only [restr, kpRefIs, List.map_cons, List.map_nil, Ev.get, reduceIte, Nat.reduceEqDiff]; rfl, rfl⟩
       | false =>
        have b1 : (!false) = true := rfl
        cases h2 : (i == 0) with
        | true =>
         refine go1 (jn @b1 (jn @hz @h2)) ?_
         exact ops_nil ⟨by simp only [restr, kpRefIs, List.map_cons, List.map_nil, Ev.get, reduceIte, Nat.reduceEqDiff]; rfl, rfl⟩
        | false =>
         refine go1 (jn @b1 (jn @hz @h2)) ?_
         exact ops_nil ⟨by simp only [restr, kpRefIs, List.map_cons, List.map_nil, Ev.get, reduceIte, Nat.reduceEqDiff]; cases otherB c <;> rfl, rfl⟩
      ·rintro e' m' ⟨he, rfl⟩ e2 h2
       rw [he] at h2
       subst h2
       refine next_normal ?_
       refine runs_cond rfl (fun hc => ?_) (fun hc => ?_)
       ·rw [hname (by rw [Bool.not_eq_true'] at hc; exact hc)]
        refine go0 ?_
        exact leaves_v rfl rfl
       ·have r6 := next_i64 (i := i) (by omega)
        refine go1 @r6 ?_
        exact ⟨s.size - (i + 1), by omega, i + 1, _, _, _, _, hi1, hnext (by rw [Bool.not_eq_false'] at hc; exact hc), rfl, rfl, rfl⟩
   ·have hi1 : i = s.size := by have := of_decide_eq_false hc; omega
    subst hi1
    refine go0 ?_
    have fk : ∀ mm, keywordsG [] mm = some (.lst .no 1 (rowsS kwRef), mm) := fun _ => rfl
    have fp := fun mm => placeG_eq (m := mm) (g := .no) (l := kwRef) (s := s) (by decide)
    have kp := kw_place s
    have e3 : decide (placeOf kwRef s < 0) = !keyword s := by
     rw [← kp]
     by_cases h : 0 ≤ placeOf kwRef s
     ·rw [decide_eq_true h, decide_eq_false (by omega)]; rfl
     ·rw [decide_eq_false h, decide_eq_true (by omega)]; rfl
    by_cases h1 : 1 ≤ s.size
    ·have b1 : decide ((s.size : Int) ≥ 1) = true := decide_eq_true (by omega)
     by_cases h2 : s.size ≤ 16
     ·have b2 : decide ((s.size : Int) ≤ 16) = true := decide_eq_true (by omega)
      refine go1 (jn @b1 (jn @b2 (jn @t1 (jn @fk (jn @t2 (jn @fp @e3)))))) ?_
      exact leaves_v rfl (by simp [isName, hok, h1, h2]; rfl)
     ·have b2 : decide ((s.size : Int) ≤ 16) = false := decide_eq_false (by omega)
      refine go1 (jn @b1 (jn @b2 (jn @t1 (jn @fk (jn @t2 (jn @fp @e3)))))) ?_
      exact leaves_v rfl (by simp [isName, h2]; rfl)
    ·have b1 : decide ((s.size : Int) ≥ 1) = false := decide_eq_false (by omega)
     refine go1 (jn @b1 (jn @t1 (jn @fk (jn @t2 (jn @fp @e3))))) ?_
     exact leaves_v rfl (by simp [isName, h1]; rfl)
  ·cases h
 ·cases h
end
section
attribute [local irreducible] Next Inside Runs Ops table
attribute [local go_sem] szStr szInt Option.getD_some isNil evStr loadStr loadInt rowsI_len rowsS_len
def unJ : List (List AV) → Option (List Int)
 | [] => some []
 | [.v (.int .i64 b)] :: r => (unJ r).map fun l => b :: l
 | _ => none
theorem unJ_some : ∀ {rows : List (List AV)} {l : List Int}, unJ rows = some l → rows = rowsI l
 | [], l, h => by simp only [unJ, Option.some.injEq] at h; subst h; rfl
 | row :: r, l, h => by
  unfold unJ at h
  split at h
  ·rename_i heq; cases heq
  ·rename_i b r' heq
   cases heq
   cases hr : unJ r with
   | none => simp [hr] at h
   | some l' =>
    simp only [hr, Option.map_some, Option.some.injEq] at h
    subst h
    rw [unJ_some hr]
    rfl
  ·cases h
theorem unJ_rowsI : ∀ (l : List Int), unJ (rowsI l) = some l
 | [] => rfl
 | s :: l => by
  have e : rowsI (s :: l) = [.v (.int .i64 s)] :: rowsI l := rfl
  rw [e, unJ, unJ_rowsI l]
  rfl
def rcountsNot (x : Int) : Bool := !countB x
def rcountsG : List AV → Mem → Option (AV × Mem)
 | [.lst _ 1 rows], m =>
  match unJ rows with
  | some l => if l.length ≤ 100 then some (.v (.bool (!(l.any rcountsNot))), m) else none
  | none => none
 | _, _ => none
theorem rcountsG_at {m : Mem} {g : Grow} {l : List Int} (h : l.length ≤ 100) : rcountsG [.lst g 1 (rowsI l)] m = some (.v (.bool (!(l.any rcountsNot))), m) := by
 simp only [rcountsG, unJ_rowsI]
 rw [if_pos h]
def kp_rcounts : Nat → Option (List Nat) := fun
 | 0 => some [0]
 | 1 => some [0, 3]
 | 2 => some [0, 3, 7]
 | 3 => some [0, 3]
 | 4 => some [0, 3, 21]
 | 5 => some [2]
 | 6 => some [2]
 | _ => none
attribute [go_sem] kp_rcounts
theorem rcounts_ok : FunOk Tryz.prog 40 rcountsG := by
 have hC := table_ok (P := Tryz.prog) (l := []) table_nil
 refine fun_ok mixed hC Tryz.func40 rfl kp_rcounts false rfl fun args m r h => ?_
 unfold rcountsG at h
 split at h
 ·rename_i g rows
  split at h
  ·rename_i l hl
   obtain rfl := unJ_some hl
   split at h
   ·rename_i hlen
    simp only [Option.some.injEq] at h
    subst h
    refine ⟨Nat.le_of_ble_eq_true rfl, ?_⟩
    refine en ?_
    have hany := firstBy_any rcountsNot l 0
    refine go0 ?_
    refine runs_loop (fun k e m' => ∃ (i : Nat), i ≤ l.length ∧ firstBy rcountsNot (l.drop i) i = firstBy rcountsNot l 0 ∧ m = m' ∧ k = l.length - i ∧
     e = [(0, AV.lst g 1 (rowsI l)), (3, .v (.int .i64 (i : Int)))]) (k := l.length) ⟨0, Nat.zero_le _, rfl, rfl, rfl, rfl⟩ ?_
    rintro k e m' ⟨i, hi, hf, rfl, rfl, rfl⟩
    refine go0 ?_
    refine runs_cond rfl (fun hc => ?_) (fun hc => ?_)
    ·have hi1 : i < l.length := by have := of_decide_eq_true hc; omega
     have f1 := atInts (g := g) (kk := .i64) hi1
     have hyes := fun hp => by_yes (d := (0 : Int)) hi1 hp hf
     have hno := fun hp => by_no (d := (0 : Int)) hi1 hp hf
     have r6 := next_i64 (i := i) (by omega)
     generalize l.getD i 0 = x at f1 hyes hno
     have hx : rcountsNot x = !decide (0 ≤ x ∧ x ≤ 1099511627776) := rfl
     by_cases h0 : x < 0
     ·have b0 : decide (x < 0) = true := decide_eq_true h0
      have hy := hyes (by rw [hx, decide_eq_false (by omega)]; rfl)
      rw [hy, decide_eq_true (by omega)] at hany
      rw [← hany]
      repeat' (first | refine gos1 (jn @f1 @b0) ?_ | (refine ops_here ?_; (fail_if_success (refine ops_case (B := true) rfl rfl rfl ?_ ?_)); (fail_if_success (refine ops_case (B := false) rfl rfl rfl ?_ ?_)); refine ops_case rfl rfl rfl (fun hB => ?_) (fun hB => ?_) <;> rw [hB]) | (refine runs_here ?_; refine runs_cond rfl (fun hc => ?_) (fun hc => ?_) <;> first | (cases hc; done) | skip))
      all_goals exact leaves_v rfl rfl
     ·have b0 : decide (x < 0) = false := decide_eq_false h0
      by_cases h1 : x > 1099511627776
      ·have b1 : decide (x > 1099511627776) = true := decide_eq_true h1
       have hy := hyes (by rw [hx, decide_eq_false (by omega)]; rfl)
       rw [hy, decide_eq_true (by omega)] at hany
       rw [← hany]
       repeat' (first | refine gos1 (jn @f1 (jn @b0 @b1)) ?_ | (refine ops_here ?_; (fail_if_success (refine ops_case (B := true) rfl rfl rfl ?_ ?_)); (fail_if_success (refine ops_case (B := false) rfl rfl rfl ?_ ?_)); refine ops_case rfl rfl rfl (fun hB => ?_) (fun hB => ?_) <;> rw [hB]) | (refine runs_here ?_; refine runs_cond rfl (fun hc => ?_) (fun hc => ?_) <;> first | (cases hc; done) | skip))
       all_goals exact leaves_v rfl rfl
      ·have b1 : decide (x > 1099511627776) = false := decide_eq_false h1
       have hn := hno (by rw [hx, decide_eq_true (by omega)]; rfl)
       refine go1 (jn @f1 (jn @b0 @b1)) ?_
       refine runs_cond rfl (fun hc => by cases hc) (fun hc => ?_)
       refine go1 @r6 ?_
       exact ⟨l.length - (i + 1), by omega, i + 1, hi1, hn, rfl, rfl, rfl⟩
    ·have hi1 : i = l.length := by have := of_decide_eq_false hc; omega
     subst hi1
     rw [by_end hf] at hany
     rw [← hany]
     refine go0 ?_
     exact leaves_v rfl rfl
   ·cases h
  ·cases h
 ·cases h
def rvaluesNot (x : Int) : Bool := !valueB x
def rvaluesG : List AV → Mem → Option (AV × Mem)
 | [.lst _ 1 rows], m =>
  match unJ rows with
  | some l => if l.length ≤ 100 then some (.v (.bool (!(l.any rvaluesNot))), m) else none
  | none => none
 | _, _ => none
theorem rvaluesG_at {m : Mem} {g : Grow} {l : List Int} (h : l.length ≤ 100) : rvaluesG [.lst g 1 (rowsI l)] m = some (.v (.bool (!(l.any rvaluesNot))), m) := by
 simp only [rvaluesG, unJ_rowsI]
 rw [if_pos h]
def kp_rvalues : Nat → Option (List Nat) := fun
 | 0 => some [0]
 | 1 => some [0, 3]
 | 2 => some [0, 3, 7]
 | 3 => some [0, 3]
 | 4 => some [0, 3, 21]
 | 5 => some [2]
 | 6 => some [2]
 | _ => none
attribute [go_sem] kp_rvalues
theorem rvalues_ok : FunOk Tryz.prog 98 rvaluesG := by
 have hC := table_ok (P := Tryz.prog) (l := []) table_nil
 refine fun_ok mixed hC Tryz.func98 rfl kp_rvalues false rfl fun args m r h => ?_
 unfold rvaluesG at h
 split at h
 ·rename_i g rows
  split at h
  ·rename_i l hl
   obtain rfl := unJ_some hl
   split at h
   ·rename_i hlen
    simp only [Option.some.injEq] at h
    subst h
    refine ⟨Nat.le_of_ble_eq_true rfl, ?_⟩
    refine en ?_
    have hany := firstBy_any rvaluesNot l 0
    refine go0 ?_
    refine runs_loop (fun k e m' => ∃ (i : Nat), i ≤ l.length ∧ firstBy rvaluesNot (l.drop i) i = firstBy rvaluesNot l 0 ∧ m = m' ∧ k = l.length - i ∧
     e = [(0, AV.lst g 1 (rowsI l)), (3, .v (.int .i64 (i : Int)))]) (k := l.length) ⟨0, Nat.zero_le _, rfl, rfl, rfl, rfl⟩ ?_
    rintro k e m' ⟨i, hi, hf, rfl, rfl, rfl⟩
    refine go0 ?_
    refine runs_cond rfl (fun hc => ?_) (fun hc => ?_)
    ·have hi1 : i < l.length := by have := of_decide_eq_true hc; omega
     have f1 := atInts (g := g) (kk := .i64) hi1
     have hyes := fun hp => by_yes (d := (0 : Int)) hi1 hp hf
     have hno := fun hp => by_no (d := (0 : Int)) hi1 hp hf
     have r6 := next_i64 (i := i) (by omega)
     generalize l.getD i 0 = x at f1 hyes hno
     have hx : rvaluesNot x = !decide (0 ≤ x ∧ x ≤ 4503599627370496) := rfl
     by_cases h0 : x < 0
     ·have b0 : decide (x < 0) = true := decide_eq_true h0
      have hy := hyes (by rw [hx, decide_eq_false (by omega)]; rfl)
      rw [hy, decide_eq_true (by omega)] at hany
      rw [← hany]
      repeat' (first | refine gos1 (jn @f1 @b0) ?_ | (refine ops_here ?_; (fail_if_success (refine ops_case (B := true) rfl rfl rfl ?_ ?_)); (fail_if_success (refine ops_case (B := false) rfl rfl rfl ?_ ?_)); refine ops_case rfl rfl rfl (fun hB => ?_) (fun hB => ?_) <;> rw [hB]) | (refine runs_here ?_; refine runs_cond rfl (fun hc => ?_) (fun hc => ?_) <;> first | (cases hc; done) | skip))
      all_goals exact leaves_v rfl rfl
     ·have b0 : decide (x < 0) = false := decide_eq_false h0
      by_cases h1 : x > 4503599627370496
      ·have b1 : decide (x > 4503599627370496) = true := decide_eq_true h1
       have hy := hyes (by rw [hx, decide_eq_false (by omega)]; rfl)
       rw [hy, decide_eq_true (by omega)] at hany
       rw [← hany]
       repeat' (first | refine gos1 (jn @f1 (jn @b0 @b1)) ?_ | (refine ops_here ?_; (fail_if_success (refine ops_case (B := true) rfl rfl rfl ?_ ?_)); (fail_if_success (refine ops_case (B := false) rfl rfl rfl ?_ ?_)); refine ops_case rfl rfl rfl (fun hB => ?_) (fun hB => ?_) <;> rw [hB]) | (refine runs_here ?_; refine runs_cond rfl (fun hc => ?_) (fun hc => ?_) <;> first | (cases hc; done) | skip))
       all_goals exact leaves_v rfl rfl
      ·have b1 : decide (x > 4503599627370496) = false := decide_eq_false h1
       have hn := hno (by rw [hx, decide_eq_true (by omega)]; rfl)
       refine go1 (jn @f1 (jn @b0 @b1)) ?_
       refine runs_cond rfl (fun hc => by cases hc) (fun hc => ?_)
       refine go1 @r6 ?_
       exact ⟨l.length - (i + 1), by omega, i + 1, hi1, hn, rfl, rfl, rfl⟩
    ·have hi1 : i = l.length := by have := of_decide_eq_false hc; omega
     subst hi1
     rw [by_end hf] at hany
     rw [← hany]
     refine go0 ?_
     exact leaves_v rfl rfl
   ·cases h
  ·cases h
 ·cases h
def rnamedG : List AV → Mem → Option (AV × Mem)
 | [.lst _ 1 rows, .v (.int .i64 n)], m =>
  match unS rows with
  | some l => if l.length ≤ 1000 ∧ ∀ x ∈ l, okStr x then some (.v (.bool (namedB l n)), m) else none
  | none => none
 | _, _ => none
theorem rnamedG_at {m : Mem} {g : Grow} {l : List ByteArray} {n : Int} (h : l.length ≤ 1000 ∧ ∀ x ∈ l, okStr x) : rnamedG [.lst g 1 (rowsS l), .v (.int .i64 n)] m = some (.v (.bool (namedB l n)), m) := by
 simp only [rnamedG, unS_rowsS]
 rw [if_pos h]
def kp_rnamed : Nat → Option (List Nat) := fun
 | 0 => some [0, 1]
 | 1 => some [0, 1, 5]
 | 2 => some [0, 1, 5, 9]
 | 3 => some [0, 1, 5]
 | 4 => some [0, 1, 5, 17]
 | 5 => some [4]
 | 6 => some [4]
 | _ => none
attribute [go_sem] kp_rnamed
def tab_rnamed_ok : List (FuncId × (List AV → Mem → Option (AV × Mem))) := [(42, isNameG)]
theorem rnamed_ok : FunOk Tryz.prog 41 rnamedG := by
 have hC := table_ok (P := Tryz.prog) (l := tab_rnamed_ok) (table_more refIs_ok table_nil)
 have t1 := fun args mm => table_at (l := tab_rnamed_ok) (f := 42) (args := args) (m := mm) rfl
 refine fun_ok mixed hC Tryz.func41 rfl kp_rnamed false rfl fun args m r h => ?_
 unfold rnamedG at h
 split at h
 ·rename_i g rows n
  split at h
  ·rename_i l hl
   obtain rfl := unS_some hl
   split at h
   ·rename_i hyp
    obtain ⟨hlen, hb⟩ := hyp
    simp only [Option.some.injEq] at h
    subst h
    refine ⟨Nat.le_of_ble_eq_true rfl, ?_⟩
    refine en ?_
    have hany := firstBy_any notName l 0
    unfold namedB
    refine go0 ?_
    refine runs_loop (fun k e m' => ∃ (i : Nat), i ≤ l.length ∧ firstBy notName (l.drop i) i = firstBy notName l 0 ∧ m = m' ∧ k = l.length - i ∧
     e = [(0, AV.lst g 1 (rowsS l)), (1, .v (.int .i64 n)), (5, .v (.int .i64 (i : Int)))]) (k := l.length) ⟨0, Nat.zero_le _, rfl, rfl, rfl, rfl⟩ ?_
    rintro k e m' ⟨i, hi, hf, rfl, rfl, rfl⟩
    refine go0 ?_
    refine runs_cond rfl (fun hc => ?_) (fun hc => ?_)
    ·have hi1 : i < l.length := by have := of_decide_eq_true hc; omega
     have f1 := atStrs (g := g) (kk := .i64) hi1
     have f2 := fun mm => isNameG_eq (m := mm) (hb (l.getD i ⟨#[]⟩) (by rw [List.getD, List.getElem?_eq_getElem hi1]; exact List.getElem_mem _))
     have hyes := fun hp => by_yes (d := (⟨#[]⟩ : ByteArray)) hi1 hp hf
     have hno := fun hp => by_no (d := (⟨#[]⟩ : ByteArray)) hi1 hp hf
     have r6 := next_i64 (i := i) (by omega)
     generalize l.getD i ⟨#[]⟩ = s at f1 f2 hyes hno
     have w1 : (!true) = false := rfl
     have w2 : (!false) = true := rfl
     cases hs : isName s with
     | false =>
      rw [hs] at f2
      have hy := hyes (by unfold notName; rw [hs]; rfl)
      rw [hy, decide_eq_true (by omega)] at hany
      rw [← hany, show (decide ((l.length : Int) ≤ n) && !true) = false from by simp]
      repeat' (first | refine gos1 (jn @f1 (jn @t1 (jn @f2 @w2))) ?_ | (refine ops_here ?_; (fail_if_success (refine ops_case (B := true) rfl rfl rfl ?_ ?_)); (fail_if_success (refine ops_case (B := false) rfl rfl rfl ?_ ?_)); refine ops_case rfl rfl rfl (fun hB => ?_) (fun hB => ?_) <;> rw [hB]) | (refine runs_here ?_; refine runs_cond rfl (fun hc => ?_) (fun hc => ?_) <;> first | (cases hc; done) | skip))
      all_goals exact leaves_v rfl rfl
     | true =>
      rw [hs] at f2
      have hn := hno (by unfold notName; rw [hs]; rfl)
      refine go1 (jn @f1 (jn @t1 (jn @f2 @w1))) ?_
      refine runs_cond rfl (fun hc => by cases hc) (fun hc => ?_)
      refine go1 @r6 ?_
      exact ⟨l.length - (i + 1), by omega, i + 1, hi1, hn, rfl, rfl, rfl⟩
    ·have hi1 : i = l.length := by have := of_decide_eq_false hc; omega
     subst hi1
     rw [by_end hf] at hany
     rw [← hany, show (decide ((l.length : Int) ≤ n) && !(decide ((0 : Int) ≤ -1))) = decide ((l.length : Int) ≤ n) from by simp]
     refine go0 ?_
     exact leaves_v rfl rfl
   ·cases h
  ·cases h
 ·cases h
end
section
attribute [local irreducible] Next Inside Runs Ops table
attribute [local go_sem] szStr szInt Option.getD_some isNil evStr iv loadStr loadInt rowsS_len rowsGs_len rowsPh_len mapRc cellsRc newRc mkInts1 mkInts2 mkInts3 fpRcStop fpRcStopOn fpRcStopMetric fpRcStopPatience fpRcStopDelta fpRcPlateau fpRcPlateauOn fpRcPlateauMetric fpRcPlateauFactor fpRcPlateauPatience fpRcPlateauCooldown fpRcPlateauFloor fpRcPlateauDelta fpRcKeep fpRcKeepOn fpRcKeepMetric fpRcKeepCount fpRcEma fpRcEmaOn fpRcEmaDecay fpRcSwa fpRcSwaOn fpRcSwaFrom fpRcSwaFromU fpRcSwaEvery mk0Tp niTp eqTp' mk0Pt niPt eqPt' mk0Kp niKp eqKp' mk0Em niEm eqEm' mk0Sw niSw eqSw'
theorem mkInts4 {a b c d : Int} : evBuildSlice Tryz.prog 77 4 [(0, .v (.int .i64 a)), (1, .v (.int .i64 b)), (2, .v (.int .i64 c)), (3, .v (.int .i64 d))] = some (.lst .full 1 [[.v (.int .i64 a)], [.v (.int .i64 b)], [.v (.int .i64 c)], [.v (.int .i64 d)]]) := build_rows appInts rfl rfl (by decide)
attribute [local go_sem] mkInts4
theorem notnot (a : Bool) : (!(!a || false)) = a := by cases a <;> rfl
theorem counts1 (a : Int) (m : Mem) : rcountsG [.lst .no 1 [[.v (.int .i64 a)]]] m = some (.v (.bool (countB a)), m) := by
 have := rcountsG_at (m := m) (g := .no) (l := [a]) (Nat.le_of_ble_eq_true rfl)
 rw [show (!([a].any rcountsNot)) = countB a from notnot _] at this
 exact this
theorem values1 (a : Int) (m : Mem) : rvaluesG [.lst .no 1 [[.v (.int .i64 a)]]] m = some (.v (.bool (valueB a)), m) := by
 have := rvaluesG_at (m := m) (g := .no) (l := [a]) (Nat.le_of_ble_eq_true rfl)
 rw [show (!([a].any rvaluesNot)) = valueB a from notnot _] at this
 exact this
theorem counts2 (a b : Int) (m : Mem) : rcountsG [.lst .no 1 [[.v (.int .i64 a)], [.v (.int .i64 b)]]] m = some (.v (.bool (countB a && countB b)), m) := by
 have := rcountsG_at (m := m) (g := .no) (l := [a, b]) (Nat.le_of_ble_eq_true rfl)
 rw [show (!([a, b].any rcountsNot)) = (countB a && countB b) from by show (!(!countB a || (!countB b || false))) = _; cases countB a <;> cases countB b <;> rfl] at this
 exact this
theorem values3 (a b c : Int) (m : Mem) : rvaluesG [.lst .no 1 [[.v (.int .i64 a)], [.v (.int .i64 b)], [.v (.int .i64 c)]]] m = some (.v (.bool (valueB a && (valueB b && valueB c))), m) := by
 have := rvaluesG_at (m := m) (g := .no) (l := [a, b, c]) (Nat.le_of_ble_eq_true rfl)
 rw [show (!([a, b, c].any rvaluesNot)) = (valueB a && (valueB b && valueB c)) from by show (!(!valueB a || (!valueB b || (!valueB c || false)))) = _; cases valueB a <;> cases valueB b <;> cases valueB c <;> rfl] at this
 exact this
theorem counts4 (a b c d : Int) (m : Mem) : rcountsG [.lst .no 1 [[.v (.int .i64 a)], [.v (.int .i64 b)], [.v (.int .i64 c)], [.v (.int .i64 d)]]] m = some (.v (.bool (countB a && (countB b && (countB c && countB d)))), m) := by
 have := rcountsG_at (m := m) (g := .no) (l := [a, b, c, d]) (Nat.le_of_ble_eq_true rfl)
 rw [show (!([a, b, c, d].any rcountsNot)) = (countB a && (countB b && (countB c && countB d))) from by show (!(!countB a || (!countB b || (!countB c || (!countB d || false))))) = _; cases countB a <;> cases countB b <;> cases countB c <;> cases countB d <;> rfl] at this
 exact this
def rendsG : List AV → Mem → Option (AV × Mem)
 | [.agg cs], m =>
  match unRc cs with
  | some R => if R.fit then some (.v (.bool R.endsMay), m) else none
  | none => none
 | _, _ => none
theorem rendsG_at {R : Rc} {m : Mem} (h : R.fit) : rendsG [.agg R.row] m = some (.v (.bool R.endsMay), m) := by
 simp only [rendsG, unRc_row]
 rw [if_pos h]
def kpEnds18 : Nat → Option (List Nat) := fun
 | 0 => some [1]
 | 1 => some [1, 28]
 | 2 => some [2]
 | 3 => some [1, 63]
 | 4 => some [2]
 | 5 => some [1, 81]
 | 6 => some [2]
 | 7 => some [1, 119]
 | 8 => some [2]
 | 9 => some [2]
 | _ => none
attribute [go_sem] kpEnds18
def tab_ends18_ok : List (FuncId × (List AV → Mem → Option (AV × Mem))) := [(42, isNameG), (40, rcountsG), (98, rvaluesG), (43, lenMayG)]
theorem ends18_ok : FunOk Tryz.prog 45 rendsG := by
 have hC := table_ok (P := Tryz.prog) (l := tab_ends18_ok) (table_more refIs_ok (table_more rcounts_ok (table_more rvalues_ok (table_more refLenMay_ok table_nil))))
 have t1 := fun args mm => table_at (l := tab_ends18_ok) (f := 42) (args := args) (m := mm) rfl
 have t2 := fun args mm => table_at (l := tab_ends18_ok) (f := 40) (args := args) (m := mm) rfl
 have t3 := fun args mm => table_at (l := tab_ends18_ok) (f := 98) (args := args) (m := mm) rfl
 have t4 := fun args mm => table_at (l := tab_ends18_ok) (f := 43) (args := args) (m := mm) rfl
 refine fun_ok mixed hC Tryz.func45 rfl kpEnds18 false rfl fun args m r h => ?_
 unfold rendsG at h
 split at h
 ·rename_i cs
  split at h
  ·rename_i R hR
   obtain rfl := unRc_some hR
   split at h
   ·rename_i hfit
    simp only [Option.some.injEq] at h
    subst h
    refine ⟨Nat.le_of_ble_eq_true rfl, ?_⟩
    refine en ?_
    obtain ⟨_, _, _, _, hs1, hs2, hs3⟩ := hfit
    have hA := above_push (cs := R.row) (above_self m)
    have hv : (m.push R.row).var m.vars.length = some R.row := push_var
    have nr := newRc (m := m) (x := R)
    generalize m.push R.row = m1 at hA hv nr
    have fin : ∀ (e : Env) (b : Bool), Ev.get e 2 = .v (.bool b) → R.endsMay = b → Leaves Tryz.prog false Tryz.f45 m (.v (.bool R.endsMay), m) .ret e m1 := fun e b h1 h2 => by rw [h2]; exact leaves_fin rfl h1 (above_fin hA)
    have lc : ∀ u n mm, lenMayG [.agg [.v (.int .i64 u), .v (.int .i64 n)]] mm = some (.v (.bool (decide (lenMay u n))), mm) := fun _ _ _ => rfl
    have i1 := fun mm => isNameG_eq (s := R.stopMetric) (m := mm) hs1
    have i2 := fun mm => isNameG_eq (s := R.plateauMetric) (m := mm) hs2
    have i3 := fun mm => isNameG_eq (s := R.keepMetric) (m := mm) hs3
    have a1 := lpRcStopOn hv
    have a2 := lpRcStopMetric hv
    have a3 := lpRcStopPatience hv
    have a4 := lpRcStopDelta hv
    have a5 : evLoad Tryz.prog m1 25 (.ptr m.vars.length 8) = some (.agg R.tp.row) := lpRcStop hv
    have b1 := lpRcPlateauOn hv
    have b2 := lpRcPlateauMetric hv
    have b3 := lpRcPlateauFactor hv
    have b4 := lpRcPlateauPatience hv
    have b5 := lpRcPlateauCooldown hv
    have b6 := lpRcPlateauFloor hv
    have b7 := lpRcPlateauDelta hv
    have b8 : evLoad Tryz.prog m1 27 (.ptr m.vars.length 14) = some (.agg R.pt.row) := lpRcPlateau hv
    have c1 := lpRcKeepOn hv
    have c2 := lpRcKeepMetric hv
    have c3 := lpRcKeepCount hv
    have c4 : evLoad Tryz.prog m1 29 (.ptr m.vars.length 22) = some (.agg R.kp.row) := lpRcKeep hv
    have d1 := lpRcEmaOn hv
    have d2 := lpRcEmaDecay hv
    have d3 : evLoad Tryz.prog m1 31 (.ptr m.vars.length 26) = some (.agg R.em.row) := lpRcEma hv
    have f1 := lpRcSwaOn hv
    have f2 := lpRcSwaFrom hv
    have f3 := lpRcSwaFromU hv
    have f4 := lpRcSwaEvery hv
    have f5 : evLoad Tryz.prog m1 35 (.ptr m.vars.length 28) = some (.agg R.sw.row) := lpRcSwa hv
    refine go1 @nr ?_
    refine ops_rcut [(1, .ptr m.vars.length 0), (28, .v (.bool R.tp.bad))] m1 ?_ ?_
    ·repeat' (first | refine gos1 (jn @a1 (jn @a2 (jn @a3 (jn @a4 (jn @t1 (jn @t2 (jn @t3 (jn @i1 (jn @counts1 @values1))))))))) ?_ | (refine ops_here ?_; (fail_if_success (refine ops_case (B := true) rfl rfl rfl ?_ ?_)); (fail_if_success (refine ops_case (B := false) rfl rfl rfl ?_ ?_)); refine ops_case rfl rfl rfl (fun hB => ?_) (fun hB => ?_) <;> rw [hB]) | (refine runs_here ?_; refine runs_cond rfl (fun hc => ?_) (fun hc => ?_) <;> first | (cases hc; done) | skip))
     all_goals refine ⟨?_, rfl⟩
     all_goals simp_all [Tp.bad, Rc.tp]
    repeat (first | refine next_normal ?_ | refine runs_seq ?_)
    refine runs_cond rfl (fun hc => ?_) (fun hc => ?_)
    ·have e1 : R.endsMay = false := by simp [Rc.endsMay, Tp.may, hc]
     refine go0 ?_
     exact fin _ _ rfl e1
    have z1 := hc
    refine go0 ?_
    refine ops_rcut [(1, .ptr m.vars.length 0), (63, .v (.bool R.pt.bad))] m1 ?_ ?_
    ·repeat' (first | refine gos1 (jn @b1 (jn @b2 (jn @b3 (jn @b4 (jn @b5 (jn @b6 (jn @b7 (jn @t1 (jn @t2 (jn @t3 (jn @i2 (jn @counts2 @values3)))))))))))) ?_ | (refine ops_here ?_; (fail_if_success (refine ops_case (B := true) rfl rfl rfl ?_ ?_)); (fail_if_success (refine ops_case (B := false) rfl rfl rfl ?_ ?_)); refine ops_case rfl rfl rfl (fun hB => ?_) (fun hB => ?_) <;> rw [hB]) | (refine runs_here ?_; refine runs_cond rfl (fun hc => ?_) (fun hc => ?_) <;> first | (cases hc; done) | skip))
     all_goals refine ⟨?_, rfl⟩
     all_goals simp_all [Pt.bad, Rc.pt]
     all_goals (generalize countB R.plateauPatience = x1 at *; generalize countB R.plateauCooldown = x2 at *; generalize valueB R.plateauFactor = x3 at *; generalize valueB R.plateauFloor = x4 at *; generalize valueB R.plateauDelta = x5 at *; revert x1 x2 x3 x4 x5; decide)
    repeat (first | refine next_normal ?_ | refine runs_seq ?_)
    refine runs_cond rfl (fun hc => ?_) (fun hc => ?_)
    ·have e1 : R.endsMay = false := by simp [Rc.endsMay, Pt.may, hc]
     refine go0 ?_
     exact fin _ _ rfl e1
    have z2 := hc
    refine go0 ?_
    refine ops_rcut [(1, .ptr m.vars.length 0), (81, .v (.bool R.kp.bad))] m1 ?_ ?_
    ·repeat' (first | refine gos1 (jn @c1 (jn @c2 (jn @c3 (jn @t1 (jn @t2 (jn @t3 (jn @i3 @counts1))))))) ?_ | (refine ops_here ?_; (fail_if_success (refine ops_case (B := true) rfl rfl rfl ?_ ?_)); (fail_if_success (refine ops_case (B := false) rfl rfl rfl ?_ ?_)); refine ops_case rfl rfl rfl (fun hB => ?_) (fun hB => ?_) <;> rw [hB]) | (refine runs_here ?_; refine runs_cond rfl (fun hc => ?_) (fun hc => ?_) <;> first | (cases hc; done) | skip))
     all_goals refine ⟨?_, rfl⟩
     all_goals simp_all [Kp.bad, Rc.kp]
    repeat (first | refine next_normal ?_ | refine runs_seq ?_)
    refine runs_cond rfl (fun hc => ?_) (fun hc => ?_)
    ·have e1 : R.endsMay = false := by simp [Rc.endsMay, Kp.may, hc]
     refine go0 ?_
     exact fin _ _ rfl e1
    have z3 := hc
    refine go0 ?_
    refine ops_rcut [(1, .ptr m.vars.length 0), (119, .v (.bool (R.em.bad || R.sw.bad)))] m1 ?_ ?_
    ·repeat' (first | refine gos1 (jn @d1 (jn @d2 (jn @t1 (jn @t2 (jn @t3 (jn @t4 (jn @counts1 (jn @values1 (jn @f1 (jn @f2 (jn @f3 (jn @f4 @lc)))))))))))) ?_ | (refine ops_here ?_; (fail_if_success (refine ops_case (B := true) rfl rfl rfl ?_ ?_)); (fail_if_success (refine ops_case (B := false) rfl rfl rfl ?_ ?_)); refine ops_case rfl rfl rfl (fun hB => ?_) (fun hB => ?_) <;> rw [hB]) | (refine runs_here ?_; refine runs_cond rfl (fun hc => ?_) (fun hc => ?_) <;> first | (cases hc; done) | skip))
     all_goals refine ⟨?_, rfl⟩
     all_goals simp_all [Em.bad, Rc.em, Sw.bad, Rc.sw]
    repeat (first | refine next_normal ?_ | refine runs_seq ?_)
    refine runs_cond rfl (fun hc => ?_) (fun hc => ?_)
    ·have e1 : R.endsMay = false := by
      simp only [Rc.endsMay, Em.may, Sw.may]
      revert hc
      cases R.em.bad <;> cases R.sw.bad <;> simp
     refine go0 ?_
     exact fin _ _ rfl e1
    have z4 := hc
    obtain ⟨z4, z5⟩ := Bool.or_eq_false_iff.1 z4
    have eE : R.endsMay = ((R.stopOn || tpEq R.tp tp0) && ((R.plateauOn || ptEq R.pt pt0) && ((R.keepOn || kpEq R.kp kp0) && ((R.emaOn || emEq R.em em0) && (R.swaOn || swEq R.sw sw0))))) := by
     unfold Rc.endsMay Tp.may Pt.may Kp.may Em.may Sw.may
     rw [z1, z2, z3, z4, z5]
     rfl
    repeat' (first | refine gos1 (jn @a1 (jn @a5 (jn @b1 (jn @b8 (jn @c1 (jn @c4 (jn @d1 (jn @d3 (jn @f1 @f5))))))))) ?_ | (refine ops_here ?_; (fail_if_success (refine ops_case (B := true) rfl rfl rfl ?_ ?_)); (fail_if_success (refine ops_case (B := false) rfl rfl rfl ?_ ?_)); refine ops_case rfl rfl rfl (fun hB => ?_) (fun hB => ?_) <;> rw [hB]) | (refine runs_here ?_; refine runs_cond rfl (fun hc => ?_) (fun hc => ?_) <;> first | (cases hc; done) | skip))
    all_goals refine fin _ _ rfl (eE.trans ?_)
    all_goals simp_all
   ·cases h
  ·cases h
 ·cases h
end
end Go.Proofs.YtojaokhkbmiidaaGreat.Ev
