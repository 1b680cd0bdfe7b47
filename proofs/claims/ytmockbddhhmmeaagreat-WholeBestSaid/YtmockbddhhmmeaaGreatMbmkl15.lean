/- What was seen. -/
import Derived.Test.YtmockbddhhmmeaaGreatMbmkl14
import Derived.Test.YtmockbddhhmmeaaGreatMbmkl1
import Derived.Test.YtmockbddhhmmeaaGreatMa4
import Derived.Test.YtmockbddhhmmeaaGreatMa5
namespace Go.Proofs.YtmockbddhhmmeaaGreat.Ev
open Go Go.Proofs
set_option maxRecDepth 10000
set_option maxHeartbeats 8000000
set_option linter.unusedVariables false
set_option linter.unusedSimpArgs false
noncomputable section
attribute [local irreducible] Next Inside Runs Ops table
attribute [local irreducible] XRuns XOps XLin XAny
attribute [local go_sem] szStr szInt Option.getD_some isNil evMinMax evFoldI iv mapPn mapSs cellsPn cellsSs newPn newSs List.cons_append fpPnEval fpPnSteps fpPnMetrics fpSsStep fpSsStatus rowsIn_len rowsRd_len feInReadings leInReadings feRdHas leRdHas feRdVal leRdVal mkKt2 rowsKt_len
def kpTakenR : Nat → Option (List Nat) := fun
 | 0 => some [1]
 | 1 => some [1, 5]
 | 2 => some [2]
 | 3 => some [2]
 | _ => none
attribute [go_sem] kpTakenR
theorem takenR_ok : FunOk Tryz.prog 11 takenVG := by
 have hC := table_ok (P := Tryz.prog) (l := []) table_nil
 refine fun_ok mixed hC Tryz.func11 rfl kpTakenR false rfl fun args m r h => ?_
 unfold takenVG at h
 split at h
 ·rename_i ss
  split at h
  ·rename_i s hs0
   obtain rfl := unSs_some hs0
   simp only [Option.some.injEq] at h
   subst h
   refine ⟨Nat.le_of_ble_eq_true rfl, ?_⟩
   refine en ?_
   have v1 : (m.push s.row).var m.vars.length = some s.row := push_var
   have hA := above_push (cs := s.row) (above_self m)
   refine go0 ?_
   generalize m.push s.row = m1 at v1 hA
   generalize m.vars.length = r1 at v1
   have l1 := lpSsStep v1
   have l2 := lpSsStatus v1
   unfold takenV
   refine go1 @l2 ?_
   refine runs_cond rfl (fun hc => ?_) (fun hc => ?_)
   ·rw [if_pos (by simpa using hc)]
    refine go1 @l1 ?_
    exact leaves_fin rfl rfl (above_fin hA)
   ·rw [if_neg (by simpa using hc)]
    refine go1 @l1 ?_
    exact leaves_fin rfl rfl (above_fin hA)
  ·cases h
 ·cases h
/-! ### Looked -/
def lookedB (p : Pn) (i : Int) : Bool := decide (p.eval > 0) && (i.tmod p.eval == IntKind.i64.wrap (p.eval - 1))
def lookedG : List AV → Mem → Option (AV × Mem)
 | [.agg ps, .v (.int .i64 i)], m =>
  match unPn ps with
  | some p => some (.v (.bool (lookedB p i)), m)
  | none => none
 | _, _ => none
theorem looked_eq (p : Pn) (i : Int) (m : Mem) : lookedG [.agg p.row, .v (.int .i64 i)] m = some (.v (.bool (lookedB p i)), m) := by
 simp only [lookedG, unPn_row]
def kpLooked : Nat → Option (List Nat) := fun
 | 0 => some [1, 2]
 | 1 => some [4]
 | _ => none
attribute [go_sem] kpLooked
theorem looked_ok : FunOk Tryz.prog 25 lookedG := by
 have hC := table_ok (P := Tryz.prog) (l := []) table_nil
 refine fun_ok mixed hC Tryz.func25 rfl kpLooked false rfl fun args m r h => ?_
 unfold lookedG at h
 split at h
 ·rename_i ps i
  split at h
  ·rename_i p hp0
   obtain rfl := unPn_some hp0
   simp only [Option.some.injEq] at h
   subst h
   refine ⟨Nat.le_of_ble_eq_true rfl, ?_⟩
   refine en ?_
   have v1 : (m.push p.row).var m.vars.length = some p.row := push_var
   have hA := above_push (cs := p.row) (above_self m)
   refine go0 ?_
   generalize m.push p.row = m1 at v1 hA
   generalize m.vars.length = r1 at v1
   have l1 := lpPnEval v1
   unfold lookedB
   repeat refine runs_seq ?_
   refine runs_ops_drawn_tight (kp := kpLooked) (by kernel_rfl) (by kernel_rfl) ?_
   cases h1 : decide (p.eval > 0) with
   | false =>
    refine go1 (jn @l1 @h1) ?_
    exact leaves_fin rfl rfl (above_fin hA)
   | true =>
    have hz : (p.eval = 0) = False := eq_false (by have := of_decide_eq_true h1; omega)
    refine go1 (jn @l1 (jn @h1 @hz)) ?_
    exact leaves_fin rfl rfl (above_fin hA)
  ·cases h
 ·cases h
/-! ### seen -/
def seenHit (p : Pn) (a : Int) (x : In) (i : Nat) : Bool := decide (a ≥ 0) && (lookedB p (i : Int) && (x.readings.getD a.toNat rd0).has)
def seenN (p : Pn) (a : Int) (l : List In) : Nat → List Kt × Bool
 | 0 => ([], false)
 | i + 1 => if (seenN p a l i).2 = true then seenN p a l i else if ((l.getD i in0).readings.length : Int) ≠ p.metrics then ((seenN p a l i).1, true) else
  if seenHit p a (l.getD i in0) i = true then ((seenN p a l i).1 ++ [⟨i, ((l.getD i in0).readings.getD a.toNat rd0).val⟩], false) else ((seenN p a l i).1, false)
theorem seenN_stay {p : Pn} {a : Int} {l : List In} {i : Nat} (h : (seenN p a l i).2 = true) : ∀ n, i ≤ n → seenN p a l n = seenN p a l i := by
 intro n
 induction n with
 | zero => intro hn; rw [show i = 0 by omega]
 | succ n ih =>
  intro hn
  by_cases he : i = n + 1
  ·rw [he]
  ·have e := ih (by omega)
   rw [seenN, e, if_pos h]
theorem seenN_len (p : Pn) (a : Int) (l : List In) : ∀ n, (seenN p a l n).1.length ≤ n
 | 0 => Nat.le_refl _
 | n + 1 => by
  have := seenN_len p a l n
  rw [seenN]
  split
  ·omega
  ·split
   ·show (seenN p a l n).1.length ≤ n + 1
    omega
   ·split
    ·rw [List.length_append]
     simp
     omega
    ·show (seenN p a l n).1.length ≤ n + 1
     omega
def seenL (p : Pn) (a : Int) (l : List In) : List Kt := (seenN p a l (min l.length p.steps.toNat)).1
def seenLG : List AV → Mem → Option (AV × Mem)
 | [.agg ps, .v (.int .i64 a), .lst _ 2 rows], m =>
  match unPn ps, unsIn rows with
  | some p, some l => if l.length ≤ 1000000 ∧ a < p.metrics then some (.lst .no 2 (rowsKt (seenL p a l)), m) else none
  | _, _ => none
 | _, _ => none
theorem seenT_eq {p : Pn} {a : Int} {l : List In} {g : Grow} (h : l.length ≤ 1000000 ∧ a < p.metrics) (m : Mem) : seenLG [.agg p.row, .v (.int .i64 a), .lst g 2 (rowsIn l)] m = some (.lst .no 2 (rowsKt (seenL p a l)), m) := by
 simp only [seenLG, unPn_row, unsIn_rowsIn]
 exact if_pos h
theorem mk0Kts : evBuildSlice Tryz.prog 41 0 [] = some (.lst .full 2 []) := by kernel_rfl
attribute [local go_sem] mk0Kts
def kpSeenT : Nat → Option (List Nat) := fun
 | 0 => some [1, 2, 3]
 | 1 => some [1, 2, 3, 7]
 | 2 => some [1, 2, 3, 7, 8]
 | 3 => some [1, 2, 3, 7, 8, 19]
 | 4 => some [1, 2, 3, 7, 8]
 | 5 => some [1, 2, 3, 7, 8, 30]
 | 6 => some [6]
 | 7 => some [1, 2, 3, 7, 8, 49]
 | 8 => some [1, 2, 3, 7, 8]
 | 9 => some [6]
 | _ => none
attribute [go_sem] kpSeenT
def tab_seenT_ok : List (FuncId × (List AV → Mem → Option (AV × Mem))) := [(25, lookedG)]
theorem seenT_ok : FunOk Tryz.prog 9 seenLG := by
 have hC := table_ok (P := Tryz.prog) (l := tab_seenT_ok) (table_more looked_ok table_nil)
 have t1 := fun args mm => table_at (l := tab_seenT_ok) (f := 25) (args := args) (m := mm) rfl
 refine fun_ok mixed hC Tryz.func9 rfl kpSeenT false rfl fun args m r h => ?_
 unfold seenLG at h
 split at h
 ·rename_i ps a gl rows
  split at h
  ·rename_i p l hp0 hl0
   obtain rfl := unPn_some hp0
   obtain rfl := unsIn_some hl0
   split at h
   ·rename_i hd
    obtain ⟨hlen, ham⟩ := hd
    simp only [Option.some.injEq] at h
    subst h
    refine ⟨Nat.le_of_ble_eq_true rfl, ?_⟩
    refine en ?_
    have v1 : (m.push p.row).var m.vars.length = some p.row := push_var
    have hG := growsA_push (cs := p.row) (growsA_full (m := m))
    refine go0 ?_
    generalize m.push p.row = m1 at v1 hG
    generalize m.vars.length = r1 at v1
    have hend : seenL p a l = (seenN p a l (min l.length p.steps.toNat)).1 := rfl
    have hsl := seenN_len p a l
    refine runs_loop (fun k e m' => ∃ (i : Nat) (acc : List Kt) (g : Grow), i ≤ min l.length p.steps.toNat ∧ seenN p a l i = (acc, false) ∧ GrowsA m g m' ∧ m'.var r1 = some p.row ∧ k = min l.length p.steps.toNat - i ∧
     e = [(1, AV.v (.int .i64 a)), (2, .lst gl 2 (rowsIn l)), (3, .ptr r1 0), (7, .lst g 2 (rowsKt acc)), (8, .v (.int .i64 (i : Int)))]) (k := min l.length p.steps.toNat) ⟨0, [], _, Nat.zero_le _, rfl, hG, v1, rfl, rfl⟩ ?_
    rintro k e m' ⟨i, acc, g, hi, hs, hG', v1', rfl, rfl⟩
    have l1 := lpPnSteps v1'
    have l2 := lpPnMetrics v1'
    have l3 := vrPn v1'
    have hal : acc.length ≤ i := by have := hsl i; rw [hs] at this; exact this
    by_cases hi1 : i < min l.length p.steps.toNat
    ·have k1 : decide ((i : Int) < (l.length : Int)) = true := decide_eq_true (by omega)
     have k2 : decide ((i : Int) < p.steps) = true := decide_eq_true (by omega)
     refine go1 (jn @l1 (jn @k1 @k2)) ?_
     refine runs_cond rfl (fun hc => ?_) (fun hc => by cases hc)
     have f1 := atIn (g := gl) (kk := .i64) (l := l) (i := i) (by omega)
     have r6 := next_i64 (i := i) (by omega)
     have hN : seenN p a l (i + 1) = if ((l.getD i in0).readings.length : Int) ≠ p.metrics then (acc, true) else if seenHit p a (l.getD i in0) i = true then (acc ++ [⟨i, ((l.getD i in0).readings.getD a.toNat rd0).val⟩], false) else (acc, false) := by
      rw [seenN, hs, if_neg (by simp)]
     generalize l.getD i in0 = x at f1 hN
     refine go0 ?_
     repeat refine runs_seq ?_
     refine runs_ops_drawn_tight (kp := kpSeenT) (by kernel_rfl) (by kernel_rfl) ?_
     refine go1 (jn @f1 @l2) ?_
     refine runs_cond rfl (fun hc => ?_) (fun hc => ?_)
     ·have hne : (x.readings.length : Int) ≠ p.metrics := by simpa using hc
      rw [if_pos hne] at hN
      refine go0 ?_
      exact leaves_lst rfl (by rw [hend, seenN_stay (i := i + 1) (by rw [hN]) _ hi1, hN]; rfl) (growsA_fin hG')
     ·have heq : (x.readings.length : Int) = p.metrics := by simpa using hc
      rw [if_neg (by simpa using heq)] at hN
      have cl := looked_eq p (i : Int)
      have same : seenHit p a x i = false → seenN p a l (i + 1) = (acc, false) := fun hh => by rw [hN, if_neg (by rw [hh]; decide)]
      have hh0 : seenHit p a x i = (decide (a ≥ 0) && (lookedB p (i : Int) && (x.readings.getD a.toNat rd0).has)) := rfl
      cases h1 : decide (a ≥ 0) with
      | false =>
       refine go1 @h1 ?_
       refine runs_cond rfl (fun hc => by cases hc) (fun hc => ?_)
       refine go1 @r6 ?_
       exact ⟨min l.length p.steps.toNat - (i + 1), by omega, i + 1, acc, g, hi1, same (by rw [hh0, h1]; rfl), hG', v1', rfl, rfl⟩
      | true =>
       have ha0 := of_decide_eq_true h1
       obtain ⟨q, rfl⟩ := Int.eq_ofNat_of_zero_le ha0
       cases h2 : lookedB p (i : Int) with
       | false =>
        rw [h2] at cl
        refine go1 (jn @h1 (jn @l3 (jn @t1 @cl))) ?_
        refine runs_cond rfl (fun hc => by cases hc) (fun hc => ?_)
        refine go1 @r6 ?_
        exact ⟨min l.length p.steps.toNat - (i + 1), by omega, i + 1, acc, g, hi1, same (by rw [hh0, h2]; simp), hG', v1', rfl, rfl⟩
       | true =>
        rw [h2] at cl
        have f2 := atRd (g := .no) (kk := .i64) (l := x.readings) (i := q) (by omega)
        rw [Int.toNat_natCast] at hh0 hN
        generalize x.readings.getD q rd0 = y at f2 hh0 hN
        cases h3 : y.has with
        | false =>
         refine go1 (jn @h1 (jn @l3 (jn @t1 (jn @cl (jn @f1 (jn @f2 @h3)))))) ?_
         refine runs_cond rfl (fun hc => by first | (cases hc; done) | (rw [h3] at hc; cases hc)) (fun hc => ?_)
         refine go1 @r6 ?_
         exact ⟨min l.length p.steps.toNat - (i + 1), by omega, i + 1, acc, g, hi1, by rw [hN, if_neg (by rw [hh0, h3]; simp)], hG', v1', rfl, rfl⟩
        | true =>
         refine go1 (jn @h1 (jn @l3 (jn @t1 (jn @cl (jn @f1 (jn @f2 @h3)))))) ?_
         refine runs_cond rfl (fun hc => ?_) (fun hc => by first | (cases hc; done) | (rw [h3] at hc; cases hc))
         obtain ⟨g2, m6, a1, hG6, hv6⟩ := app_growsV (t := 41) (t2 := 41) appKt hG' (xs := rowsKt acc) (y := .lst .full 2 (rowsKt [⟨(i : Int), y.val⟩])) asList_lst (by have h1 := rowsKt_len acc; have h2 := rowsKt_len [⟨(i : Int), y.val⟩]; unfold lim; simp only [List.length_cons, List.length_nil] at h2; omega)
         rw [rowsKt_app] at a1
         have mk := mk1Kt (x := ⟨(i : Int), y.val⟩)
         refine go1 (jn @f1 (jn @f2 (jn @mk (jn @a1 @r6)))) ?_
         exact ⟨min l.length p.steps.toNat - (i + 1), by omega, i + 1, acc ++ [⟨i, y.val⟩], g2, hi1, by rw [hN, if_pos (by rw [hh0, h1, h2, h3]; rfl)], hG6, by rw [hv6]; exact v1', rfl, rfl⟩
    ·have he : i = min l.length p.steps.toNat := by omega
     repeat refine runs_seq ?_
     refine runs_rcut [(1, AV.v (.int .i64 a)), (2, .lst gl 2 (rowsIn l)), (3, .ptr r1 0), (7, .lst g 2 (rowsKt acc)), (8, .v (.int .i64 (i : Int))), (19, .v (.bool false))] m' ?_ ?_
     ·by_cases h9 : i < l.length
      ·have k1 : decide ((i : Int) < (l.length : Int)) = true := decide_eq_true (by omega)
       have k2 : decide ((i : Int) < p.steps) = false := decide_eq_false (by omega)
       refine go1 (jn @l1 (jn @k1 @k2)) ?_
       exact ⟨rfl, rfl, rfl⟩
      ·have k1 : decide ((i : Int) < (l.length : Int)) = false := decide_eq_false (by omega)
       refine go1 (jn @l1 @k1) ?_
       exact ⟨rfl, rfl, rfl⟩
     refine go0 ?_
     refine runs_cond rfl (fun hc => by cases hc) (fun hc => ?_)
     refine go0 ?_
     exact leaves_lst rfl (by rw [hend, ← he, hs]; rfl) (growsA_fin hG')
   ·cases h
  ·cases h
 ·cases h
end
section
attribute [local irreducible] Next Inside Runs Ops table
section
variable {α : Type}
def insK (g : α → Int) (x : α) : List α → List α
 | [] => [x]
 | y :: l => if g x < g y then x :: y :: l else y :: insK g x l
theorem insK_len (g : α → Int) (x : α) : ∀ l : List α, (insK g x l).length = l.length + 1
 | [] => rfl
 | y :: l => by
  unfold insK
  split
  ·rfl
  ·rw [List.length_cons, insK_len g x l, List.length_cons]
theorem insK_perm (g : α → Int) (x : α) : ∀ l : List α, (insK g x l).Perm (x :: l)
 | [] => List.Perm.refl _
 | y :: l => by
  unfold insK
  split
  ·exact List.Perm.refl _
  ·exact ((insK_perm g x l).cons y).trans (List.Perm.swap x y l)
theorem insK_take (g : α → Int) (x : α) : ∀ (l : List α) (c : Nat), (insK g x (l.take c)).take c = (insK g x l).take c
 | [], c => by simp
 | y :: l, 0 => by simp
 | y :: l, c + 1 => by
  rw [List.take_succ_cons]
  unfold insK
  split
  ·rw [List.take_succ_cons, List.take_succ_cons]
   congr 1
   cases c with
   | zero => simp
   | succ c => rw [List.take_succ_cons, List.take_succ_cons, List.take_take, Nat.min_eq_left (by omega)]
  ·rw [List.take_succ_cons, List.take_succ_cons, insK_take g x l c]
/-- Behind all: the first of the sorted ones. -/
theorem keep_fold (g : α → Int) (c : Nat) : ∀ (k l : List α), k.foldl (fun l x => (insK g x l).take c) (l.take c) = (k.foldl (fun l x => insK g x l) l).take c
 | [], l => rfl
 | x :: k, l => by
  rw [List.foldl_cons, List.foldl_cons, insK_take, keep_fold g c k]
theorem insK_map {β : Type} (f : β → α) (g : α → Int) (x : β) : ∀ l : List β, (insK (fun i => g (f i)) x l).map f = insK g (f x) (l.map f)
 | [] => rfl
 | y :: l => by
  rw [List.map_cons]
  unfold insK
  split
  ·rfl
  ·rw [List.map_cons, insK_map f g x l]
end
/-- The places, sorted. -/
def ordT (h : Nat → Int) : Nat → List Nat
 | 0 => []
 | n + 1 => insK h n (ordT h n)
theorem ordT_len (h : Nat → Int) : ∀ n, (ordT h n).length = n
 | 0 => rfl
 | n + 1 => by rw [ordT, insK_len, ordT_len h n]
theorem ordT_perm (h : Nat → Int) : ∀ n, (ordT h n).Perm (List.range n)
 | 0 => List.Perm.refl _
 | n + 1 => by
  rw [ordT, List.range_succ]
  refine (insK_perm h n _).trans (((ordT_perm h n).cons n).trans ?_)
  exact (List.perm_append_singleton n (List.range n)).symm
def sortedT (h : Nat → Int) (l : List Nat) : Prop := l.Pairwise fun a b => h a ≤ h b
theorem insK_parts (h : Nat → Int) (x : Nat) : ∀ {l : List Nat}, sortedT h l → ∃ l1 l2, l = l1 ++ l2 ∧ insK h x l = l1 ++ x :: l2 ∧ (∀ a ∈ l1, h a ≤ h x) ∧ ∀ a ∈ l2, h x < h a
 | [], _ => ⟨[], [], rfl, rfl, by simp, by simp⟩
 | y :: l, hs => by
  obtain ⟨h1, h2⟩ := List.pairwise_cons.1 hs
  by_cases hx : h x < h y
  ·refine ⟨[], y :: l, rfl, by unfold insK; rw [if_pos hx]; rfl, by simp, fun a ha => ?_⟩
   rcases List.mem_cons.1 ha with rfl | ha
   ·exact hx
   ·exact Int.lt_of_lt_of_le hx (h1 a ha)
  ·obtain ⟨l1, l2, e1, e2, p1, p2⟩ := insK_parts h x h2
   refine ⟨y :: l1, l2, by rw [e1]; rfl, by unfold insK; rw [if_neg hx, e2]; rfl, fun a ha => ?_, p2⟩
   rcases List.mem_cons.1 ha with rfl | ha
   ·omega
   ·exact p1 a ha
theorem ordT_sorted (h : Nat → Int) : ∀ n, sortedT h (ordT h n)
 | 0 => List.Pairwise.nil
 | n + 1 => by
  obtain ⟨l1, l2, e1, e2, p1, p2⟩ := insK_parts h n (ordT_sorted h n)
  have hs := ordT_sorted h n
  rw [e1] at hs
  unfold sortedT at hs ⊢
  rw [ordT, e2, List.pairwise_append]
  rw [List.pairwise_append] at hs
  obtain ⟨s1, s2, s3⟩ := hs
  refine ⟨s1, List.pairwise_cons.2 ⟨fun a ha => Int.le_of_lt (p2 a ha), s2⟩, fun a ha b hb => ?_⟩
  rcases List.mem_cons.1 hb with rfl | hb
  ·exact p1 a ha
  ·exact s3 a ha b hb
/-- How many stand ahead. -/
def aheadP (h : Nat → Int) (i j : Nat) : Bool := decide (h j < h i) || (decide (h j = h i) && decide (j < i))
def rankK (h : Nat → Int) (n i : Nat) : Nat := (List.range n).countP (aheadP h i)
theorem rankK_succ (h : Nat → Int) (n i : Nat) : rankK h (n + 1) i = rankK h n i + (if aheadP h i n = true then 1 else 0) := by
 unfold rankK
 rw [List.range_succ, List.countP_append, List.countP_singleton]
theorem ordT_rank (h : Nat → Int) : ∀ n q, q < n → rankK h n ((ordT h n).getD q 0) = q
 | 0, q, hq => by omega
 | n + 1, q, hq => by
  obtain ⟨l1, l2, e1, e2, p1, p2⟩ := insK_parts h n (ordT_sorted h n)
  have hlen := ordT_len h n
  have hperm := ordT_perm h n
  have hlt : ∀ a ∈ ordT h n, a < n := fun a ha => List.mem_range.1 (hperm.mem_iff.1 ha)
  have ih := ordT_rank h n
  rw [e1] at hlen hperm hlt ih
  rw [List.length_append] at hlen
  rw [ordT, e2]
  by_cases h1 : q < l1.length
  ·have hi : (l1 ++ n :: l2).getD q 0 = (l1 ++ l2).getD q 0 := by simp [List.getD, List.getElem?_append_left h1]
   have hmem : (l1 ++ l2).getD q 0 ∈ l1 := by simp [List.getD, List.getElem?_append_left h1, List.getElem?_eq_getElem h1]
   rw [hi, rankK_succ, ih q (by omega)]
   have hle := p1 _ hmem
   have hl := hlt _ (List.mem_append_left l2 hmem)
   have hn : ¬ aheadP h ((l1 ++ l2).getD q 0) n = true := by
    unfold aheadP
    simp only [Bool.or_eq_true, Bool.and_eq_true, decide_eq_true_eq]
    omega
   rw [if_neg hn, Nat.add_zero]
  ·by_cases h2 : q = l1.length
   ·subst h2
    have hi : (l1 ++ n :: l2).getD l1.length 0 = n := by simp [List.getD]
    rw [hi, rankK_succ, if_neg (by unfold aheadP; simp)]
    unfold rankK
    rw [← hperm.countP_eq, List.countP_append, Nat.add_zero]
    have c1 : l1.countP (aheadP h n) = l1.length := List.countP_eq_length.2 fun a ha => by
     have := p1 a ha
     have := hlt a (List.mem_append_left l2 ha)
     unfold aheadP
     simp only [Bool.or_eq_true, Bool.and_eq_true, decide_eq_true_eq]
     omega
    have c2 : l2.countP (aheadP h n) = 0 := List.countP_eq_zero.2 fun a ha => by
     have := p2 a ha
     unfold aheadP
     simp only [Bool.or_eq_true, Bool.and_eq_true, decide_eq_true_eq]
     omega
    omega
   ·obtain ⟨s, hs⟩ : ∃ s, q = l1.length + 1 + s := ⟨q - l1.length - 1, by omega⟩
    subst hs
    have hi : (l1 ++ n :: l2).getD (l1.length + 1 + s) 0 = (l1 ++ l2).getD (l1.length + s) 0 := by
     simp only [List.getD]
     rw [List.getElem?_append_right (by omega), List.getElem?_append_right (by omega)]
     rw [show l1.length + 1 + s - l1.length = s + 1 by omega, show l1.length + s - l1.length = s by omega, List.getElem?_cons_succ]
    have hs2 : s < l2.length := by omega
    have hmem : (l1 ++ l2).getD (l1.length + s) 0 ∈ l2 := by
     simp only [List.getD]
     rw [List.getElem?_append_right (by omega), show l1.length + s - l1.length = s by omega, List.getElem?_eq_getElem hs2]
     exact List.getElem_mem hs2
    rw [hi, rankK_succ, ih (l1.length + s) (by omega)]
    have hgt := p2 _ hmem
    rw [if_pos]
    ·omega
    ·unfold aheadP
     rw [decide_eq_true hgt]
     rfl
theorem filter_one {p : Nat → Bool} {n a : Nat} (ha : a < n) (h : ∀ i, i < n → (p i = true ↔ i = a)) : (List.range n).filter p = [a] := by
 have hn : ∀ m, m ≤ n → (List.range m).filter p = if a < m then [a] else [] := by
  intro m
  induction m with
  | zero => intro _; simp
  | succ m ih =>
   intro hm
   rw [List.range_succ, List.filter_append, ih (by omega)]
   by_cases hma : m = a
   ·subst hma
    have : p m = true := (h m (by omega)).2 rfl
    simp [this]
   ·have : p m = false := by
     cases hp : p m with
     | false => rfl
     | true => exact absurd ((h m (by omega)).1 hp) hma
    rw [show ([m] : List Nat).filter p = [] by simp [this], List.append_nil]
    by_cases h1 : a < m
    ·rw [if_pos h1, if_pos (by omega)]
    ·rw [if_neg h1, if_neg (by omega)]
 rw [hn n (Nat.le_refl _), if_pos ha]
theorem rank_one (h : Nat → Int) {n q : Nat} (hq : q < n) : (List.range n).filter (fun i => rankK h n i == q) = [(ordT h n).getD q 0] := by
 have hmem : ∀ q, q < n → (ordT h n).getD q 0 < n := fun q hq => by
  have hlt : q < (ordT h n).length := by rw [ordT_len]; exact hq
  have : (ordT h n).getD q 0 ∈ ordT h n := by
   rw [List.getD, List.getElem?_eq_getElem hlt]
   exact List.getElem_mem hlt
  exact List.mem_range.1 ((ordT_perm h n).mem_iff.1 this)
 refine filter_one (hmem q hq) fun i hi => ?_
 rw [beq_iff_eq]
 constructor
 ·intro hr
  obtain ⟨s, hs⟩ := List.getElem?_of_mem ((ordT_perm h n).mem_iff.2 (List.mem_range.2 hi))
  have hsl : s < n := by have := (List.getElem?_eq_some_iff.1 hs).1; rw [ordT_len] at this; exact this
  have e : (ordT h n).getD s 0 = i := by rw [List.getD, hs]; rfl
  have := ordT_rank h n s hsl
  rw [e, hr] at this
  rw [← e, this]
 ·intro he
  rw [he]
  exact ordT_rank h n q hq
section
variable {α : Type}
/-- The document's best ones. -/
def bestK (g : α → Int) (d : α) (k : List α) (c : Nat) : List α :=
 (List.range (min k.length c)).flatMap fun q => ((List.range k.length).filter fun i => rankK (fun i => g (k.getD i d)) k.length i == q).map fun i => k.getD i d
theorem fold_ordT (g : α → Int) (d : α) (k : List α) : ∀ n, n ≤ k.length → (k.take n).foldl (fun l x => insK g x l) [] = (ordT (fun i => g (k.getD i d)) n).map fun i => k.getD i d
 | 0, _ => by simp [ordT]
 | n + 1, hn => by
  have ht : k.take (n + 1) = k.take n ++ [k.getD n d] := by
   rw [List.take_add_one, List.getD, List.getElem?_eq_getElem (by omega)]
   rfl
  rw [ht, List.foldl_append, fold_ordT g d k n (by omega), ordT, List.foldl_cons, List.foldl_nil]
  exact (insK_map (fun i => k.getD i d) g n _).symm
theorem flatMap_one {β : Type} {f : Nat → List β} {e : Nat → β} : ∀ {n : Nat}, (∀ q, q < n → f q = [e q]) → (List.range n).flatMap f = (List.range n).map e
 | 0, _ => by simp
 | n + 1, h => by
  rw [List.range_succ, List.flatMap_append, List.map_append, flatMap_one fun q hq => h q (by omega)]
  simp [h n (by omega)]
theorem take_getD {β : Type} (d : β) (l : List β) (n : Nat) (hn : n ≤ l.length) : l.take n = (List.range n).map fun q => l.getD q d := by
 apply List.ext_getElem (by simp; omega)
 intro i h1 h2
 simp at h1 h2
 simp [List.getD, List.getElem?_eq_getElem (show i < l.length by omega)]
theorem best_same (g : α → Int) (d : α) (k : List α) (c : Nat) : k.foldl (fun l x => (insK g x l).take c) [] = bestK g d k c := by
 have h := keep_fold g c k []
 rw [List.take_nil] at h
 have hf := fold_ordT g d k k.length (Nat.le_refl _)
 rw [List.take_length] at hf
 rw [h, hf]
 have hlen : ((ordT (fun i => g (k.getD i d)) k.length).map fun i => k.getD i d).length = k.length := by rw [List.length_map, ordT_len]
 have e : ((ordT (fun i => g (k.getD i d)) k.length).map fun i => k.getD i d).take c = ((ordT (fun i => g (k.getD i d)) k.length).map fun i => k.getD i d).take (min k.length c) := by
  by_cases hc : c ≤ k.length
  ·rw [Nat.min_eq_right hc]
  ·rw [Nat.min_eq_left (by omega), List.take_of_length_le (by omega), List.take_of_length_le (by omega)]
 rw [e, take_getD d _ _ (by rw [hlen]; omega)]
 unfold bestK
 rw [flatMap_one (e := fun q => k.getD ((ordT (fun i => g (k.getD i d)) k.length).getD q 0) d) fun q hq => by
  rw [rank_one (fun i => g (k.getD i d)) (n := k.length) (q := q) (by omega)]
  rfl]
 refine List.map_congr_left fun q hq => ?_
 have hq := List.mem_range.1 hq
 have hql : q < (ordT (fun i => g (k.getD i d)) k.length).length := by rw [ordT_len]; omega
 have e2 : (ordT (fun i => g (k.getD i d)) k.length).getD q 0 = (ordT (fun i => g (k.getD i d)) k.length)[q] := by rw [List.getD, List.getElem?_eq_getElem hql]; rfl
 rw [e2, List.getD, List.getElem?_map, List.getElem?_eq_getElem hql]
 rfl
end
end
noncomputable section
attribute [local irreducible] Next Inside Runs Ops table
attribute [local irreducible] XRuns XOps XLin XAny
attribute [local go_sem] szStr szInt Option.getD_some isNil evMinMax evFoldI iv mapKt cellsKt newKt List.cons_append fpKtStep fpKtVal feKtStep leKtStep feKtVal leKtVal ldKt rowsKt_len mk0Kts
def aheadR (most : Bool) (a b : Kt) : Bool := if most = true then decide (a.val > b.val) else decide (a.val < b.val)
def aheadRG : List AV → Mem → Option (AV × Mem)
 | [.agg as_, .agg bs, .v (.bool most)], m =>
  match unKt as_, unKt bs with
  | some a, some b => some (.v (.bool (aheadR most a b)), m)
  | _, _ => none
 | _, _ => none
theorem aheadR_eq (a b : Kt) (most : Bool) (m : Mem) : aheadRG [.agg a.row, .agg b.row, .v (.bool most)] m = some (.v (.bool (aheadR most a b)), m) := by
 simp only [aheadRG, unKt_row]
def kpAheadR : Nat → Option (List Nat) := fun
 | 0 => some [2, 3, 4]
 | 1 => some [3, 4, 7]
 | 2 => some [6]
 | 3 => some [6]
 | _ => none
attribute [go_sem] kpAheadR
theorem aheadR_ok : FunOk Tryz.prog 27 aheadRG := by
 have hC := table_ok (P := Tryz.prog) (l := []) table_nil
 refine fun_ok mixed hC Tryz.func27 rfl kpAheadR false rfl fun args m r h => ?_
 unfold aheadRG at h
 split at h
 ·rename_i as_ bs most
  split at h
  ·rename_i a b ha0 hb0
   obtain rfl := unKt_some ha0
   obtain rfl := unKt_some hb0
   simp only [Option.some.injEq] at h
   subst h
   refine ⟨Nat.le_of_ble_eq_true rfl, ?_⟩
   refine en ?_
   have v1 : ((m.push a.row).push b.row).var m.vars.length = some a.row := push_old push_var
   have v2 : ((m.push a.row).push b.row).var (m.push a.row).vars.length = some b.row := push_var
   have hA := above_push (cs := b.row) (above_push (cs := a.row) (above_self m))
   refine go0 ?_
   generalize (m.push a.row).push b.row = m1 at v1 v2 hA
   generalize (m.push a.row).vars.length = r2 at v2
   generalize m.vars.length = r1 at v1
   have l1 := lpKtVal v1
   have l2 := lpKtVal v2
   unfold aheadR
   cases most with
   | true =>
    refine runs_cond rfl (fun hc => ?_) (fun hc => by cases hc)
    refine go1 (jn @l1 @l2) ?_
    exact leaves_fin rfl rfl (above_fin hA)
   | false =>
    refine runs_cond rfl (fun hc => by cases hc) (fun hc => ?_)
    refine go1 (jn @l1 @l2) ?_
    exact leaves_fin rfl rfl (above_fin hA)
  ·cases h
 ·cases h
/-! ### Best -/
def gV (most : Bool) (y : Kt) : Int := if most = true then -y.val else y.val
def hV (most : Bool) (l : List Kt) (i : Nat) : Int := gV most (l.getD i kt0)
theorem ahead_P (most : Bool) (l : List Kt) (i j : Nat) : aheadP (hV most l) i j = (aheadR most (l.getD j kt0) (l.getD i kt0) || ((l.getD j kt0).val == (l.getD i kt0).val && decide ((j : Int) < (i : Int)))) := by
 unfold aheadP hV gV aheadR
 generalize (l.getD j kt0).val = a
 generalize (l.getD i kt0).val = b
 rw [Bool.eq_iff_iff]
 cases most <;> simp <;> omega
def midL (most : Bool) (l : List Kt) (q i : Nat) : List Kt := ((List.range i).filter fun j => rankK (hV most l) l.length j == q).map fun j => l.getD j kt0
def outL (most : Bool) (l : List Kt) (q : Nat) : List Kt := (List.range q).flatMap fun q => midL most l q l.length
theorem midL_next (most : Bool) (l : List Kt) (q i : Nat) : midL most l q (i + 1) = midL most l q i ++ if (rankK (hV most l) l.length i == q) = true then [l.getD i kt0] else [] := by
 unfold midL
 rw [List.range_succ, List.filter_append, List.map_append]
 by_cases h : (rankK (hV most l) l.length i == q) = true
 ·rw [if_pos h]
  simp [List.filter_cons, h]
 ·rw [if_neg h]
  simp [List.filter_cons, h]
theorem midL_len (most : Bool) (l : List Kt) (q i : Nat) : (midL most l q i).length ≤ i := by
 unfold midL
 rw [List.length_map]
 exact Nat.le_trans (List.length_filter_le _ _) (by simp)
theorem outL_next (most : Bool) (l : List Kt) (q : Nat) : outL most l (q + 1) = outL most l q ++ midL most l q l.length := by
 unfold outL
 rw [List.range_succ, List.flatMap_append]
 simp
theorem outL_len (most : Bool) (l : List Kt) : ∀ q, (outL most l q).length ≤ q * l.length
 | 0 => by simp [outL]
 | q + 1 => by
  have := outL_len most l q
  have h2 := midL_len most l q l.length
  rw [outL_next, List.length_append, Nat.add_mul]
  omega
def bestRL (l : List Kt) (cnt : Int) (most : Bool) : List Kt := bestK (gV most) kt0 l cnt.toNat
def bestRG : List AV → Mem → Option (AV × Mem)
 | [.lst _ 2 rows, .v (.int .i64 cnt), .v (.bool most)], m =>
  match unsKt rows with
  | some l => if l.length ≤ 500 then some (.lst .no 2 (rowsKt (bestRL l cnt most)), m) else none
  | none => none
 | _, _ => none
theorem bestR_eq {l : List Kt} {cnt : Int} {most : Bool} {g : Grow} (h : l.length ≤ 500) (m : Mem) : bestRG [.lst g 2 (rowsKt l), .v (.int .i64 cnt), .v (.bool most)] m = some (.lst .no 2 (rowsKt (bestRL l cnt most)), m) := by
 simp only [bestRG, unsKt_rowsKt]
 exact if_pos h
theorem rank_le (h : Nat → Int) (n i : Nat) : rankK h n i ≤ n := by
 unfold rankK
 exact Nat.le_trans List.countP_le_length (by simp)
def kpBestR : Nat → Option (List Nat) := fun
 | 0 => some [0, 1, 2]
 | 1 => some [0, 1, 2, 7]
 | 2 => some [0, 1, 2, 7, 8]
 | 3 => some [0, 1, 2, 7, 8, 21]
 | 4 => some [0, 1, 2, 7, 8]
 | 5 => some [0, 1, 2, 7, 8, 9]
 | 6 => some [0, 1, 2, 7, 8, 9, 27]
 | 7 => some [0, 1, 2, 7, 8, 9]
 | 8 => some [0, 1, 2, 7, 8, 9, 10]
 | 9 => some [0, 1, 2, 7, 8, 9, 10, 11]
 | 10 => some [0, 1, 2, 7, 8, 9, 10, 11, 33]
 | 11 => some [0, 1, 2, 7, 8, 9, 10, 11]
 | 12 => some [0, 1, 2, 7, 8, 9, 10, 11, 63]
 | 13 => some [0, 1, 2, 7, 8, 9, 10, 11]
 | 14 => some [0, 1, 2, 7, 8, 9, 68]
 | 15 => some [0, 1, 2, 7, 8, 9]
 | 16 => some [6]
 | _ => none
attribute [go_sem] kpBestR
def tab_bestR_ok : List (FuncId × (List AV → Mem → Option (AV × Mem))) := [(27, aheadRG)]
theorem bestR_ok : FunOk Tryz.prog 13 bestRG := by
 have hC := table_ok (P := Tryz.prog) (l := tab_bestR_ok) (table_more aheadR_ok table_nil)
 have t1 := fun args mm => table_at (l := tab_bestR_ok) (f := 27) (args := args) (m := mm) rfl
 refine fun_ok mixed hC Tryz.func13 rfl kpBestR false rfl fun args m r h => ?_
 unfold bestRG at h
 split at h
 ·rename_i gl rows cnt most
  split at h
  ·rename_i l hl0
   obtain rfl := unsKt_some hl0
   split at h
   ·rename_i hlen
    simp only [Option.some.injEq] at h
    subst h
    refine ⟨Nat.le_of_ble_eq_true rfl, ?_⟩
    refine en ?_
    have hG := growsA_full (m := m)
    have hend : bestRL l cnt most = outL most l (min l.length cnt.toNat) := rfl
    refine go0 ?_
    refine runs_loop (fun k e m' => ∃ (q : Nat) (g : Grow), q ≤ min l.length cnt.toNat ∧ GrowsA m g m' ∧ k = min l.length cnt.toNat - q ∧
     e = [(0, AV.lst gl 2 (rowsKt l)), (1, .v (.int .i64 cnt)), (2, .v (.bool most)), (7, .lst g 2 (rowsKt (outL most l q))), (8, .v (.int .i64 (q : Int)))]) (k := min l.length cnt.toNat) ⟨0, _, Nat.zero_le _, hG, rfl, rfl⟩ ?_
    rintro k e m' ⟨q, g, hq, hG1, rfl, rfl⟩
    by_cases hq1 : q < min l.length cnt.toNat
    ·have k1 : decide ((q : Int) < (l.length : Int)) = true := decide_eq_true (by omega)
     have k2 : decide ((q : Int) < cnt) = true := decide_eq_true (by omega)
     have r6 := next_i64 (i := q) (by omega)
     have hol := outL_len most l q
     have hmul : q * l.length ≤ 500 * 500 := Nat.mul_le_mul (by omega) hlen
     refine go1 (jn @k1 @k2) ?_
     refine runs_cond rfl (fun hc => ?_) (fun hc => by cases hc)
     refine go0 ?_
     refine runs_loop (fun k e m' => ∃ (i : Nat) (g : Grow), i ≤ l.length ∧ GrowsA m g m' ∧ k = l.length - i ∧
      e = [(0, AV.lst gl 2 (rowsKt l)), (1, .v (.int .i64 cnt)), (2, .v (.bool most)), (7, .lst g 2 (rowsKt (outL most l q ++ midL most l q i))), (8, .v (.int .i64 (q : Int))), (9, .v (.int .i64 (i : Int)))]) (k := l.length)
      ⟨0, g, Nat.zero_le _, hG1, rfl, by rw [show midL most l q 0 = [] from rfl, List.append_nil]; rfl⟩ ?_
     rintro k e m' ⟨i, g2, hi, hG2, rfl, rfl⟩
     refine go0 ?_
     refine runs_cond rfl (fun hc => ?_) (fun hc => ?_)
     ·have hi1 : i < l.length := by have := of_decide_eq_true hc; omega
      have f1 := atKt (g := gl) (kk := .i64) hi1
      have ri := next_i64 (i := i) (by omega)
      have hml := midL_len most l q i
      refine go0 ?_
      refine runs_loop (fun k e m'' => ∃ (j : Nat), j ≤ l.length ∧ m' = m'' ∧ k = l.length - j ∧
       e = [(0, AV.lst gl 2 (rowsKt l)), (1, .v (.int .i64 cnt)), (2, .v (.bool most)), (7, .lst g2 2 (rowsKt (outL most l q ++ midL most l q i))), (8, .v (.int .i64 (q : Int))), (9, .v (.int .i64 (i : Int))), (10, .v (.int .i64 ((rankK (hV most l) j i : Nat) : Int))), (11, .v (.int .i64 (j : Int)))]) (k := l.length)
       ⟨0, Nat.zero_le _, rfl, rfl, rfl⟩ ?_
      rintro k e m'' ⟨j, hj, rfl, rfl, rfl⟩
      refine go0 ?_
      refine runs_cond rfl (fun hc => ?_) (fun hc => ?_)
      ·have hj1 : j < l.length := by have := of_decide_eq_true hc; omega
       have f2 := atKt (g := gl) (kk := .i64) hj1
       have rj := next_i64 (i := j) (by omega)
       have hS := rankK_succ (hV most l) j i
       have hP := ahead_P most l i j
       have hrl := rank_le (hV most l) j i
       have cA := aheadR_eq (l.getD j kt0) (l.getD i kt0) most
       have rn := next_i64 (i := rankK (hV most l) j i) (by omega)
       rw [hP] at hS
       generalize l.getD j kt0 = y at f2 hS cA
       generalize l.getD i kt0 = x at f1 hS cA
       generalize aheadR most y x = B at hS cA
       refine go0 ?_
       repeat refine runs_seq ?_
       refine runs_rcut [(0, AV.lst gl 2 (rowsKt l)), (1, .v (.int .i64 cnt)), (2, .v (.bool most)), (7, .lst g2 2 (rowsKt (outL most l q ++ midL most l q i))), (8, .v (.int .i64 (q : Int))), (9, .v (.int .i64 (i : Int))), (10, .v (.int .i64 ((rankK (hV most l) j i : Nat) : Int))), (11, .v (.int .i64 (j : Int))), (63, .v (.bool (B || (y.val == x.val && decide ((j : Int) < (i : Int))))))] m' ?_ ?_
       ·refine runs_ops_drawn_kept (kp := kpBestR) (by kernel_rfl) ?_
        cases B with
        | true =>
         refine go1 (jn @f1 (jn @f2 (jn @t1 @cA))) ?_
         exact ⟨rfl, rfl, rfl⟩
        | false =>
         cases h2 : (y.val == x.val) with
         | false =>
          refine go1 (jn @f1 (jn @f2 (jn @t1 (jn @cA @h2)))) ?_
          exact ⟨rfl, rfl, rfl⟩
         | true =>
          refine go1 (jn @f1 (jn @f2 (jn @t1 (jn @cA @h2)))) ?_
          exact ⟨rfl, rfl, rfl⟩
       generalize (B || (y.val == x.val && decide ((j : Int) < (i : Int)))) = W at hS ⊢
       refine go0 ?_
       cases W with
       | true =>
        rw [if_pos rfl] at hS
        refine runs_cond rfl (fun hc => ?_) (fun hc => by cases hc)
        refine go1 (jn @rn @rj) ?_
        exact ⟨l.length - (j + 1), by omega, j + 1, hj1, rfl, rfl, by rw [hS]⟩
       | false =>
        rw [if_neg (by decide)] at hS
        refine runs_cond rfl (fun hc => by cases hc) (fun hc => ?_)
        refine go1 @rj ?_
        exact ⟨l.length - (j + 1), by omega, j + 1, hj1, rfl, rfl, by rw [hS]; rfl⟩
      ·have hj1 : j = l.length := by have := of_decide_eq_false hc; omega
       subst hj1
       have hM := midL_next most l q i
       have hcast : (((rankK (hV most l) l.length i : Nat) : Int) == (q : Int)) = (rankK (hV most l) l.length i == q) := by
        rw [Bool.eq_iff_iff]
        simp
        omega
       refine go1 @hcast ?_
       generalize (rankK (hV most l) l.length i == q) = W at hM ⊢
       cases W with
       | true =>
        rw [if_pos rfl] at hM
        generalize l.getD i kt0 = x at f1 hM
        have mk := mk1Kt (x := x)
        obtain ⟨g3, m6, a1, hG6, _⟩ := app_growsV (t := 41) (t2 := 41) appKt hG2 (xs := rowsKt (outL most l q ++ midL most l q i)) (y := .lst .full 2 (rowsKt [x])) asList_lst (by have h1 := rowsKt_len (outL most l q ++ midL most l q i); have h2 := rowsKt_len [x]; unfold lim; simp only [List.length_cons, List.length_nil, List.length_append] at h1 h2; omega)
        rw [rowsKt_app, List.append_assoc, ← hM] at a1
        refine runs_cond rfl (fun hc => ?_) (fun hc => by cases hc)
        refine go1 (jn @f1 (jn @mk (jn @a1 @ri))) ?_
        exact ⟨l.length - (i + 1), by omega, i + 1, g3, hi1, hG6, rfl, rfl⟩
       | false =>
        rw [if_neg (by decide), List.append_nil] at hM
        refine runs_cond rfl (fun hc => by cases hc) (fun hc => ?_)
        refine go1 @ri ?_
        exact ⟨l.length - (i + 1), by omega, i + 1, g2, hi1, hG2, rfl, by rw [hM]⟩
     ·have hi1 : i = l.length := by have := of_decide_eq_false hc; omega
      subst hi1
      refine go1 @r6 ?_
      exact ⟨min l.length cnt.toNat - (q + 1), by omega, q + 1, g2, hq1, hG2, rfl, by rw [outL_next]⟩
    ·have he : q = min l.length cnt.toNat := by omega
     repeat refine runs_seq ?_
     refine runs_rcut [(0, AV.lst gl 2 (rowsKt l)), (1, .v (.int .i64 cnt)), (2, .v (.bool most)), (7, .lst g 2 (rowsKt (outL most l q))), (8, .v (.int .i64 (q : Int))), (21, .v (.bool false))] m' ?_ ?_
     ·by_cases h9 : q < l.length
      ·have k1 : decide ((q : Int) < (l.length : Int)) = true := decide_eq_true (by omega)
       have k2 : decide ((q : Int) < cnt) = false := decide_eq_false (by omega)
       refine go1 (jn @k1 @k2) ?_
       exact ⟨rfl, rfl, rfl⟩
      ·have k1 : decide ((q : Int) < (l.length : Int)) = false := decide_eq_false (by omega)
       refine go1 @k1 ?_
       exact ⟨rfl, rfl, rfl⟩
     refine go0 ?_
     refine runs_cond rfl (fun hc => by cases hc) (fun hc => ?_)
     refine go0 ?_
     exact leaves_lst rfl (by rw [hend, ← he]; rfl) (growsA_fin hG1)
   ·cases h
  ·cases h
 ·cases h
end
section
attribute [local irreducible] Next Inside Runs Ops table
/-! ### what a step does to what is kept -/
theorem emaT_same (T : Tn) : T.emaT.s.step = T.s.step ∧ T.emaT.s.status = T.s.status := by
 unfold Tn.emaT
 split <;> exact ⟨rfl, rfl⟩
theorem wts_more (T : Tn) : T.wts.1.s.step = T.s.step ∧ T.wts.1.s.status = T.s.status := by
 unfold Tn.wts
 split
 ·split
  ·exact ⟨rfl, rfl⟩
  ·exact emaT_same _
 ·exact emaT_same _
theorem keeps_more (T : Tn) (x : Int) : (T.keeps x).s.step = T.s.step ∧ (T.keeps x).s.status = T.s.status ∧ (T.keeps x).s.kept = (kPut T x).1 := by
 unfold Tn.keeps Tn.keepsY
 split
 ·exact ⟨rfl, rfl, rfl⟩
 ·split <;> exact ⟨rfl, rfl, rfl⟩
theorem cuts_more (T : Tn) (x : Int) : (T.cuts x).s.step = T.s.step ∧ (T.cuts x).s.status = T.s.status ∧ (T.cuts x).s.kept = T.s.kept := by
 unfold Tn.cuts Tn.cutsY
 split <;> exact ⟨rfl, rfl, rfl⟩
theorem stops_more (T : Tn) (x : Int) : (T.stops x).s.step = T.s.step ∧ ((T.stops x).s.status = T.s.status ∨ (T.stops x).s.status = 2) ∧ (T.stops x).s.kept = T.s.kept := by
 unfold Tn.stops Tn.stopsY
 split
 ·exact ⟨rfl, .inr rfl, rfl⟩
 ·exact ⟨rfl, .inl rfl, rfl⟩
def keptLook (T : Tn) : List Kt := if (rdP T T.p.keepAt).2 = true then (kPut T (rdP T T.p.keepAt).1).1 else T.s.kept
theorem look_more (T : Tn) : T.look.s.step = T.s.step ∧ (T.look.s.status = T.s.status ∨ T.look.s.status = 2) ∧ T.look.s.kept = keptLook T := by
 have h1 : T.miss.look1.s.step = T.s.step ∧ T.miss.look1.s.status = T.s.status ∧ T.miss.look1.s.kept = keptLook T := by
  unfold Tn.look1 keptLook
  by_cases hb : (rdP T T.p.keepAt).2 = true
  ·rw [if_pos (show (rdP T.miss T.miss.p.keepAt).2 = true from hb), if_pos hb]
   exact keeps_more T.miss _
  ·rw [if_neg (show ¬ (rdP T.miss T.miss.p.keepAt).2 = true from hb), if_neg hb]
   exact ⟨rfl, rfl, rfl⟩
 have h2 : T.miss.look1.look2.s.step = T.miss.look1.s.step ∧ T.miss.look1.look2.s.status = T.miss.look1.s.status ∧ T.miss.look1.look2.s.kept = T.miss.look1.s.kept := by
  unfold Tn.look2
  split
  ·exact cuts_more _ _
  ·exact ⟨rfl, rfl, rfl⟩
 have h3 : T.look.s.step = T.miss.look1.look2.s.step ∧ (T.look.s.status = T.miss.look1.look2.s.status ∨ T.look.s.status = 2) ∧ T.look.s.kept = T.miss.look1.look2.s.kept := by
  unfold Tn.look Tn.look3
  split
  ·exact stops_more _ _
  ·exact ⟨rfl, .inl rfl, rfl⟩
 refine ⟨h3.1.trans (h2.1.trans h1.1), ?_, h3.2.2.trans (h2.2.2.trans h1.2.2)⟩
 rcases h3.2.1 with h | h
 ·exact .inl (h.trans (h2.2.1.trans h1.2.1))
 ·exact .inr h
theorem run3_more (T : Tn) : T.run3.s.step = T.s.step ∧ (T.run3.s.status = T.s.status ∨ T.run3.s.status = 1) ∧ T.run3.s.kept = T.s.kept := by
 unfold Tn.run3
 split
 ·exact ⟨rfl, .inl rfl, rfl⟩
 ·split
  ·exact ⟨rfl, .inr rfl, rfl⟩
  ·exact ⟨rfl, .inl rfl, rfl⟩
theorem keptLook_eq {T T' : Tn} (hx : T'.x = T.x) (hp : T'.p = T.p) (hk : T'.s.kept = T.s.kept) (hs : T'.step = T.step) : keptLook T' = keptLook T := by
 unfold keptLook rdP kPut
 rw [hx, hp, hk, hs]
/-- A step: it fails, and nothing is kept; or it doesn't. -/
theorem run_more {T : Tn} (h0 : T.s.status = 0) : T.run.s.step = T.s.step ∧ ((T.run.s.status = 3 ∧ T.run.s.kept = T.s.kept) ∨ ((T.run.s.status = 0 ∨ T.run.s.status = 1 ∨ T.run.s.status = 2) ∧ T.run.s.kept = if lookB T = true then keptLook T else T.s.kept)) := by
 obtain ⟨w1, w2⟩ := wts_more T.begins
 obtain ⟨e1, e2, e3, _, _, e6⟩ := wts_same T.begins
 have hx : T.begins.wts.1.x = T.x := e1
 have hp : T.begins.wts.1.p = T.p := e2
 have hk : T.begins.wts.1.s.kept = T.s.kept := e3
 have hs : T.begins.wts.1.step = T.step := e6
 have hst : T.begins.wts.1.s.status = 0 := w2.trans h0
 have hsp : T.begins.wts.1.s.step = T.s.step := w1
 unfold Tn.run
 split
 ·obtain ⟨r1, r2, r3⟩ := run3_more T.begins.wts.1.run2
  have hl : lookB T.begins.wts.1 = lookB T := by unfold lookB; rw [hp, hs]
  have h2 : T.begins.wts.1.run2.s.step = T.s.step ∧ (T.begins.wts.1.run2.s.status = 0 ∨ T.begins.wts.1.run2.s.status = 2) ∧ T.begins.wts.1.run2.s.kept = if lookB T = true then keptLook T else T.s.kept := by
   unfold Tn.run2
   rw [hl]
   split
   ·obtain ⟨l1, l2, l3⟩ := look_more T.begins.wts.1
    refine ⟨l1.trans hsp, ?_, ?_⟩
    ·rcases l2 with h | h
     ·exact .inl (h.trans hst)
     ·exact .inr h
    ·rw [l3, keptLook_eq hx hp hk hs]
   ·exact ⟨hsp, .inl hst, hk⟩
  refine ⟨r1.trans h2.1, .inr ⟨?_, r3.trans h2.2.2⟩⟩
  rcases r2 with h | h
  ·rcases h2.2.1 with h3 | h3
   ·exact .inl (h.trans h3)
   ·exact .inr (.inr (h.trans h3))
  ·exact .inr (.inl h)
 ·exact ⟨hsp, .inl ⟨rfl, hk⟩⟩
/-! ### looked, by the two -/
theorem mod_next (i e : Nat) (he : 0 < e) : (i + 1) % e = 0 ↔ i % e = e - 1 := by
 have h1 := Nat.div_add_mod i e
 have h2 := Nat.mod_lt i he
 by_cases h : i % e = e - 1
 ·refine ⟨fun _ => h, fun _ => ?_⟩
  have : i + 1 = e * (i / e + 1) := by rw [Nat.mul_add]; omega
  rw [this]
  exact Nat.mul_mod_right e _
 ·refine ⟨fun hh => ?_, fun hh => absurd hh h⟩
  have e1 : i + 1 = (i % e + 1) + e * (i / e) := by omega
  rw [e1, Nat.add_mul_mod_self_left, Nat.mod_eq_of_lt (by omega)] at hh
  omega
theorem look_same2 {T : Tn} {i : Nat} (hi : T.step = (i : Int)) (hi6 : i ≤ 1000000) (he : 0 ≤ T.p.eval ∧ T.p.eval ≤ 1000000) : lookB T = lookedB T.p (i : Int) := by
 unfold lookB lookedB
 rw [hi]
 by_cases h0 : T.p.eval > 0
 ·rw [decide_eq_true h0, Bool.true_and, Bool.true_and]
  obtain ⟨e, hee⟩ := Int.eq_ofNat_of_zero_le he.1
  rw [hee] at h0 he ⊢
  rw [wrap_i64 (n := (i : Int) + 1) (by omega) (by omega), wrap_i64 (n := (e : Int) - 1) (by omega) (by omega)]
  have m := mod_next i e (by omega)
  rw [Bool.eq_iff_iff]
  simp only [beq_iff_eq]
  have e1 : ((i : Int) + 1).tmod (e : Int) = (((i + 1) % e : Nat) : Int) := by
   rw [show (i : Int) + 1 = ((i + 1 : Nat) : Int) by omega]
   rfl
  have e2 : (i : Int).tmod (e : Int) = ((i % e : Nat) : Int) := rfl
  rw [e1, e2]
  omega
 ·rw [decide_eq_false h0, Bool.false_and, Bool.false_and]
/-! ### put, by the two -/
theorem bet_ahead {a b : Kt} (most : Bool) : aheadB most a b = decide (gV most a < gV most b) := by
 unfold aheadB betV mkRule gapV gV mx
 cases most <;> simp <;> omega
theorem putOut_ins (most : Bool) (x : Kt) : ∀ l : List Kt, putOut most l x = insK (gV most) x l := by
 have key : ∀ (l : List Kt) (k : Nat), (firstBy (aheadB most x) l k = -1 ∧ insK (gV most) x l = l ++ [x]) ∨ ∃ j, firstBy (aheadB most x) l k = ((k + j : Nat) : Int) ∧ j < l.length ∧ insK (gV most) x l = l.take j ++ x :: l.drop j := by
  intro l
  induction l with
  | nil => intro k; exact .inl ⟨rfl, rfl⟩
  | cons y l ih =>
   intro k
   rw [firstBy, insK]
   rw [bet_ahead]
   by_cases h : gV most x < gV most y
   ·rw [if_pos (decide_eq_true h), if_pos h]
    exact .inr ⟨0, by simp, by simp, rfl⟩
   ·rw [if_neg (by simpa using h), if_neg h]
    rcases ih (k + 1) with ⟨h1, h2⟩ | ⟨j, h1, h2, h3⟩
    ·exact .inl ⟨h1, by rw [h2]; rfl⟩
    ·refine .inr ⟨j + 1, by rw [h1]; congr 1; omega, by simp; omega, by rw [h3]; rfl⟩
 intro l
 unfold putOut putAt
 rcases key l 0 with ⟨h1, h2⟩ | ⟨j, h1, h2, h3⟩
 ·rw [h1, if_pos (by decide), h2, List.take_length, List.drop_length]
 ·rw [h1, if_neg (by omega), Nat.zero_add, Int.toNat_natCast, h3]
theorem putV_ins {cnt : Int} {most : Bool} {l : List Kt} {x : Kt} (h0 : 0 ≤ cnt) (hl : (l.length : Int) ≤ cnt) : (putV cnt most l x).1 = (insK (gV most) x l).take cnt.toNat := by
 unfold putV
 rw [putOut_ins]
 have hlen := insK_len (gV most) x l
 split
 ·rename_i h
  rw [List.take_of_length_le (by omega)]
 ·rename_i h
  show List.take ((insK (gV most) x l).length - 1) _ = _
  rw [show (insK (gV most) x l).length - 1 = cnt.toNat by omega]
end
section
attribute [local irreducible] Next Inside Runs Ops table
def foldK (p : Pn) (k : List Kt) : List Kt := k.foldl (fun l x => (insK (gV p.keep.Max) x l).take p.keep.Count.toNat) []
theorem foldK_len (p : Pn) : ∀ (k l : List Kt), l.length ≤ p.keep.Count.toNat → (k.foldl (fun l x => (insK (gV p.keep.Max) x l).take p.keep.Count.toNat) l).length ≤ p.keep.Count.toNat
 | [], l, h => h
 | x :: k, l, h => foldK_len p k _ (by rw [List.length_take]; omega)
theorem foldK_app (p : Pn) (k : List Kt) (x : Kt) : foldK p (k ++ [x]) = (insK (gV p.keep.Max) x (foldK p k)).take p.keep.Count.toNat := by
 unfold foldK
 rw [List.foldl_append]
 rfl
/-- A plan that may be, and that keeps. -/
theorem keep_facts {p : Pn} (h : planOkB p = true) (hk : ¬ p.keepAt < 0) : p.keepAt < p.metrics ∧ 1 ≤ p.keep.Count ∧ p.keep.Count ≤ 16 := by
 have h3 := planOk_parts h
 have hm := h3.2.2.1
 have h4 := h3.2.2.2.2.2.2.2.2.2.2.1
 unfold keepOkB at h4
 rw [if_neg (by omega)] at h4
 simp only [Bool.and_eq_true, inB_iff] at h4
 have h5 := h4.1.1
 unfold seenB at h5
 simp only [Bool.and_eq_true, inB_iff] at h5
 omega
/-- What a run is like behind so many inputs. -/
def RunAt (p : Pn) (l : List In) (i : Nat) (S : Ss) : Prop :=
 (S.status = 0 ∧ S.step = (i : Int) ∧ (i : Int) ≤ p.steps ∧ (seenN p p.keepAt l i).2 = false ∧ ((p.keepAt < 0 ∧ S.kept = []) ∨ (¬ p.keepAt < 0 ∧ S.kept = foldK p (seenN p p.keepAt l i).1))) ∨
 (S.status ≠ 0 ∧ ∃ n : Nat, n ≤ i ∧ (n : Int) ≤ p.steps ∧ takenV S = (n : Int) ∧ ((p.keepAt < 0 ∧ S.kept = []) ∨ (¬ p.keepAt < 0 ∧ S.kept = foldK p (seenN p p.keepAt l n).1)))
theorem run_at {p : Pn} {l : List In} (hp : stateOkB p ssNew = true) : ∀ (i : Nat) {S : Ss} {acc : List Ou}, goTo p l ssNew i = (S, acc, 0) → RunAt p l i S
 | 0, S, acc, h => by
  cases h
  have hst := (planOk_parts (by unfold stateOkB at hp; simp only [Bool.and_eq_true] at hp; exact hp.1)).1
  refine .inl ⟨rfl, rfl, by omega, rfl, ?_⟩
  by_cases hk : p.keepAt < 0
  ·exact .inl ⟨hk, rfl⟩
  ·exact .inr ⟨hk, rfl⟩
 | i + 1, S, acc, h => by
  have hpl : planOkB p = true := by unfold stateOkB at hp; simp only [Bool.and_eq_true] at hp; exact hp.1
  have hparts := planOk_parts hpl
  cases hY : goTo p l ssNew i with
  | mk S0 Y =>
   obtain ⟨acc0, E0⟩ := Y
   rw [goTo, hY] at h
   dsimp only at h
   split at h
   ·rename_i hE
    cases h
    exact absurd rfl hE
   ·rename_i hE
    have hE0 : E0 = 0 := by simpa using hE
    subst hE0
    have ih := run_at hp i hY
    split at h
    ·rename_i hs
     cases h
     rcases ih with ⟨h0, _⟩ | ⟨h1, n, hn, hr⟩
     ·exact absurd h0 hs
     ·exact .inr ⟨h1, n, by omega, hr⟩
    ·rename_i hs
     have hs0 : S0.status = 0 := by simpa using hs
     rcases ih with ⟨_, hstep, hle, hsn, hkept⟩ | ⟨h1, _⟩
     ·split at h
      ·rename_i hz
       simp only [Prod.mk.injEq] at h
       exact absurd h.2.2 hz
      ·rename_i hz
       have hz0 : (stepV p S0 (l.getD i in0)).2.2 = 0 := by simpa using hz
       have hS : S = (stepV p S0 (l.getD i in0)).1 := by cases h; rfl
       have hseen : seenN p p.keepAt l (i + 1) = if ((l.getD i in0).readings.length : Int) ≠ p.metrics then ((seenN p p.keepAt l i).1, true) else if seenHit p p.keepAt (l.getD i in0) i = true then ((seenN p p.keepAt l i).1 ++ [⟨i, ((l.getD i in0).readings.getD p.keepAt.toNat rd0).val⟩], false) else ((seenN p p.keepAt l i).1, false) := by
        rw [seenN, if_neg (by rw [hsn]; decide)]
       generalize l.getD i in0 = x at hz0 hS hseen
       unfold stepV at hz0 hS
       split at hz0
       ·cases hz0
       ·rename_i h1
        rw [if_neg h1] at hS
        split at hz0
        ·rename_i h2
         exact absurd hz0 h2
        ·rename_i h2
         rw [if_neg h2] at hS
         have hrd : rdOkB p x = true := by simpa using h1
         obtain ⟨hok, _⟩ := goes_good (p := p) (s := S0) (by simpa using h2)
         have hlt : S0.step < p.steps := by
          unfold stateOkB at hok
          simp only [Bool.and_eq_true] at hok
          have hst := hok.2.1
          unfold statusB at hst
          rw [if_pos hs0] at hst
          simp only [Bool.and_eq_true, inB_iff] at hst
          rw [wrap_i64 (n := p.steps - 1) (by omega) (by omega)] at hst
          omega
         have hlen : (x.readings.length : Int) = p.metrics := by
          unfold rdOkB at hrd
          simp only [Bool.and_eq_true, beq_iff_eq] at hrd
          exact hrd.1.1.2
         rw [if_neg (by omega)] at hseen
         have hsn2 : (seenN p p.keepAt l (i + 1)).2 = false := by rw [hseen]; split <;> rfl
         obtain ⟨r1, r2⟩ := run_more (T := turnAt p S0 x) hs0
         have e1 : S.step = ((i + 1 : Nat) : Int) := by
          rw [hS]
          show IntKind.i64.wrap ((turnAt p S0 x).run.s.step + 1) = _
          rw [r1]
          show IntKind.i64.wrap (S0.step + 1) = _
          rw [hstep, wrap_i64 (by omega) (by omega)]
          omega
         have e2 : S.status = (turnAt p S0 x).run.s.status := by rw [hS]; rfl
         have e3 : S.kept = (turnAt p S0 x).run.s.kept := by rw [hS]; rfl
         rcases r2 with ⟨q1, q2⟩ | ⟨q1, q2⟩
         ·refine .inr ⟨by rw [e2, q1]; decide, i, Nat.le_succ i, by omega, ?_, ?_⟩
          ·unfold takenV
           rw [if_pos (e2.trans q1), e1, wrap_i64 (by omega) (by omega)]
           omega
          ·rw [e3, q2]
           exact hkept
         ·have hk2 : (p.keepAt < 0 ∧ S.kept = []) ∨ (¬ p.keepAt < 0 ∧ S.kept = foldK p (seenN p p.keepAt l (i + 1)).1) := by
           rw [e3, q2, look_same2 (T := turnAt p S0 x) (i := i) hstep (by omega) (by show 0 ≤ p.eval ∧ p.eval ≤ 1000000; omega)]
           show (p.keepAt < 0 ∧ (if lookedB p (i : Int) = true then keptLook (turnAt p S0 x) else S0.kept) = []) ∨ (¬ p.keepAt < 0 ∧ (if lookedB p (i : Int) = true then keptLook (turnAt p S0 x) else S0.kept) = _)
           have hrd2 : rdP (turnAt p S0 x) p.keepAt = rdOf x p.keepAt := rfl
           have hkl : keptLook (turnAt p S0 x) = if (rdOf x p.keepAt).2 = true then (putV (mx p.keep.Count 0) p.keep.Max S0.kept ⟨S0.step, (rdOf x p.keepAt).1⟩).1 else S0.kept := rfl
           rcases hkept with ⟨hk, he⟩ | ⟨hk, he⟩
           ·refine .inl ⟨hk, ?_⟩
            have : (rdOf x p.keepAt).2 = false := by unfold rdOf; rw [if_pos (.inl hk)]
            rw [hkl, this, he]
            simp
           ·refine .inr ⟨hk, ?_⟩
            obtain ⟨f1, f2, f3⟩ := keep_facts hpl hk
            have hro : rdOf x p.keepAt = if (x.readings.getD p.keepAt.toNat rd0).has = true then ((x.readings.getD p.keepAt.toNat rd0).val, true) else (0, false) := by unfold rdOf; rw [if_neg (by omega)]
            have hhit : seenHit p p.keepAt x i = (lookedB p (i : Int) && (x.readings.getD p.keepAt.toNat rd0).has) := by unfold seenHit; rw [decide_eq_true (show p.keepAt ≥ 0 by omega), Bool.true_and]
            rw [hhit] at hseen
            rw [hkl, hro, hseen]
            cases hlk : lookedB p (i : Int) with
            | false => simp [he]
            | true =>
             cases hh : (x.readings.getD p.keepAt.toNat rd0).has with
             | false => simp [he]
             | true =>
              simp only [Bool.and_self, if_true]
              rw [foldK_app, he, hstep, show mx p.keep.Count 0 = p.keep.Count by unfold mx; split <;> omega]
              refine putV_ins (by omega) ?_
              have := foldK_len p (seenN p p.keepAt l i).1 [] (Nat.zero_le _)
              unfold foldK
              omega
          by_cases hst0 : S.status = 0
          ·exact .inl ⟨hst0, e1, by omega, hsn2, hk2⟩
          ·refine .inr ⟨hst0, i + 1, Nat.le_refl _, by omega, ?_, hk2⟩
           unfold takenV
           rw [if_neg (by rw [e2]; rcases q1 with h | h | h <;> rw [h] <;> decide), e1]
     ·exact absurd hs0 h1
theorem seenN_take {p : Pn} {a : Int} {l : List In} {n : Nat} : ∀ i, i ≤ n → seenN p a (l.take n) i = seenN p a l i
 | 0, _ => rfl
 | i + 1, hi => by
  have e : (l.take n).getD i in0 = l.getD i in0 := by
   simp only [List.getD]
   rw [List.getElem?_take, if_pos (by omega)]
  rw [seenN, seenN, seenN_take i (by omega), e]
/-- Behind a run: as many steps were taken in as n; what is kept is the best of what was seen. -/
theorem kept_best {p : Pn} {l : List In} (h : (allV p l).2.2 = 0) : ∃ n : Nat, n ≤ l.length ∧ takenV (allV p l).1 = (n : Int) ∧ stateOkB p ssNew = true ∧
  ((p.keepAt < 0 ∧ (allV p l).1.kept = []) ∨ (¬ p.keepAt < 0 ∧ p.keepAt < p.metrics ∧ (allV p l).1.kept = bestK (gV p.keep.Max) kt0 (seenL p p.keepAt (l.take n)) p.keep.Count.toNat ∧ (((allV p l).1.kept.length : Int) ≤ p.keep.Count ∧ p.keep.Count ≤ 16) ∧ (seenL p p.keepAt (l.take n)).length ≤ l.length)) := by
 unfold allV fromV at h ⊢
 by_cases hok : stateOkB p ssNew = true
 ·rw [if_pos hok] at h ⊢
  have hpl : planOkB p = true := by unfold stateOkB at hok; simp only [Bool.and_eq_true] at hok; exact hok.1
  cases hY : goTo p l ssNew l.length with
  | mk S Y =>
   obtain ⟨acc, E⟩ := Y
   rw [hY] at h
   have hE : E = 0 := h
   subst hE
   have key : ∃ n : Nat, n ≤ l.length ∧ (n : Int) ≤ p.steps ∧ takenV S = (n : Int) ∧ ((p.keepAt < 0 ∧ S.kept = []) ∨ (¬ p.keepAt < 0 ∧ S.kept = foldK p (seenN p p.keepAt l n).1)) := by
    rcases run_at hok l.length hY with ⟨h0, h1, h2, _, h3⟩ | ⟨h1, n, hn, hr⟩
    ·refine ⟨l.length, Nat.le_refl _, h2, ?_, h3⟩
     unfold takenV
     rw [if_neg (by omega), h1]
    ·exact ⟨n, hn, hr⟩
   obtain ⟨n, hn, hns, ht, hk⟩ := key
   refine ⟨n, hn, ht, hok, ?_⟩
   rcases hk with ⟨hk, he⟩ | ⟨hk, he⟩
   ·exact .inl ⟨hk, he⟩
   ·obtain ⟨f1, f2, f3⟩ := keep_facts hpl hk
    have hsl : seenL p p.keepAt (l.take n) = (seenN p p.keepAt l n).1 := by
     unfold seenL
     rw [List.length_take, Nat.min_eq_left hn, Nat.min_eq_left (by omega), seenN_take n (Nat.le_refl n)]
    refine .inr ⟨hk, f1, ?_, ?_, ?_⟩
    ·show S.kept = _
     rw [he, hsl]
     exact best_same _ _ _ _
    ·refine ⟨?_, f3⟩
     show (S.kept.length : Int) ≤ _
     rw [he]
     have := foldK_len p (seenN p p.keepAt l n).1 [] (Nat.zero_le _)
     unfold foldK
     omega
    ·rw [hsl]
     exact Nat.le_trans (seenN_len p p.keepAt l n) hn
 ·rw [if_neg hok] at h
  cases h
end
section
attribute [local irreducible] Next Inside Runs Ops table
theorem ty_int {d : Nat} {p : List AV} (h : Typed Tryz.prog (d + 1) 3 p) : ∃ n, inI n ∧ p = [iv n] := by
 unfold Typed at h
 rw [Tryz.underlying3] at h
 obtain ⟨n, rfl, n0, n1⟩ := h
 simp [IntKind.min, IntKind.max, IntKind.signed, IntKind.bits] at n0 n1
 exact ⟨n, ⟨n0, n1⟩, rfl⟩
theorem ty_bool {d : Nat} {p : List AV} (h : Typed Tryz.prog (d + 1) 4 p) : ∃ b, p = [.v (.bool b)] := by
 unfold Typed at h
 rw [Tryz.underlying4] at h
 exact h
theorem ty_str {d : Nat} {p : List AV} (h : Typed Tryz.prog (d + 1) 9 p) : ∃ s, okStr s ∧ p = [.v (.string s)] := by
 unfold Typed at h
 rw [Tryz.underlying9] at h
 obtain ⟨s, rfl, h1⟩ := h
 exact ⟨s, h1, rfl⟩
theorem size_cells2 {t : TypeId} {k : Nat} (h : tSize Tryz.prog t = some k) : Tryz.prog.cellsOf t = k := by
 unfold tSize at h
 unfold Program.cellsOf
 cases hi : Tryz.prog.info? t with
 | none => rw [hi] at h; cases h
 | some i => rw [hi] at h; simp at h ⊢; exact h
/-- A list, each of whose rows is so. -/
theorem ty_rows {α : Type} {d : Nat} {t : TypeId} {row : α → List AV} {Q : α → Prop} (hr : ∀ {p : List AV}, Typed Tryz.prog d t p → ∃ x, Q x ∧ p = row x) : ∀ {rows : List (List AV)}, (∀ r ∈ rows, Typed Tryz.prog d t r) → ∃ l : List α, (∀ x ∈ l, Q x) ∧ rows = l.map row
 | [], _ => ⟨[], (fun s hs => by simp at hs), rfl⟩
 | r :: rows, h => by
  obtain ⟨l, h1, rfl⟩ := ty_rows hr fun q hq => h q (List.mem_cons_of_mem _ hq)
  obtain ⟨s, h2, rfl⟩ := hr (h r (List.mem_cons_self ..))
  refine ⟨s :: l, fun x hx => ?_, rfl⟩
  rcases List.mem_cons.1 hx with rfl | hx
  ·exact h2
  ·exact h1 x hx
theorem ty_lst {α : Type} {d k : Nat} {t s : TypeId} {row : α → List AV} {Q : α → Prop} (hs : Tryz.prog.underlying s = some (.slice t)) (hk : tSize Tryz.prog t = some k) (hr : ∀ {p : List AV}, Typed Tryz.prog d t p → ∃ x, Q x ∧ p = row x) {p : List AV} (h : Typed Tryz.prog (d + 1) s p) : ∃ l : List α, (∀ x ∈ l, Q x) ∧ p = [.lst .no k (l.map row)] := by
 unfold Typed at h
 rw [hs] at h
 obtain ⟨rows, rfl, _, h2⟩ := h
 obtain ⟨l, h3, rfl⟩ := ty_rows hr h2
 exact ⟨l, h3, by rw [size_cells2 hk]⟩
theorem ty_sp {d : Nat} {p : List AV} (h : Typed Tryz.prog (d + 2) 94 p) : ∃ x : Sp, True ∧ p = x.row := by
 unfold Typed at h
 rw [Tryz.underlying94] at h
 obtain ⟨parts, rfl, hl, h⟩ := h
 match parts, hl with
 | [p0, p1], _ =>
  obtain ⟨a, _, rfl⟩ := ty_int (h 0 _ p0 rfl rfl)
  obtain ⟨b, _, rfl⟩ := ty_int (h 1 _ p1 rfl rfl)
  exact ⟨⟨a, b⟩, trivial, rfl⟩
theorem ty_cv {d : Nat} {p : List AV} (h : Typed Tryz.prog (d + 2) 71 p) : ∃ x : Cv, p = x.row := by
 unfold Typed at h
 rw [Tryz.underlying71] at h
 obtain ⟨parts, rfl, hl, h⟩ := h
 match parts, hl with
 | [p0, p1, p2, p3], _ =>
  obtain ⟨a, _, rfl⟩ := ty_int (h 0 _ p0 rfl rfl)
  obtain ⟨b, _, rfl⟩ := ty_int (h 1 _ p1 rfl rfl)
  obtain ⟨c, _, rfl⟩ := ty_int (h 2 _ p2 rfl rfl)
  obtain ⟨e, _, rfl⟩ := ty_int (h 3 _ p3 rfl rfl)
  exact ⟨⟨a, b, c, e⟩, rfl⟩
theorem ty_sg {d : Nat} {p : List AV} (h : Typed Tryz.prog (d + 3) 73 p) : ∃ x : Sg, True ∧ p = x.row := by
 unfold Typed at h
 rw [Tryz.underlying73] at h
 obtain ⟨parts, rfl, hl, h⟩ := h
 match parts, hl with
 | [p0, p1, p2, p3, p4, p5, p6], _ =>
  obtain ⟨a, _, rfl⟩ := ty_int (h 0 _ p0 rfl rfl)
  obtain ⟨b, _, rfl⟩ := ty_int (h 1 _ p1 rfl rfl)
  obtain ⟨c, _, rfl⟩ := ty_int (h 2 _ p2 rfl rfl)
  obtain ⟨e, _, rfl⟩ := ty_int (h 3 _ p3 rfl rfl)
  obtain ⟨v, rfl⟩ := ty_cv (h 4 _ p4 rfl rfl)
  obtain ⟨f, _, rfl⟩ := ty_int (h 5 _ p5 rfl rfl)
  obtain ⟨g, _, rfl⟩ := ty_int (h 6 _ p6 rfl rfl)
  exact ⟨⟨a, b, c, e, v, f, g⟩, trivial, rfl⟩
theorem ty_tk {d : Nat} {p : List AV} (h : Typed Tryz.prog (d + 5) 68 p) : ∃ x : Tk, True ∧ p = x.row := by
 unfold Typed at h
 rw [Tryz.underlying68] at h
 obtain ⟨parts, rfl, hl, h⟩ := h
 match parts, hl with
 | [p0, p1, p2], _ =>
  obtain ⟨a, _, rfl⟩ := ty_int (h 0 _ p0 rfl rfl)
  obtain ⟨b, _, rfl⟩ := ty_int (h 1 _ p1 rfl rfl)
  obtain ⟨l, _, rfl⟩ := ty_lst (row := Sg.row) (Q := fun _ => True) Tryz.underlying66 szSg (fun h => ty_sg (d := d) h) (h 2 _ p2 rfl rfl)
  exact ⟨⟨a, b, l⟩, trivial, rfl⟩
theorem ty_bo {d : Nat} {p : List AV} (h : Typed Tryz.prog (d + 1) 4 p) : ∃ x : Bool, True ∧ p = [.v (.bool x)] := by
 obtain ⟨b, h⟩ := ty_bool h
 exact ⟨b, trivial, h⟩
theorem ty_bos {d : Nat} {p : List AV} (h : Typed Tryz.prog (d + 2) 62 p) : ∃ x : List Bool, True ∧ p = [.lst .no 1 (rowsBo x)] := by
 obtain ⟨l, _, rfl⟩ := ty_lst (row := fun x : Bool => [.v (.bool x)]) (Q := fun _ => True) Tryz.underlying62 szBool (fun h => ty_bo (d := d) h) h
 exact ⟨l, trivial, rfl⟩
theorem ty_tp {d : Nat} {p : List AV} (h : Typed Tryz.prog (d + 2) 26 p) : ∃ x : Tp, inI x.Delta ∧ p = x.row := by
 unfold Typed at h
 rw [Tryz.underlying26] at h
 obtain ⟨parts, rfl, hl, h⟩ := h
 match parts, hl with
 | [p0, p1, p2, p3, p4, p5], _ =>
  obtain ⟨a, rfl⟩ := ty_bool (h 0 _ p0 rfl rfl)
  obtain ⟨b, b0, rfl⟩ := ty_str (h 1 _ p1 rfl rfl)
  obtain ⟨c, rfl⟩ := ty_bool (h 2 _ p2 rfl rfl)
  obtain ⟨e, e0, rfl⟩ := ty_int (h 3 _ p3 rfl rfl)
  obtain ⟨f, f0, rfl⟩ := ty_int (h 4 _ p4 rfl rfl)
  obtain ⟨g, rfl⟩ := ty_bool (h 5 _ p5 rfl rfl)
  exact ⟨⟨a, b, c, e, f, g⟩, f0, rfl⟩
theorem ty_pt {d : Nat} {p : List AV} (h : Typed Tryz.prog (d + 2) 28 p) : ∃ x : Pt, (inI x.Factor ∧ inI x.Cooldown ∧ inI x.Delta) ∧ p = x.row := by
 unfold Typed at h
 rw [Tryz.underlying28] at h
 obtain ⟨parts, rfl, hl, h⟩ := h
 match parts, hl with
 | [p0, p1, p2, p3, p4, p5, p6, p7], _ =>
  obtain ⟨a, rfl⟩ := ty_bool (h 0 _ p0 rfl rfl)
  obtain ⟨b, b0, rfl⟩ := ty_str (h 1 _ p1 rfl rfl)
  obtain ⟨c, rfl⟩ := ty_bool (h 2 _ p2 rfl rfl)
  obtain ⟨e, e0, rfl⟩ := ty_int (h 3 _ p3 rfl rfl)
  obtain ⟨f, f0, rfl⟩ := ty_int (h 4 _ p4 rfl rfl)
  obtain ⟨g, g0, rfl⟩ := ty_int (h 5 _ p5 rfl rfl)
  obtain ⟨i, i0, rfl⟩ := ty_int (h 6 _ p6 rfl rfl)
  obtain ⟨j, j0, rfl⟩ := ty_int (h 7 _ p7 rfl rfl)
  exact ⟨⟨a, b, c, e, f, g, i, j⟩, ⟨e0, g0, j0⟩, rfl⟩
theorem ty_kp {d : Nat} {p : List AV} (h : Typed Tryz.prog (d + 2) 30 p) : ∃ x : Kp, p = x.row := by
 unfold Typed at h
 rw [Tryz.underlying30] at h
 obtain ⟨parts, rfl, hl, h⟩ := h
 match parts, hl with
 | [p0, p1, p2, p3], _ =>
  obtain ⟨a, rfl⟩ := ty_bool (h 0 _ p0 rfl rfl)
  obtain ⟨b, b0, rfl⟩ := ty_str (h 1 _ p1 rfl rfl)
  obtain ⟨c, rfl⟩ := ty_bool (h 2 _ p2 rfl rfl)
  obtain ⟨e, e0, rfl⟩ := ty_int (h 3 _ p3 rfl rfl)
  exact ⟨⟨a, b, c, e⟩, rfl⟩
theorem ty_em {d : Nat} {p : List AV} (h : Typed Tryz.prog (d + 2) 32 p) : ∃ x : Em, p = x.row := by
 unfold Typed at h
 rw [Tryz.underlying32] at h
 obtain ⟨parts, rfl, hl, h⟩ := h
 match parts, hl with
 | [p0, p1], _ =>
  obtain ⟨a, rfl⟩ := ty_bool (h 0 _ p0 rfl rfl)
  obtain ⟨b, b0, rfl⟩ := ty_int (h 1 _ p1 rfl rfl)
  exact ⟨⟨a, b⟩, rfl⟩
/-- A plan's numbers, as they come. -/
def pnT (p : Pn) : Prop := inI p.plateau.Delta ∧ inI p.plateau.Factor ∧ inI p.stop.Delta ∧ inI p.plateau.Cooldown
theorem ty_pn {d : Nat} {p : List AV} (h : Typed Tryz.prog (d + 7) 34 p) : ∃ x : Pn, pnT x ∧ p = x.row := by
 unfold Typed at h
 rw [Tryz.underlying34] at h
 obtain ⟨parts, rfl, hl, h⟩ := h
 match parts, hl with
 | [p0, p1, p2, p3, p4, p5, p6, p7, p8, p9, p10, p11, p12, p13, p14, p15, p16], _ =>
  obtain ⟨c0, _, rfl⟩ := ty_int (h 0 _ p0 rfl rfl)
  obtain ⟨c1, _, rfl⟩ := ty_int (h 1 _ p1 rfl rfl)
  obtain ⟨c2, _, rfl⟩ := ty_int (h 2 _ p2 rfl rfl)
  obtain ⟨c3, _, rfl⟩ := ty_int (h 3 _ p3 rfl rfl)
  obtain ⟨c4, _, rfl⟩ := ty_int (h 4 _ p4 rfl rfl)
  obtain ⟨c5, _, rfl⟩ := ty_lst (row := Sp.row) (Q := fun _ => True) Tryz.underlying22 szSp (fun h => ty_sp (d := d + 3) h) (h 5 _ p5 rfl rfl)
  obtain ⟨c6, _, rfl⟩ := ty_lst (row := fun x => [.lst .no 1 (rowsBo x)]) (Q := fun _ => True) Tryz.underlying23 szBs (fun h => ty_bos (d := d + 3) h) (h 6 _ p6 rfl rfl)
  obtain ⟨c7, _, rfl⟩ := ty_lst (row := Tk.row) (Q := fun _ => True) Tryz.underlying24 szTk (fun h => ty_tk (d := d) h) (h 7 _ p7 rfl rfl)
  obtain ⟨s, s0, rfl⟩ := ty_tp (h 8 _ p8 rfl rfl)
  obtain ⟨t, ⟨t0, t1, t2⟩, rfl⟩ := ty_pt (h 9 _ p9 rfl rfl)
  obtain ⟨k, rfl⟩ := ty_kp (h 10 _ p10 rfl rfl)
  obtain ⟨e, rfl⟩ := ty_em (h 11 _ p11 rfl rfl)
  obtain ⟨c12, _, rfl⟩ := ty_int (h 12 _ p12 rfl rfl)
  obtain ⟨c13, _, rfl⟩ := ty_int (h 13 _ p13 rfl rfl)
  obtain ⟨c14, _, rfl⟩ := ty_int (h 14 _ p14 rfl rfl)
  obtain ⟨c15, _, rfl⟩ := ty_int (h 15 _ p15 rfl rfl)
  obtain ⟨c16, _, rfl⟩ := ty_int (h 16 _ p16 rfl rfl)
  exact ⟨⟨c0, c1, c2, c3, c4, c5, c6, c7, s, t, k, e, c12, c13, c14, c15, c16⟩, ⟨t2, t0, s0, t1⟩, rfl⟩
theorem arg_pn {d : Nat} {a : AV} (h : TypedArg Tryz.prog (d + 7) 34 a) : ∃ x : Pn, pnT x ∧ a = .agg x.row := by
 unfold TypedArg at h
 rw [Tryz.underlying34] at h
 obtain ⟨cs, rfl, h⟩ := h
 obtain ⟨R, h1, rfl⟩ := ty_pn h
 exact ⟨R, h1, rfl⟩
theorem ty_rd {d : Nat} {p : List AV} (h : Typed Tryz.prog (d + 2) 89 p) : ∃ x : Rd, inI x.val ∧ p = x.row := by
 unfold Typed at h
 rw [Tryz.underlying89] at h
 obtain ⟨parts, rfl, hl, h⟩ := h
 match parts, hl with
 | [p0, p1], _ =>
  obtain ⟨a, rfl⟩ := ty_bool (h 0 _ p0 rfl rfl)
  obtain ⟨b, b0, rfl⟩ := ty_int (h 1 _ p1 rfl rfl)
  exact ⟨⟨a, b⟩, b0, rfl⟩
def inT (x : In) : Prop := (∀ y ∈ x.readings, inI y.val) ∧ ∀ y ∈ x.weights, inI y
theorem ty_in {d : Nat} {p : List AV} (h : Typed Tryz.prog (d + 4) 82 p) : ∃ x : In, inT x ∧ p = x.row := by
 unfold Typed at h
 rw [Tryz.underlying82] at h
 obtain ⟨parts, rfl, hl, h⟩ := h
 match parts, hl with
 | [p0, p1], _ =>
  obtain ⟨a, a0, rfl⟩ := ty_lst (row := Rd.row) (Q := fun x => inI x.val) Tryz.underlying80 szRd (fun h => ty_rd (d := d) h) (h 0 _ p0 rfl rfl)
  obtain ⟨b, b0, rfl⟩ := ty_lst (row := fun n : Int => [iv n]) (Q := fun n => inI n) Tryz.underlying42 szInt (fun h => ty_int (d := d + 1) h) (h 1 _ p1 rfl rfl)
  exact ⟨⟨a, b⟩, ⟨a0, b0⟩, rfl⟩
theorem arg_ins {d : Nat} {a : AV} (h : TypedArg Tryz.prog (d + 5) 35 a) : ∃ l : List In, (∀ x ∈ l, inT x) ∧ a = .lst .no 2 (rowsIn l) := by
 unfold TypedArg at h
 rw [Tryz.underlying35] at h
 obtain ⟨l, h1, h2⟩ := ty_lst (row := In.row) (Q := inT) Tryz.underlying35 szIn (fun h => ty_in (d := d) h) h
 exact ⟨l, h1, (List.cons.inj h2).1⟩
end
noncomputable section
attribute [local irreducible] Next Inside Runs Ops table
attribute [local irreducible] XRuns XOps XLin XAny
attribute [local go_sem] szStr szInt Option.getD_some isNil evMinMax evFoldI iv mapKt cellsKt newKt List.cons_append ldKt rowsKt_len niKt eqKt
open Classical in
def sameKG : List AV → Mem → Option (AV × Mem)
 | [.lst _ 2 ra, .lst _ 2 rb], m =>
  match unsKt ra, unsKt rb with
  | some a, some b => if a = b ∧ a.length ≤ 1000000 then some (.v (.bool true), m) else none
  | _, _ => none
 | _, _ => none
theorem sameK_eq {a b : List Kt} {g g2 : Grow} (h : a = b) (hl : a.length ≤ 1000000) (m : Mem) : sameKG [.lst g 2 (rowsKt a), .lst g2 2 (rowsKt b)] m = some (.v (.bool true), m) := by
 simp only [sameKG, unsKt_rowsKt]
 exact if_pos ⟨h, hl⟩
def kpSameK : Nat → Option (List Nat) := fun
 | 0 => some [0, 1]
 | 1 => some [0, 1, 10]
 | 2 => some [4]
 | 3 => some [0, 1, 5]
 | 4 => some [0, 1, 5, 14]
 | 5 => some [0, 1, 5]
 | 6 => some [0, 1, 5, 25]
 | 7 => some [4]
 | 8 => some [4]
 | _ => none
attribute [go_sem] kpSameK
theorem sameK_ok : FunOk Tryz.prog 12 sameKG := by
 have hC := table_ok (P := Tryz.prog) (l := []) table_nil
 refine fun_ok mixed hC Tryz.func12 rfl kpSameK false rfl fun args m r h => ?_
 unfold sameKG at h
 split at h
 ·rename_i ga ra gb rb
  split at h
  ·rename_i a b ha0 hb0
   obtain rfl := unsKt_some ha0
   obtain rfl := unsKt_some hb0
   split at h
   ·rename_i hd
    obtain ⟨rfl, hlen⟩ := hd
    simp only [Option.some.injEq] at h
    subst h
    refine ⟨Nat.le_of_ble_eq_true rfl, ?_⟩
    refine en ?_
    have z0 : ((a.length : Int) != (a.length : Int)) = false := by simp
    refine go1 @z0 ?_
    refine runs_cond rfl (fun hc => by cases hc) (fun hc => ?_)
    refine go0 ?_
    refine runs_loop (fun k e m' => ∃ (i : Nat), i ≤ a.length ∧ m = m' ∧ k = a.length - i ∧ e = [(0, AV.lst ga 2 (rowsKt a)), (1, .lst gb 2 (rowsKt a)), (5, .v (.int .i64 (i : Int)))]) (k := a.length) ⟨0, Nat.zero_le _, rfl, rfl, rfl⟩ ?_
    rintro k e m' ⟨i, hi, rfl, rfl, rfl⟩
    refine go0 ?_
    refine runs_cond rfl (fun hc => ?_) (fun hc => ?_)
    ·have hi1 : i < a.length := by have := of_decide_eq_true hc; omega
     have f1 := atKt (g := ga) (kk := .i64) hi1
     have f2 := atKt (g := gb) (kk := .i64) hi1
     have r6 := next_i64 (i := i) (by omega)
     generalize a.getD i kt0 = x at f1 f2
     have q1 : (x.step == x.step) = true := by simp
     have q2 : (x.val == x.val) = true := by simp
     have b1 : ((true && (true && true)) : Bool) = true := rfl
     have k1 : (!true) = false := rfl
     refine go0 ?_
     repeat refine runs_seq ?_
     refine runs_ops_drawn_kept (kp := kpSameK) (by kernel_rfl) ?_
     refine go1 (jn @f1 (jn @f2 (jn @q1 (jn @q2 (jn @b1 @k1))))) ?_
     refine runs_cond rfl (fun hc => by cases hc) (fun hc => ?_)
     refine go1 @r6 ?_
     exact ⟨a.length - (i + 1), by omega, i + 1, hi1, rfl, rfl, rfl⟩
    ·refine go0 ?_
     exact leaves_v rfl rfl
   ·cases h
  ·cases h
 ·cases h
end
end Go.Proofs.YtmockbddhhmmeaaGreat.Ev
