/- Trees: whole ones, and how deep they are. -/
import Derived.Test.YtojaokhkbmiidaaGreatMbehb4
import Derived.Test.YtojaokhkbmiidaaGreatMbehb3
import Derived.Test.YtojaokhkbmiidaaGreatMbehb2
namespace Go.Proofs.YtojaokhkbmiidaaGreat.Ev
open Go Go.Proofs
set_option maxRecDepth 10000
set_option maxHeartbeats 8000000
set_option linter.unusedVariables false
set_option linter.unusedSimpArgs false
section
set_option maxHeartbeats 4000000
set_option linter.unusedVariables false
set_option linter.unusedSimpArgs false
attribute [local irreducible] Next Inside Runs Ops table
attribute [local go_sem] szStr szInt Option.getD_some isNil loadStr loadInt mkInts0 mkInts1 mkStrs0 mkStrs1 rowsS_len rowsI_len rowsN_len evStr fldOp ldOp
def wholeB (l : List Nd) : Bool := decide (0 < l.length) && decide (l.length ≤ 64) && decide (endOf l 0 = (l.length : Int))
def wholeG : List AV → Mem → Option (AV × Mem)
 | [.lst _ 7 rows], m =>
  match unN rows with
  | some l => if l.length ≤ big40 then some (.v (.bool (wholeB l)), m) else none
  | none => none
 | _, _ => none
theorem wholeG_eq {m : Mem} {g : Grow} {l : List Nd} (h : l.length ≤ big40) : wholeG [.lst g 7 (rowsN l)] m = some (.v (.bool (wholeB l)), m) := by
 simp only [wholeG, unN_rowsN]
 rw [if_pos h]
def kpWhole : Nat → Option (List Nat) := fun _ => some [0, 2]
attribute [go_sem] kpWhole
theorem whole_ok : FunOk Tryz.prog 141 wholeG := by
 have hC := table_ok (P := Tryz.prog) (l := [(157, endG)]) (table_more end_ok table_nil)
 have t1 := fun args mm => table_at (l := [(157, endG)]) (f := 157) (args := args) (m := mm) rfl
 refine fun_ok mixed hC Tryz.func141 rfl kpWhole false rfl fun args m r h => ?_
 unfold wholeG at h
 split at h
 ·rename_i g rows
  split at h
  ·rename_i l hl0
   obtain rfl := unN_some hl0
   split at h
   ·rename_i hlen
    simp only [Option.some.injEq] at h
    subst h
    refine ⟨Nat.le_of_ble_eq_true rfl, ?_⟩
    refine en ?_
    have f1 := fun mm => endG_eq (m := mm) (g := .no) (at_ := 0) hlen (by decide)
    by_cases h0 : 0 < l.length
    ·have b0 : decide ((l.length : Int) > 0) = true := decide_eq_true (by omega)
     by_cases h1 : l.length ≤ 64
     ·have b1 : decide ((l.length : Int) ≤ 64) = true := decide_eq_true (by omega)
      have e1 : (endOf l 0 == (l.length : Int)) = wholeB l := by
       unfold wholeB
       rw [decide_eq_true h0, decide_eq_true h1]
       rfl
      refine go1 (jn @b0 (jn @b1 (jn @t1 (jn @f1 @e1)))) ?_
      exact leaves_v rfl rfl
     ·have b1 : decide ((l.length : Int) ≤ 64) = false := decide_eq_false (by omega)
      rw [show wholeB l = false by unfold wholeB; rw [decide_eq_false h1]; simp]
      refine go1 (jn @b0 (jn @b1 (jn @t1 @f1))) ?_
      exact leaves_v rfl rfl
    ·have b0 : decide ((l.length : Int) > 0) = false := decide_eq_false (by omega)
     rw [show wholeB l = false by unfold wholeB; rw [decide_eq_false h0]; simp]
     refine go1 (jn @b0 (jn @t1 @f1)) ?_
     exact leaves_v rfl rfl
   ·cases h
  ·cases h
 ·cases h
theorem refWhole_ok : FunOk Tryz.prog 95 wholeG := by
 have hC := table_ok (P := Tryz.prog) (l := [(135, endG)]) (table_more refEnd_ok table_nil)
 have t1 := fun args mm => table_at (l := [(135, endG)]) (f := 135) (args := args) (m := mm) rfl
 refine fun_ok mixed hC Tryz.func95 rfl kpWhole false rfl fun args m r h => ?_
 unfold wholeG at h
 split at h
 ·rename_i g rows
  split at h
  ·rename_i l hl0
   obtain rfl := unN_some hl0
   split at h
   ·rename_i hlen
    simp only [Option.some.injEq] at h
    subst h
    refine ⟨Nat.le_of_ble_eq_true rfl, ?_⟩
    refine en ?_
    have f1 := fun mm => endG_eq (m := mm) (g := .no) (at_ := 0) hlen (by decide)
    by_cases h1 : l.length ≤ 64
    ·have b1 : decide ((l.length : Int) ≤ 64) = true := decide_eq_true (by omega)
     have e1 : (endOf l 0 == (l.length : Int)) = wholeB l := by
      unfold wholeB
      rw [decide_eq_true h1]
      by_cases h0 : 0 < l.length
      ·rw [decide_eq_true h0]; rfl
      ·rw [decide_eq_false h0]
       have : l = [] := List.eq_nil_of_length_eq_zero (by omega)
       subst this
       rfl
     refine go1 (jn @b1 (jn @t1 (jn @f1 @e1))) ?_
     exact leaves_v rfl rfl
    ·have b1 : decide ((l.length : Int) ≤ 64) = false := decide_eq_false (by omega)
     rw [show wholeB l = false by unfold wholeB; rw [decide_eq_false h1]; simp]
     refine go1 (jn @b1 (jn @t1 @f1)) ?_
     exact leaves_v rfl rfl
   ·cases h
  ·cases h
 ·cases h
/-! ### how deep -/
def maxL : List Nat → Nat
 | [] => 0
 | a :: l => max a (maxL l)
theorem maxL_app : ∀ (l : List Nat) (a : Nat), maxL (l ++ [a]) = max (maxL l) a
 | [], a => by simp [maxL]
 | b :: l, a => by simp only [List.cons_append, maxL, maxL_app l a]; omega
theorem maxL_le {n : Nat} : ∀ {l : List Nat}, (∀ a ∈ l, a ≤ n) → maxL l ≤ n
 | [], _ => Nat.zero_le _
 | a :: l, h => by
  have h1 := h a (List.mem_cons_self ..)
  have h2 := maxL_le (l := l) fun b hb => h b (List.mem_cons_of_mem _ hb)
  simp only [maxL]
  omega
def depthF (l : List Nd) : Nat → Int → Nat
 | 0, _ => 0
 | f + 1, a => maxL ((belowOf l a).map (depthF l f)) + 1
theorem depthF_le (l : List Nd) : ∀ (f : Nat) (a : Int), depthF l f a ≤ f
 | 0, _ => Nat.le_refl _
 | f + 1, a => by
  unfold depthF
  have := maxL_le (n := f) (l := (belowOf l a).map (depthF l f)) fun b hb => by
   obtain ⟨c, _, rfl⟩ := List.mem_map.1 hb
   exact depthF_le l f c
  omega
theorem belowW_mem (l : List Nd) : ∀ (k n : Nat) (b : Int), 0 ≤ endW (l.drop n) k n → b ∈ belowW l k (n : Int) → (n : Int) ≤ b ∧ b < (l.length : Int) ∧ 0 ≤ endOf l b
 | 0, n, b, _, hb => by simp [belowW] at hb
 | k + 1, n, b, h, hb => by
  have h1 := endW_add l (l.drop n) 1 k n rfl
  rw [show 1 + k = k + 1 by omega, ← endOf_nat] at h1
  rw [h1] at h
  split at h
  ·omega
  ·rename_i hn
   have hin := endOf_in l (n : Int)
   rcases List.mem_cons.1 hb with rfl | hb
   ·exact ⟨Int.le_refl _, by omega, by omega⟩
   ·obtain ⟨q, hq⟩ := Int.eq_ofNat_of_zero_le (by omega : 0 ≤ endOf l (n : Int))
    rw [hq] at hb h
    rw [Int.toNat_natCast] at h
    obtain ⟨g1, g2, g3⟩ := belowW_mem l k q b h hb
    exact ⟨by omega, g2, g3⟩
theorem end_arity {l : List Nd} {p : Nat} (h : 0 ≤ endOf l (p : Int)) : p < l.length ∧ endOf l (p : Int) = endW (l.drop (p + 1)) (arAt l (p : Int)) (p + 1) := by
 have hin := endOf_in l (p : Int)
 have hp : p < l.length := by omega
 refine ⟨hp, ?_⟩
 rw [endOf_nat] at h ⊢
 rw [drop_next (d := nd0) hp, endW] at h ⊢
 unfold arAt
 rw [Int.toNat_natCast]
 split at h
 ·omega
 ·rename_i hn
  rw [if_neg hn, Nat.zero_add]
theorem below_mem {l : List Nd} {a b : Int} (ha : 0 ≤ a) (hb : b ∈ belowOf l a) : a < b ∧ b < (l.length : Int) ∧ 0 ≤ endOf l b := by
 unfold belowOf at hb
 split at hb
 ·simp at hb
 ·rename_i hn
  obtain ⟨p, rfl⟩ := Int.eq_ofNat_of_zero_le ha
  obtain ⟨_, h1⟩ := end_arity (l := l) (p := p) (by omega)
  obtain ⟨g1, g2, g3⟩ := belowW_mem l (arAt l (p : Int)) (p + 1) b (by omega) hb
  exact ⟨by omega, g2, g3⟩
theorem depthF_same (l : List Nd) : ∀ (f : Nat) (a : Int), 0 ≤ a → a < (l.length : Int) → (l.length : Int) - a ≤ (f : Int) → depthF l f a = depthF l (f + 1) a
 | 0, a, ha, h1, h => by omega
 | f + 1, a, ha, h1, h => by
  rw [depthF, depthF]
  congr 2
  refine List.map_congr_left fun b hb => ?_
  obtain ⟨h1, h2, _⟩ := below_mem ha hb
  exact depthF_same l f b (by omega) h2 (by omega)
def depthD (l : List Nd) (a : Int) : Nat := depthF l l.length a
theorem depthD_eq {l : List Nd} {a : Int} (h0 : 0 ≤ a) (h1 : a < (l.length : Int)) : depthD l a = maxL ((belowOf l a).map (depthD l)) + 1 := by
 unfold depthD
 obtain ⟨f, hf⟩ : ∃ f, l.length = f + 1 := ⟨l.length - 1, by omega⟩
 conv => lhs; rw [hf, depthF]
 congr 2
 refine List.map_congr_left fun b hb => ?_
 obtain ⟨h2, h3, _⟩ := below_mem h0 hb
 rw [hf]
 exact depthF_same l f b (by omega) h3 (by omega)
theorem depthD_le (l : List Nd) (a : Int) : depthD l a ≤ l.length := depthF_le l _ _
def depthOf (l : List Nd) : Nat := if wholeB l then depthD l 0 else 0
/-! ### the document's way -/
def refDepthGk (n : Nat) : List AV → Mem → Option (AV × Mem)
 | [.lst _ 7 rows, .v (.int .i64 at_)], m =>
  match unN rows with
  | some l => if (l.length ≤ big40 ∧ 0 ≤ at_ ∧ 0 ≤ endOf l at_) ∧ (l.length : Int) - at_ < (n : Int) then some (.v (.int .i64 (depthD l at_ : Nat)), m) else none
  | none => none
 | _, _ => none
theorem refDepthGk_eq {n : Nat} {m : Mem} {g : Grow} {l : List Nd} {at_ : Int} (h : l.length ≤ big40) (h1 : 0 ≤ at_) (h2 : 0 ≤ endOf l at_) (h3 : (l.length : Int) - at_ < (n : Int)) : refDepthGk n [.lst g 7 (rowsN l), .v (.int .i64 at_)] m = some (.v (.int .i64 (depthD l at_ : Nat)), m) := by
 simp only [refDepthGk, unN_rowsN]
 rw [if_pos ⟨⟨h, h1, h2⟩, h3⟩]
def kpRefDepth : Nat → Option (List Nat) := fun _ => some [0, 1, 4, 5, 6, 7, 8, 15, 26]
attribute [go_sem] kpRefDepth
theorem refDepth_k : ∀ n, FunOk Tryz.prog 97 (refDepthGk n) := prev_ok fun n ih => by
 have hC := table_ok (P := Tryz.prog) (l := [(97, prevG refDepthGk n), (137, refBelowG)]) (table_more ih (table_more refBelow_ok table_nil))
 have t1 := fun args mm => table_at (l := [(97, prevG refDepthGk n), (137, refBelowG)]) (f := 137) (args := args) (m := mm) rfl
 have t2 := fun args mm => table_at (l := [(97, prevG refDepthGk n), (137, refBelowG)]) (f := 97) (args := args) (m := mm) rfl
 refine fun_ok mixed hC Tryz.func97 rfl kpRefDepth false rfl fun args m r h => ?_
 unfold refDepthGk at h
 split at h
 ·rename_i g rows at_
  split at h
  ·rename_i l hl0
   obtain rfl := unN_some hl0
   split at h
   ·rename_i hb
    obtain ⟨⟨hlen, h0, he⟩, hn⟩ := hb
    have hlen' := hlen
    simp only [Option.some.injEq] at h
    subst h
    unfold big40 at hlen
    refine ⟨Nat.le_of_ble_eq_true rfl, ?_⟩
    refine en ?_
    have hin := endOf_in l at_
    have h1 : at_ < (l.length : Int) := by omega
    have e1 : belowOf l at_ = belowW l (arAt l at_) (at_ + 1) := if_neg (by omega)
    have f1 := fun mm => refBelowG_eq (m := mm) (g := .no) hlen' h0 h1
    rw [← e1] at f1
    have hD := depthD_eq h0 h1
    have hmem := fun b => below_mem (l := l) (b := b) h0
    have hle2 := (belowOf_okI hlen' (at_ := at_) ⟨by omega, by omega⟩).2
    generalize belowOf l at_ = lb at f1 hD hmem hle2
    refine go1 (jn @t1 @f1) ?_
    refine runs_loop (fun k e m' => ∃ (i : Nat) (x8 x15 x26 : AV), i ≤ lb.length ∧ m = m' ∧ k = lb.length - i ∧
     e = [(0, AV.lst g 7 (rowsN l)), (1, .v (.int .i64 at_)), (4, .v (.int .i64 0)), (5, .v (.int .i64 (maxL ((lb.take i).map (depthD l)) : Nat))), (6, .lst .no 1 (rowsI lb)), (7, .v (.int .i64 (i : Int))), (8, x8), (15, x15), (26, x26)])
     (k := lb.length) ⟨0, _, _, _, Nat.zero_le _, rfl, rfl, rfl⟩ ?_
    rintro k e m' ⟨i, x8, x15, x26, hi, rfl, rfl, rfl⟩
    refine go0 ?_
    refine runs_cond rfl (fun hc => ?_) (fun hc => ?_)
    ·have hi1 : i < lb.length := by have := of_decide_eq_true hc; omega
     have f2 := atInts (g := .no) (kk := .i64) hi1
     have hm : lb.getD i 0 ∈ lb := by simp [List.getD, List.getElem?_eq_getElem hi1]
     have htk : (lb.take (i + 1)).map (depthD l) = (lb.take i).map (depthD l) ++ [depthD l (lb.getD i 0)] := by rw [take_next (d := 0) hi1, List.map_append]; rfl
     obtain ⟨g1, g2, g3⟩ := hmem _ hm
     obtain ⟨n', rfl⟩ : ∃ n', n = n' + 1 := ⟨n - 1, by omega⟩
     have f3 : ∀ mm, prevG refDepthGk (n' + 1) [.lst .no 7 (rowsN l), .v (.int .i64 (lb.getD i 0))] mm = some (.v (.int .i64 (depthD l (lb.getD i 0) : Nat)), mm) := fun mm => refDepthGk_eq (g := .no) hlen' (by omega) g3 (by omega)
     generalize lb.getD i 0 = b at f2 f3 htk
     have hmx : maxL ((lb.take (i + 1)).map (depthD l)) = max (maxL ((lb.take i).map (depthD l))) (depthD l b) := by rw [htk, maxL_app]
     generalize maxL ((lb.take i).map (depthD l)) = M at hmx ⊢
     refine go1 (jn @f2 (jn @t2 @f3)) ?_
     have r7 := next_i64 (i := i) (by omega)
     refine runs_cond rfl (fun hc => ?_) (fun hc => ?_)
     ·have hgt := of_decide_eq_true hc
      refine go1 @r7 ?_
      exact ⟨lb.length - (i + 1), by omega, i + 1, _, _, _, hi1, rfl, rfl, by rw [hmx, show max M (depthD l b) = depthD l b by omega]⟩
     ·have hgt := of_decide_eq_false hc
      refine go1 @r7 ?_
      exact ⟨lb.length - (i + 1), by omega, i + 1, _, _, _, hi1, rfl, rfl, by rw [hmx, show max M (depthD l b) = M by omega]⟩
    ·have hi1 : i = lb.length := by have := of_decide_eq_false hc; omega
     subst hi1
     rw [List.take_length]
     have hdl := depthD_le l at_
     have r7 := next_i64 (i := maxL (lb.map (depthD l))) (by omega)
     rw [hD]
     refine go1 @r7 ?_
     exact leaves_v rfl rfl
   ·cases h
  ·cases h
 ·cases h
def refDepthG : List AV → Mem → Option (AV × Mem)
 | [.lst _ 7 rows, .v (.int .i64 at_)], m =>
  match unN rows with
  | some l => if l.length ≤ big40 ∧ 0 ≤ at_ ∧ 0 ≤ endOf l at_ then some (.v (.int .i64 (depthD l at_ : Nat)), m) else none
  | none => none
 | _, _ => none
theorem refDepthG_eq {m : Mem} {g : Grow} {l : List Nd} {at_ : Int} (h : l.length ≤ big40) (h1 : 0 ≤ at_) (h2 : 0 ≤ endOf l at_) : refDepthG [.lst g 7 (rowsN l), .v (.int .i64 at_)] m = some (.v (.int .i64 (depthD l at_ : Nat)), m) := by
 simp only [refDepthG, unN_rowsN]
 rw [if_pos ⟨h, h1, h2⟩]
theorem refDepth_ok : FunOk Tryz.prog 97 refDepthG := by
 intro args m r m' h
 unfold refDepthG at h
 split at h
 ·rename_i g rows at_
  split at h
  ·rename_i l hl0
   obtain rfl := unN_some hl0
   split at h
   ·rename_i hb
    refine refDepth_k (((l.length : Int) - at_).toNat + 1) _ m r m' ?_
    rw [refDepthGk_eq hb.1 hb.2.1 hb.2.2 (by omega)]
    exact h
   ·cases h
  ·cases h
 ·cases h
end
section
set_option maxHeartbeats 4000000
set_option linter.unusedVariables false
set_option linter.unusedSimpArgs false
attribute [local irreducible] Next Inside Runs Ops table
attribute [local go_sem] szStr szInt Option.getD_some isNil loadStr loadInt mkInts0 mkInts1 mkStrs0 mkStrs1 rowsS_len rowsI_len rowsN_len evStr fldOp ldOp evMinMax evFoldI
def intCells (l : List Int) : List AV := l.map iv
theorem intCells_len (l : List Int) : (intCells l).length = l.length := List.length_map ..
theorem loadTab {m : Mem} {l : List Int} {i : Nat} (hi : i < l.length) : evLoad Tryz.prog (m.push (intCells l)) 3 (.ptr m.vars.length i) = some (.v (.int .i64 (l.getD i 0))) := by
 unfold evLoad
 simp only [ptrCells, push_var, Option.map_some, szInt, agInt]
 simp [intCells, List.head?_drop, List.getD, List.getElem?_eq_getElem hi, iv]
theorem splice_set : ∀ (l : List Int) (i : Nat) (v : Int), i < l.length → splice (intCells l) i [iv v] = intCells (l.set i v)
 | [], i, v, h => by simp at h
 | a :: l, 0, v, _ => by simp [splice, intCells]
 | a :: l, i + 1, v, h => by
  have := splice_set l i v (by simpa using h)
  simp only [splice, intCells, List.map_cons, List.length_cons, List.length_nil, List.take_succ_cons, List.set_cons_succ] at this ⊢
  rw [show i + 1 + (0 + 1) = (i + (0 + 1)) + 1 by omega, List.drop_succ_cons]
  simpa using this
theorem storeTab {m : Mem} {l : List Int} {i : Nat} {v : Int} (hi : i < l.length) : evStore Tryz.prog (m.push (intCells l)) 3 (.ptr m.vars.length i) (.v (.int .i64 v)) = some (m.push (intCells (l.set i v))) := by
 rw [store_push (cs := [iv v]) rfl szInt (by rw [intCells_len]; exact hi) rfl, splice_set l i v hi]
theorem vsAt {r n i : Nat} {kk : IntKind} (hi : i < n) : evIndexAddr Tryz.prog 77 (.vs r 0 1 n n) (.v (.int kk (i : Int))) = some (.ptr r i) := by
 unfold evIndexAddr
 simp only [naInts, elInts, szInt]
 rw [if_pos ⟨trivial, by omega, by omega⟩, Int.toNat_natCast]
 simp
theorem makeTab {n : Nat} (h : n ≤ 4294967296) : evMakeSlice Tryz.prog 77 (.v (.int .i64 (n : Int))) (.v (.int .i64 (n : Int))) = some (intCells (List.replicate n 0), 1, n) := by
 have hb : tBytes Tryz.prog 3 = some 8 := by kernel_rfl
 have hz : zeroCells Tryz.prog 3 = some [.v (.int .i64 0)] := by kernel_rfl
 unfold evMakeSlice
 simp only [elInts, szInt, hb, hz]
 rw [if_pos ⟨rfl, trivial, by omega, by omega, by omega⟩, Int.toNat_natCast]
 simp [intCells, iv]
theorem newTab {m : Mem} {l : List Int} : newVar m m.vars.length (intCells l) = some (m.push (intCells l)) := newVar_push (by
 rw [List.all_eq_true]
 intro c hc
 obtain ⟨n, _, rfl⟩ := List.mem_map.1 hc
 rfl)
theorem getD_set {l : List Int} {i j : Nat} {v : Int} (hi : i < l.length) : (l.set i v).getD j 0 = if i = j then v else l.getD j 0 := by
 simp only [List.getD, List.getElem?_set]
 by_cases h : i = j
 ·subst h; simp [hi]
 ·simp [h]
theorem set_set (l : List Int) (i : Nat) (a b : Int) : (l.set i a).set i b = l.set i b := List.set_set ..
def depthG : List AV → Mem → Option (AV × Mem)
 | [.lst _ 7 rows], m =>
  match unN rows with
  | some l => if l.length ≤ big40 then some (.v (.int .i64 (depthOf l : Nat)), m) else none
  | none => none
 | _, _ => none
theorem depthG_eq {m : Mem} {g : Grow} {l : List Nd} (h : l.length ≤ big40) : depthG [.lst g 7 (rowsN l)] m = some (.v (.int .i64 (depthOf l : Nat)), m) := by
 simp only [depthG, unN_rowsN]
 rw [if_pos h]
theorem mx_nat (a b : Nat) : mx (a : Int) (b : Int) = ((max a b : Nat) : Int) := by
 unfold mx
 split <;> omega
def kpDepth : Nat → Option (List Nat) := fun _ => some [0, 2, 3, 4, 6, 9, 17, 22, 23, 24, 25]
attribute [go_sem] kpDepth
def tabDepth : List (FuncId × (List AV → Mem → Option (AV × Mem))) := [(141, wholeG), (146, belowG)]
theorem depth_ok : FunOk Tryz.prog 144 depthG := by
 have hC := table_ok (P := Tryz.prog) (l := tabDepth) (table_more whole_ok (table_more below_ok table_nil))
 have t1 := fun args mm => table_at (l := tabDepth) (f := 141) (args := args) (m := mm) rfl
 have t2 := fun args mm => table_at (l := tabDepth) (f := 146) (args := args) (m := mm) rfl
 refine fun_ok mixed hC Tryz.func144 rfl kpDepth false rfl fun args m r h => ?_
 unfold depthG at h
 split at h
 ·rename_i g rows
  split at h
  ·rename_i l hl0
   obtain rfl := unN_some hl0
   split at h
   ·rename_i hlen
    simp only [Option.some.injEq] at h
    subst h
    refine ⟨Nat.le_of_ble_eq_true rfl, ?_⟩
    refine en ?_
    have f1 := fun mm => wholeG_eq (m := mm) (g := .no) hlen
    have hlen' := hlen
    unfold depthOf
    cases hw : wholeB l with
    | false =>
     rw [hw] at f1
     have b1 : (!false) = true := rfl
     refine go1 (jn @t1 (jn @f1 @b1)) ?_
     refine runs_cond rfl (fun hc => ?_) (fun hc => by cases hc)
     refine go0 ?_
     exact leaves_v rfl rfl
    | true =>
     rw [hw] at f1
     have b1 : (!true) = false := rfl
     unfold wholeB at hw
     simp only [Bool.and_eq_true, decide_eq_true_eq] at hw
     obtain ⟨⟨hpos, h64⟩, hend⟩ := hw
     have mk := makeTab (n := l.length) (by omega)
     have nv := newTab (m := m) (l := List.replicate l.length 0)
     have r0 : IntKind.i64.wrap ((l.length : Int) - 1) = (l.length : Int) - 1 := i64_wrap (by omega) (by omega)
     refine go1 (jn @t1 (jn @f1 @b1)) ?_
     refine runs_cond rfl (fun hc => by cases hc) (fun hc => ?_)
     refine go1 (jn @mk (jn @nv @r0)) ?_
     refine runs_loop (fun k e m' => ∃ (j : Nat) (ds : List Int) (x6 x17 x22 x23 x24 x25 : AV), j ≤ l.length ∧ ds.length = l.length ∧ (∀ a : Nat, j ≤ a → a < l.length → ds.getD a 0 = ((depthD l (a : Int) : Nat) : Int)) ∧ (∀ a : Nat, a < j → ds.getD a 0 = 0) ∧ m' = m.push (intCells ds) ∧ k = j ∧
      e = [(0, AV.lst g 7 (rowsN l)), (2, .v (.int .i64 0)), (3, .vs m.vars.length 0 1 l.length l.length), (4, .v (.int .i64 ((j : Int) - 1))), (6, x6), (9, .v (.bool false)), (17, x17), (22, x22), (23, x23), (24, x24), (25, x25)])
      (k := l.length) ⟨l.length, List.replicate l.length 0, _, _, _, _, _, _, Nat.le_refl _, by simp, fun a h1 h2 => by omega, fun a h => by simp only [List.getD, List.getElem?_replicate]; split <;> rfl, rfl, rfl, rfl⟩ ?_
     rintro k e m' ⟨j, ds, x6, x17, x22, x23, x24, x25, hj, hds, hdone, hzero, rfl, rfl, rfl⟩
     refine go0 ?_
     refine runs_cond rfl (fun hc => ?_) (fun hc => ?_)
     ·obtain ⟨i, rfl⟩ : ∃ i, k = i + 1 := ⟨k - 1, by have := of_decide_eq_true hc; omega⟩
      have e0 : ((i + 1 : Nat) : Int) - 1 = (i : Int) := by omega
      rw [e0]
      have hi1 : i < l.length := by omega
      have f2 := fun mm => belowG_eq (m := mm) (g := .no) (at_ := (i : Int)) hlen' ⟨by omega, by omega⟩
      have hD := depthD_eq (l := l) (a := (i : Int)) (by omega) (by omega)
      have hmem := fun b => below_mem (l := l) (a := (i : Int)) (b := b) (by omega)
      have hle2 := (belowOf_okI hlen' (at_ := (i : Int)) ⟨by omega, by omega⟩).2
      generalize belowOf l (i : Int) = lb at f2 hD hmem hle2
      have hzi := hzero i (by omega)
      have hself : ds.set i 0 = ds := by
       apply getD_ext (d := 0) (by simp)
       intro a ha
       rw [getD_set (by omega)]
       split
       ·rename_i h; rw [← h]; exact hzi.symm
       ·rfl
      refine go1 (jn @t2 @f2) ?_
      refine runs_loop (fun k e m' => ∃ (t : Nat) (x6 x25 : AV), t ≤ lb.length ∧ m' = m.push (intCells (ds.set i (maxL ((lb.take t).map (depthD l)) : Nat))) ∧ k = lb.length - t ∧
       e = [(0, AV.lst g 7 (rowsN l)), (2, .v (.int .i64 0)), (3, .vs m.vars.length 0 1 l.length l.length), (4, .v (.int .i64 (i : Int))), (6, x6), (9, .v (.bool false)), (17, .v (.bool (decide ((i : Int) ≥ 0)))), (22, .lst .no 1 (rowsI lb)), (23, .v (.int .i64 (lb.length : Int))), (24, .v (.int .i64 (t : Int))), (25, x25)])
       (k := lb.length) ⟨0, _, _, Nat.zero_le _, by rw [List.take_zero]; simp only [List.map_nil, maxL]; rw [show ((0 : Nat) : Int) = 0 from rfl, hself], rfl, rfl⟩ ?_
      rintro k e m' ⟨t, x6, x25, ht, rfl, rfl, rfl⟩
      refine go0 ?_
      refine runs_cond rfl (fun hc => ?_) (fun hc => ?_)
      ·have ht1 : t < lb.length := by have := of_decide_eq_true hc; omega
       have f3 := atInts (g := .no) (kk := .i64) ht1
       have hm : lb.getD t 0 ∈ lb := by simp [List.getD, List.getElem?_eq_getElem ht1]
       have htk : (lb.take (t + 1)).map (depthD l) = (lb.take t).map (depthD l) ++ [depthD l (lb.getD t 0)] := by rw [take_next (d := 0) ht1, List.map_append]; rfl
       obtain ⟨g1, g2, g3⟩ := hmem _ hm
       generalize lb.getD t 0 = b at f3 htk g1 g2 g3
       obtain ⟨b', rfl⟩ := Int.eq_ofNat_of_zero_le (by omega : 0 ≤ b)
       have hmx : maxL ((lb.take (t + 1)).map (depthD l)) = max (maxL ((lb.take t).map (depthD l))) (depthD l (b' : Int)) := by rw [htk, maxL_app]
       generalize maxL ((lb.take t).map (depthD l)) = M at hmx ⊢
       have v1 := vsAt (r := m.vars.length) (kk := .i64) hi1
       have v2 := vsAt (r := m.vars.length) (n := l.length) (i := b') (kk := .i64) (by omega)
       have l1 := loadTab (m := m) (l := ds.set i (M : Int)) (i := i) (by rw [List.length_set]; omega)
       rw [getD_set (by omega), if_pos rfl] at l1
       have l2 := loadTab (m := m) (l := ds.set i (M : Int)) (i := b') (by rw [List.length_set]; omega)
       rw [getD_set (by omega), if_neg (by omega), hdone b' (by omega) (by omega)] at l2
       have s1 := storeTab (m := m) (l := ds.set i (M : Int)) (i := i) (v := ((max M (depthD l (b' : Int)) : Nat) : Int)) (by rw [List.length_set]; omega)
       rw [set_set] at s1
       have mxn := mx_nat M (depthD l (b' : Int))
       have r7 := next_i64 (i := t) (by omega)
       refine go1 @f3 ?_
       refine runs_ops_drawn_kept (by kernel_rfl) ?_
       refine go1 (jn @v1 (jn @v2 (jn @l1 (jn @l2 (jn @mxn (jn @s1 @r7)))))) ?_
       exact ⟨lb.length - (t + 1), by omega, t + 1, _, _, ht1, by rw [hmx], rfl, rfl⟩
      ·have ht1 : t = lb.length := by have := of_decide_eq_false hc; omega
       subst ht1
       rw [List.take_length]
       have hdl := depthD_le l (i : Int)
       generalize hM : maxL (lb.map (depthD l)) = M at hD ⊢
       have v1 := vsAt (r := m.vars.length) (kk := .i64) hi1
       have l1 := loadTab (m := m) (l := ds.set i (M : Int)) (i := i) (by rw [List.length_set]; omega)
       rw [getD_set (by omega), if_pos rfl] at l1
       have r7 := next_i64 (i := M) (by omega)
       have s1 := storeTab (m := m) (l := ds.set i (M : Int)) (i := i) (v := ((M + 1 : Nat) : Int)) (by rw [List.length_set]; omega)
       rw [set_set] at s1
       have r8 : IntKind.i64.wrap ((i : Int) - 1) = (i : Int) - 1 := i64_wrap (by omega) (by omega)
       refine go1 (jn @v1 (jn @l1 (jn @r7 (jn @s1 @r8)))) ?_
       refine ⟨i, by omega, i, ds.set i ((M + 1 : Nat) : Int), _, _, _, _, _, _, by omega, by rw [List.length_set]; exact hds, fun a h1 h2 => ?_, fun a h => ?_, rfl, rfl, rfl⟩
       ·rw [getD_set (by omega)]
        split
        ·rename_i h; rw [← h, hD]
        ·exact hdone a (by omega) h2
       ·rw [getD_set (by omega), if_neg (by omega)]
        exact hzero a (by omega)
     ·have hk0 : k = 0 := by have := of_decide_eq_false hc; omega
      subst hk0
      have v1 := vsAt (r := m.vars.length) (kk := .i64) (i := 0) hpos
      have v1' : evIndexAddr Tryz.prog 77 (.vs m.vars.length 0 1 l.length l.length) (.v (.int .i64 0)) = some (.ptr m.vars.length 0) := v1
      have l1 := loadTab (m := m) (l := ds) (i := 0) (by omega)
      rw [hdone 0 (Nat.le_refl _) hpos] at l1
      refine go1 (jn @v1' @l1) ?_
      exact leaves_fin rfl rfl fin_push
   ·cases h
  ·cases h
 ·cases h
end
section
attribute [local irreducible] Next Inside Runs Ops table
attribute [local go_sem] szStr szInt Option.getD_some isNil loadStr loadInt rowsS_len rowsI_len rowsN_len evStr fldOp ldOp ldNode newNode cellsNode topNode
theorem unNd_of (x : Nd) : unNd x.row = some x := rfl
theorem mayG_eq (x : Nd) (mm : Mem) : mayG [.agg x.row] mm = some (.v (.bool (decide (mayN x))), mm) := by
 simp only [mayG, mayAt, unNd_of]
 rfl
def notMayG : List AV → Mem → Option (AV × Mem)
 | [.agg cs], m =>
  match unNd cs with
  | some x => some (.v (.bool (!decide (mayN x))), m)
  | none => none
 | _, _ => none
def kpNotMay : Nat → Option (List Nat) := fun _ => some [0, 1, 2]
attribute [go_sem] kpNotMay
theorem notMay_ok : FunOk Tryz.prog 142 notMayG := by
 have hC := table_ok (P := Tryz.prog) (l := [(143, mayG)]) (table_more may_ok table_nil)
 have t1 := fun args mm => table_at (l := [(143, mayG)]) (f := 143) (args := args) (m := mm) rfl
 refine fun_ok mixed hC Tryz.func142 rfl kpNotMay false rfl fun args m r h => ?_
 unfold notMayG at h
 split at h
 ·rename_i cs
  split at h
  ·rename_i x hx
   obtain rfl := unNd_row hx
   simp only [Option.some.injEq] at h
   subst h
   refine ⟨Nat.le_of_ble_eq_true rfl, ?_⟩
   refine en ?_
   have f1 : ∀ mm, mayG [.agg (nrow x.op x.a x.b x.c x.k x.u x.n)] mm = some (.v (.bool (decide (mayN x))), mm) := fun mm => mayG_eq x mm
   generalize hR : nrow x.op x.a x.b x.c x.k x.u x.n = R at *
   subst hR
   refine go1 (jn @t1 @f1) ?_
   exact leaves_fin rfl rfl fin_push
  ·cases h
 ·cases h
def badN (x : Nd) : Bool := !decide (mayN x)
def findBadNG : List AV → Mem → Option (AV × Mem)
 | [.lst _ 7 rows, .fn (.func 142) [] []], m =>
  match unN rows with
  | some l => if l.length ≤ big40 then some (.v (.int .i64 (firstBy badN l 0)), m) else none
  | none => none
 | _, _ => none
theorem findBadNG_eq {m : Mem} {g : Grow} {l : List Nd} (h : l.length ≤ big40) : findBadNG [.lst g 7 (rowsN l), .fn (.func 142) [] []] m = some (.v (.int .i64 (firstBy badN l 0)), m) := by
 simp only [findBadNG, unN_rowsN]
 rw [if_pos h]
def kpIndexN : Nat → Option (List Nat) := fun _ => some [0, 1, 4, 5, 7, 8, 9, 16]
attribute [go_sem] kpIndexN
theorem findBadN_ok : FunOk Tryz.prog 133 findBadNG := by
 have hC := table_ok (P := Tryz.prog) (l := [(142, notMayG)]) (table_more notMay_ok table_nil)
 have t1 := fun args mm => table_at (l := [(142, notMayG)]) (f := 142) (args := args) (m := mm) rfl
 refine fun_ok mixed hC Tryz.func133 rfl kpIndexN false rfl fun args m r h => ?_
 unfold findBadNG at h
 split at h
 ·rename_i g rows
  split at h
  ·rename_i l hl0
   obtain rfl := unN_some hl0
   split at h
   ·rename_i hlen
    simp only [Option.some.injEq] at h
    subst h
    unfold big40 at hlen
    refine ⟨Nat.le_of_ble_eq_true rfl, ?_⟩
    refine en ?_
    refine go0 ?_
    refine runs_loop (fun k e m' => ∃ (i : Nat) (x5 x9 x16 : AV), i ≤ l.length ∧ firstBy badN (l.drop i) i = firstBy badN l 0 ∧ m = m' ∧ k = l.length - i ∧
     e = [(0, AV.lst g 7 (rowsN l)), (1, .fn (.func 142) [] []), (4, .v (.int .i64 0)), (5, x5), (7, .v (.int .i64 l.length)), (8, .v (.int .i64 (i : Int))), (9, x9), (16, x16)]) (k := l.length) ⟨0, _, _, _, Nat.zero_le _, rfl, rfl, rfl, rfl⟩ ?_
    rintro k e m' ⟨i, x5, x9, x16, hi, hf, rfl, rfl, rfl⟩
    refine go0 ?_
    refine runs_cond rfl (fun hc => ?_) (fun hc => ?_)
    ·have hi1 : i < l.length := by have := of_decide_eq_true hc; omega
     have f1 := atNodes (g := g) (kk := .i64) hi1
     have f2 : ∀ mm, notMayG [.agg (l.getD i nd0).row] mm = some (.v (.bool (badN (l.getD i nd0))), mm) := fun mm => by
      simp only [notMayG, unNd_of]
      rfl
     refine go1 (jn @f1 (jn @t1 @f2)) ?_
     refine runs_cond rfl (fun hc => ?_) (fun hc => ?_)
     ·rw [by_yes hi1 hc hf]
      refine go0 ?_
      exact leaves_v rfl rfl
     ·have r6 := next_i64 (i := i) (by omega)
      refine go1 @r6 ?_
      exact ⟨l.length - (i + 1), by omega, i + 1, _, _, _, hi1, by_no hi1 hc hf, rfl, rfl, rfl⟩
    ·have hi1 : i = l.length := by have := of_decide_eq_false hc; omega
     subst hi1
     rw [by_end hf]
     refine go0 ?_
     exact leaves_v rfl rfl
   ·cases h
  ·cases h
 ·cases h
def anyBadNG : List AV → Mem → Option (AV × Mem)
 | [.lst _ 7 rows, .fn (.func 142) [] []], m =>
  match unN rows with
  | some l => if l.length ≤ big40 then some (.v (.bool (l.any badN)), m) else none
  | none => none
 | _, _ => none
theorem anyBadNG_eq {m : Mem} {g : Grow} {l : List Nd} (h : l.length ≤ big40) : anyBadNG [.lst g 7 (rowsN l), .fn (.func 142) [] []] m = some (.v (.bool (l.any badN)), m) := by
 simp only [anyBadNG, unN_rowsN]
 rw [if_pos h]
def kpContainsN : Nat → Option (List Nat) := fun _ => some [0, 1, 4]
attribute [go_sem] kpContainsN
theorem anyBadN_ok : FunOk Tryz.prog 89 anyBadNG := by
 have hC := table_ok (P := Tryz.prog) (l := [(133, findBadNG)]) (table_more findBadN_ok table_nil)
 have t1 := fun args mm => table_at (l := [(133, findBadNG)]) (f := 133) (args := args) (m := mm) rfl
 refine fun_ok mixed hC Tryz.func89 rfl kpContainsN false rfl fun args m r h => ?_
 unfold anyBadNG at h
 split at h
 ·rename_i g rows
  split at h
  ·rename_i l hl0
   obtain rfl := unN_some hl0
   split at h
   ·rename_i hlen
    simp only [Option.some.injEq] at h
    subst h
    refine ⟨Nat.le_of_ble_eq_true rfl, ?_⟩
    refine en ?_
    have f1 := fun mm => findBadNG_eq (m := mm) (g := .no) hlen
    have f3 : decide (firstBy badN l 0 ≥ 0) = l.any badN := firstBy_any badN l 0
    refine go1 (jn @t1 (jn @f1 @f3)) ?_
    exact leaves_v rfl rfl
   ·cases h
  ·cases h
 ·cases h
/-! ### check -/
def checkT (l : List Nd) : Int := if 64 < l.length then 9 else if wholeB l = false ∨ l.any badN = true then 1 else if 32 < depthOf l then 7 else 0
def checkTG : List AV → Mem → Option (AV × Mem)
 | [.lst _ 7 rows], m =>
  match unN rows with
  | some l => if l.length ≤ big40 then some (.v (.int .i64 (checkT l)), m) else none
  | none => none
 | _, _ => none
theorem checkTG_eq {m : Mem} {g : Grow} {l : List Nd} (h : l.length ≤ big40) : checkTG [.lst g 7 (rowsN l)] m = some (.v (.int .i64 (checkT l)), m) := by
 simp only [checkTG, unN_rowsN]
 rw [if_pos h]
def kpCheckT : Nat → Option (List Nat) := fun _ => some [0, 2, 3, 7, 13]
attribute [go_sem] kpCheckT
def tabCheckT : List (FuncId × (List AV → Mem → Option (AV × Mem))) := [(141, wholeG), (89, anyBadNG), (144, depthG)]
theorem checkT_ok : FunOk Tryz.prog 107 checkTG := by
 have hC := table_ok (P := Tryz.prog) (l := tabCheckT) (table_more whole_ok (table_more anyBadN_ok (table_more depth_ok table_nil)))
 have t1 := fun args mm => table_at (l := tabCheckT) (f := 141) (args := args) (m := mm) rfl
 have t2 := fun args mm => table_at (l := tabCheckT) (f := 89) (args := args) (m := mm) rfl
 have t3 := fun args mm => table_at (l := tabCheckT) (f := 144) (args := args) (m := mm) rfl
 refine fun_ok mixed hC Tryz.func107 rfl kpCheckT false rfl fun args m r h => ?_
 unfold checkTG at h
 split at h
 ·rename_i g rows
  split at h
  ·rename_i l hl0
   obtain rfl := unN_some hl0
   split at h
   ·rename_i hlen
    simp only [Option.some.injEq] at h
    subst h
    refine ⟨Nat.le_of_ble_eq_true rfl, ?_⟩
    refine en ?_
    have f1 := fun mm => wholeG_eq (m := mm) (g := .no) hlen
    have f2 := fun mm => anyBadNG_eq (m := mm) (g := .no) hlen
    have f3 := fun mm => depthG_eq (m := mm) (g := .no) hlen
    refine go0 ?_
    refine runs_cond rfl (fun hc => ?_) (fun hc => ?_)
    ·have := of_decide_eq_true hc
     rw [show checkT l = 9 from if_pos (by omega)]
     refine go0 ?_
     exact leaves_v rfl rfl
    ·have h64 := of_decide_eq_false hc
     have e : checkT l = if wholeB l = false ∨ l.any badN = true then 1 else if 32 < depthOf l then 7 else 0 := if_neg (by omega)
     cases hw : wholeB l with
     | false =>
      rw [hw] at f1
      have b1 : (!false) = true := rfl
      rw [e, if_pos (.inl hw)]
      refine go1 (jn @t1 (jn @f1 @b1)) ?_
      refine runs_cond rfl (fun hc => ?_) (fun hc => by cases hc)
      refine go0 ?_
      refine runs_cond rfl (fun hc => ?_) (fun hc => by cases hc)
      refine go0 ?_
      exact leaves_v rfl rfl
     | true =>
      rw [hw] at f1
      have b1 : (!true) = false := rfl
      refine go1 (jn @t1 (jn @f1 @b1)) ?_
      refine runs_cond rfl (fun hc => by cases hc) (fun hc => ?_)
      refine go1 (jn @t2 @f2) ?_
      refine runs_cond rfl (fun hc => ?_) (fun hc => ?_)
      ·rw [e, if_pos (.inr hc)]
       refine go0 ?_
       exact leaves_v rfl rfl
      ·have hn : ¬ (wholeB l = false ∨ l.any badN = true) := by rw [hw, hc]; simp
       rw [e, if_neg hn]
       refine go1 (jn @t3 @f3) ?_
       refine runs_cond rfl (fun hc => ?_) (fun hc => ?_)
       ·have := of_decide_eq_true hc
        rw [if_pos (by omega)]
        refine go0 ?_
        exact leaves_v rfl rfl
       ·have := of_decide_eq_false hc
        rw [if_neg (by omega)]
        refine go0 ?_
        exact leaves_v rfl rfl
   ·cases h
  ·cases h
 ·cases h
end
section
attribute [local irreducible] Next Inside Runs Ops table
attribute [local go_sem] szStr szInt Option.getD_some isNil evStr iv loadStr loadInt rowsS_len rowsGs_len rowsPh_len mapGs mapPh mapRc ldGs ldPh cellsGs cellsPh cellsRc newGs newPh newRc fpGsGroup fpGsParam fpGsNodes fpPhName fpPhLen fpPhFrozen fpPhSets fpRcName fpRcSteps fpRcEpoch fpRcWeights fpRcMetrics fpRcGroups fpRcEval fpRcPhases
def okStr (s : ByteArray) : Prop := s.size ≤ 9223372036854775807
def Gs.fit (x : Gs) : Prop := okStr x.group ∧ x.nodes.length ≤ big40
def Ph.fit (x : Ph) : Prop := okStr x.name ∧ x.frozen.length ≤ big40 ∧ (∀ s ∈ x.frozen, okStr s) ∧ x.sets.length ≤ big40 ∧ ∀ s ∈ x.sets, s.fit
def Rc.fit (R : Rc) : Prop := okStr R.name ∧ (R.metrics.length ≤ big40 ∧ ∀ s ∈ R.metrics, okStr s) ∧ (R.groups.length ≤ big40 ∧ ∀ s ∈ R.groups, okStr s) ∧ (R.phases.length ≤ big40 ∧ ∀ p ∈ R.phases, p.fit) ∧ okStr R.stopMetric ∧ okStr R.plateauMetric ∧ okStr R.keepMetric
instance (s : ByteArray) : Decidable (okStr s) := by unfold okStr; exact inferInstance
instance (x : Gs) : Decidable x.fit := by unfold Gs.fit; exact inferInstance
instance (x : Ph) : Decidable x.fit := by unfold Ph.fit; exact inferInstance
instance (x : Rc) : Decidable x.fit := by unfold Rc.fit; exact inferInstance
/-! ### names -/
def notName (s : ByteArray) : Bool := !isName s
def notNameG : List AV → Mem → Option (AV × Mem)
 | [.v (.string s)], m => if okStr s then some (.v (.bool (notName s)), m) else none
 | _, _ => none
theorem notNameG_at (s : ByteArray) (m : Mem) (h : okStr s) : notNameG [.v (.string s)] m = some (.v (.bool (notName s)), m) := if_pos h
def kpNotName : Nat → Option (List Nat) := fun
 | 0 => some [0]
 | 1 => some [2]
 | _ => none
attribute [go_sem] kpNotName
def tab_notName_ok : List (FuncId × (List AV → Mem → Option (AV × Mem))) := [(122, isNameG)]
theorem notName_ok : FunOk Tryz.prog 121 notNameG := by
 have hC := table_ok (P := Tryz.prog) (l := tab_notName_ok) (table_more is_ok table_nil)
 have t1 := fun args mm => table_at (l := tab_notName_ok) (f := 122) (args := args) (m := mm) rfl
 refine fun_ok mixed hC Tryz.func121 rfl kpNotName false rfl fun args m r h => ?_
 unfold notNameG at h
 split at h
 ·rename_i s
  split at h
  ·rename_i hs
   simp only [Option.some.injEq] at h
   subst h
   refine ⟨Nat.le_of_ble_eq_true rfl, ?_⟩
   refine en ?_
   have f1 := fun mm => isNameG_eq (m := mm) hs
   refine go1 (jn @t1 @f1) ?_
   exact leaves_v rfl rfl
  ·cases h
 ·cases h
def nnFindG : List AV → Mem → Option (AV × Mem)
 | [.lst _ 1 rows, .fn (.func 121) [] []], m =>
  match unS rows with
  | some l => if l.length ≤ big40 ∧ (∀ x ∈ l, okStr x) then some (.v (.int .i64 (firstBy notName l 0)), m) else none
  | none => none
 | _, _ => none
theorem nnFindG_eq {m : Mem} {g : Grow} {l : List ByteArray} (h : l.length ≤ big40 ∧ (∀ x ∈ l, okStr x)) : nnFindG [.lst g 1 (rowsS l), .fn (.func 121) [] []] m = some (.v (.int .i64 (firstBy notName l 0)), m) := by
 simp only [nnFindG, unS_rowsS]
 rw [if_pos h]
def kp_nnFind : Nat → Option (List Nat) := fun _ => some [0, 1, 4, 5, 7, 8, 9, 16]
attribute [go_sem] kp_nnFind
def tab_nnFind_ok : List (FuncId × (List AV → Mem → Option (AV × Mem))) := [(121, notNameG)]
theorem nnFind_ok : FunOk Tryz.prog 153 nnFindG := by
 have hC := table_ok (P := Tryz.prog) (l := tab_nnFind_ok) (table_more notName_ok table_nil)
 have t1 := fun args mm => table_at (l := tab_nnFind_ok) (f := 121) (args := args) (m := mm) rfl
 refine fun_ok mixed hC Tryz.func153 rfl kp_nnFind false rfl fun args m r h => ?_
 unfold nnFindG at h
 split at h
 ·rename_i g rows
  split at h
  ·rename_i l hl0
   obtain rfl := unS_some hl0
   split at h
   ·rename_i hyp
    simp only [Option.some.injEq] at h
    subst h
    refine ⟨Nat.le_of_ble_eq_true rfl, ?_⟩
    refine en ?_
    obtain ⟨hlen, hb⟩ := hyp
    have hlen' := hlen
    unfold big40 at hlen'
    refine go0 ?_
    refine runs_loop (fun k e m' => ∃ (i : Nat) (x5 x9 x16 : AV), i ≤ l.length ∧ firstBy notName (l.drop i) i = firstBy notName l 0 ∧ m = m' ∧ k = l.length - i ∧
     e = [(0, AV.lst g 1 (rowsS l)), (1, .fn (.func 121) [] []), (4, .v (.int .i64 0)), (5, x5), (7, .v (.int .i64 l.length)), (8, .v (.int .i64 (i : Int))), (9, x9), (16, x16)]) (k := l.length) ⟨0, _, _, _, Nat.zero_le _, rfl, rfl, rfl, rfl⟩ ?_
    rintro k e m' ⟨i, x5, x9, x16, hi, hf, rfl, rfl, rfl⟩
    refine go0 ?_
    refine runs_cond rfl (fun hc => ?_) (fun hc => ?_)
    ·have hi1 : i < l.length := by have := of_decide_eq_true hc; omega
     have f1 := atStrs (g := g) (kk := .i64) hi1
     have f2 := fun mm => notNameG_at (l.getD i ⟨#[]⟩) mm (hb _ (by rw [List.getD, List.getElem?_eq_getElem hi1]; exact List.getElem_mem _))
     refine go1 (jn @f1 (jn @t1 @f2)) ?_
     refine runs_cond rfl (fun hc => ?_) (fun hc => ?_)
     ·rw [by_yes hi1 hc hf]
      refine go0 ?_
      exact leaves_v rfl rfl
     ·have r6 := next_i64 (i := i) (by omega)
      refine go1 @r6 ?_
      exact ⟨l.length - (i + 1), by omega, i + 1, _, _, _, hi1, by_no hi1 hc hf, rfl, rfl, rfl⟩
    ·have hi1 : i = l.length := by have := of_decide_eq_false hc; omega
     subst hi1
     rw [by_end hf]
     refine go0 ?_
     exact leaves_v rfl rfl
   ·cases h
  ·cases h
 ·cases h
def nnAnyG : List AV → Mem → Option (AV × Mem)
 | [.lst _ 1 rows, .fn (.func 121) [] []], m =>
  match unS rows with
  | some l => if l.length ≤ big40 ∧ (∀ x ∈ l, okStr x) then some (.v (.bool (l.any notName)), m) else none
  | none => none
 | _, _ => none
theorem nnAnyG_eq {m : Mem} {g : Grow} {l : List ByteArray} (h : l.length ≤ big40 ∧ (∀ x ∈ l, okStr x)) : nnAnyG [.lst g 1 (rowsS l), .fn (.func 121) [] []] m = some (.v (.bool (l.any notName)), m) := by
 simp only [nnAnyG, unS_rowsS]
 rw [if_pos h]
def kp_nnAny : Nat → Option (List Nat) := fun _ => some [0, 1, 4]
attribute [go_sem] kp_nnAny
def tab_nnAny_ok : List (FuncId × (List AV → Mem → Option (AV × Mem))) := [(153, nnFindG)]
theorem nnAny_ok : FunOk Tryz.prog 120 nnAnyG := by
 have hC := table_ok (P := Tryz.prog) (l := tab_nnAny_ok) (table_more nnFind_ok table_nil)
 have t1 := fun args mm => table_at (l := tab_nnAny_ok) (f := 153) (args := args) (m := mm) rfl
 refine fun_ok mixed hC Tryz.func120 rfl kp_nnAny false rfl fun args m r h => ?_
 unfold nnAnyG at h
 split at h
 ·rename_i g rows
  split at h
  ·rename_i l hl0
   obtain rfl := unS_some hl0
   split at h
   ·rename_i hyp
    simp only [Option.some.injEq] at h
    subst h
    refine ⟨Nat.le_of_ble_eq_true rfl, ?_⟩
    refine en ?_
    have f1 := fun mm => nnFindG_eq (m := mm) (g := .no) hyp
    have f3 : decide (firstBy notName l 0 ≥ 0) = l.any notName := firstBy_any notName l 0
    refine go1 (jn @t1 (jn @f1 @f3)) ?_
    exact leaves_v rfl rfl
   ·cases h
  ·cases h
 ·cases h
def namedB (l : List ByteArray) (n : Int) : Bool := decide ((l.length : Int) ≤ n) && !(l.any notName)
def namedG : List AV → Mem → Option (AV × Mem)
 | [.lst _ 1 rows, .v (.int .i64 n)], m =>
  match unS rows with
  | some l => if l.length ≤ big40 ∧ ∀ x ∈ l, okStr x then some (.v (.bool (namedB l n)), m) else none
  | none => none
 | _, _ => none
theorem namedG_eq {m : Mem} {g : Grow} {l : List ByteArray} {n : Int} (h : l.length ≤ big40 ∧ ∀ x ∈ l, okStr x) : namedG [.lst g 1 (rowsS l), .v (.int .i64 n)] m = some (.v (.bool (namedB l n)), m) := by
 simp only [namedG, unS_rowsS]
 rw [if_pos h]
def kpNamed : Nat → Option (List Nat) := fun
 | 0 => some [0, 1]
 | 1 => some [4]
 | _ => none
attribute [go_sem] kpNamed
def tab_named_ok : List (FuncId × (List AV → Mem → Option (AV × Mem))) := [(120, nnAnyG)]
theorem named_ok : FunOk Tryz.prog 73 namedG := by
 have hC := table_ok (P := Tryz.prog) (l := tab_named_ok) (table_more nnAny_ok table_nil)
 have t1 := fun args mm => table_at (l := tab_named_ok) (f := 120) (args := args) (m := mm) rfl
 refine fun_ok mixed hC Tryz.func73 rfl kpNamed false rfl fun args m r h => ?_
 unfold namedG at h
 split at h
 ·rename_i g rows n
  split at h
  ·rename_i l hl0
   obtain rfl := unS_some hl0
   split at h
   ·rename_i hyp
    simp only [Option.some.injEq] at h
    subst h
    refine ⟨Nat.le_of_ble_eq_true rfl, ?_⟩
    refine en ?_
    have f1 := fun mm => nnAnyG_eq (m := mm) (g := .no) hyp
    unfold namedB
    cases hb : decide ((l.length : Int) ≤ n) with
    | true =>
     refine go1 (jn @t1 (jn @f1 @hb)) ?_
     exact leaves_v rfl rfl
    | false =>
     refine go1 (jn @t1 (jn @f1 @hb)) ?_
     exact leaves_v rfl rfl
   ·cases h
  ·cases h
 ·cases h
/-! ### sets -/
def setMay (x : Gs) : Bool := isName x.group && (decide (0 ≤ x.param) && (decide (x.param < 3) && (checkT x.nodes == 0)))
def setMayG : List AV → Mem → Option (AV × Mem)
 | [.agg cs], m =>
  match unGs cs with
  | some x => if x.fit then some (.v (.bool (setMay x)), m) else none
  | none => none
 | _, _ => none
theorem setMayG_at (x : Gs) (m : Mem) (h : x.fit) : setMayG [.agg x.row] m = some (.v (.bool (setMay x)), m) := by
 simp only [setMayG, unGs_row]
 rw [if_pos h]
def kpSetMay : Nat → Option (List Nat) := fun
 | 0 => some [1]
 | 1 => some [2]
 | _ => none
attribute [go_sem] kpSetMay
def tab_setMay_ok : List (FuncId × (List AV → Mem → Option (AV × Mem))) := [(122, isNameG), (107, checkTG)]
theorem setMay_ok : FunOk Tryz.prog 125 setMayG := by
 have hC := table_ok (P := Tryz.prog) (l := tab_setMay_ok) (table_more is_ok (table_more checkT_ok table_nil))
 have t1 := fun args mm => table_at (l := tab_setMay_ok) (f := 122) (args := args) (m := mm) rfl
 have t2 := fun args mm => table_at (l := tab_setMay_ok) (f := 107) (args := args) (m := mm) rfl
 refine fun_ok mixed hC Tryz.func125 rfl kpSetMay false rfl fun args m r h => ?_
 unfold setMayG at h
 split at h
 ·rename_i cs
  split at h
  ·rename_i x hx
   obtain rfl := unGs_some hx
   split at h
   ·rename_i hyp
    simp only [Option.some.injEq] at h
    subst h
    refine ⟨Nat.le_of_ble_eq_true rfl, ?_⟩
    refine en ?_
    have f1 := fun mm => isNameG_eq (m := mm) hyp.1
    have f2 := fun mm => checkTG_eq (m := mm) (g := .no) hyp.2
    have hv : (m.push x.row).var m.vars.length = some x.row := push_var
    have l1 := lpGsGroup hv
    have l2 := lpGsParam hv
    have l3 := lpGsNodes hv
    unfold setMay
    cases hb : isName x.group with
    | false =>
     rw [hb] at f1
     refine go1 (jn @t1 (jn @f1 @l1)) ?_
     exact leaves_fin rfl rfl fin_push
    | true =>
     rw [hb] at f1
     by_cases h0 : 0 ≤ x.param
     ·have b0 : decide (x.param ≥ 0) = true := decide_eq_true h0
      rw [decide_eq_true h0]
      cases h3 : decide (x.param < 3) with
      | false =>
       refine go1 (jn @t1 (jn @f1 (jn @l1 (jn @l2 (jn @b0 @h3))))) ?_
       exact leaves_fin rfl rfl fin_push
      | true =>
       refine go1 (jn @t1 (jn @f1 (jn @l1 (jn @l2 (jn @b0 (jn @h3 (jn @l3 (jn @t2 @f2)))))))) ?_
       exact leaves_fin rfl rfl fin_push
     ·have b0 : decide (x.param ≥ 0) = false := decide_eq_false h0
      rw [decide_eq_false h0]
      refine go1 (jn @t1 (jn @f1 (jn @l1 (jn @l2 @b0)))) ?_
      exact leaves_fin rfl rfl fin_push
   ·cases h
  ·cases h
 ·cases h
def setNot (x : Gs) : Bool := !setMay x
def setNotG : List AV → Mem → Option (AV × Mem)
 | [.agg cs], m =>
  match unGs cs with
  | some x => if x.fit then some (.v (.bool (setNot x)), m) else none
  | none => none
 | _, _ => none
theorem setNotG_at (x : Gs) (m : Mem) (h : x.fit) : setNotG [.agg x.row] m = some (.v (.bool (setNot x)), m) := by
 simp only [setNotG, unGs_row]
 rw [if_pos h]
def kpSetNot : Nat → Option (List Nat) := fun
 | 0 => some [1]
 | 1 => some [2]
 | _ => none
attribute [go_sem] kpSetNot
def tab_setNot_ok : List (FuncId × (List AV → Mem → Option (AV × Mem))) := [(125, setMayG)]
theorem setNot_ok : FunOk Tryz.prog 124 setNotG := by
 have hC := table_ok (P := Tryz.prog) (l := tab_setNot_ok) (table_more setMay_ok table_nil)
 have t1 := fun args mm => table_at (l := tab_setNot_ok) (f := 125) (args := args) (m := mm) rfl
 refine fun_ok mixed hC Tryz.func124 rfl kpSetNot false rfl fun args m r h => ?_
 unfold setNotG at h
 split at h
 ·rename_i cs
  split at h
  ·rename_i x hx
   obtain rfl := unGs_some hx
   split at h
   ·rename_i hyp
    simp only [Option.some.injEq] at h
    subst h
    refine ⟨Nat.le_of_ble_eq_true rfl, ?_⟩
    refine en ?_
    have f1 := fun mm => setMayG_at x mm hyp
    have l1 := vrGs (x := x) (push_var (m := m))
    refine go1 (jn @t1 (jn @f1 @l1)) ?_
    exact leaves_fin rfl rfl fin_push
   ·cases h
  ·cases h
 ·cases h
def snFindG : List AV → Mem → Option (AV × Mem)
 | [.lst _ 3 rows, .fn (.func 124) [] []], m =>
  match unsGs rows with
  | some l => if l.length ≤ big40 ∧ (∀ x ∈ l, x.fit) then some (.v (.int .i64 (firstBy setNot l 0)), m) else none
  | none => none
 | _, _ => none
theorem snFindG_eq {m : Mem} {g : Grow} {l : List Gs} (h : l.length ≤ big40 ∧ (∀ x ∈ l, x.fit)) : snFindG [.lst g 3 (rowsGs l), .fn (.func 124) [] []] m = some (.v (.int .i64 (firstBy setNot l 0)), m) := by
 simp only [snFindG, unsGs_rowsGs]
 rw [if_pos h]
def kp_snFind : Nat → Option (List Nat) := fun _ => some [0, 1, 4, 5, 7, 8, 9, 16]
attribute [go_sem] kp_snFind
def tab_snFind_ok : List (FuncId × (List AV → Mem → Option (AV × Mem))) := [(124, setNotG)]
theorem snFind_ok : FunOk Tryz.prog 147 snFindG := by
 have hC := table_ok (P := Tryz.prog) (l := tab_snFind_ok) (table_more setNot_ok table_nil)
 have t1 := fun args mm => table_at (l := tab_snFind_ok) (f := 124) (args := args) (m := mm) rfl
 refine fun_ok mixed hC Tryz.func147 rfl kp_snFind false rfl fun args m r h => ?_
 unfold snFindG at h
 split at h
 ·rename_i g rows
  split at h
  ·rename_i l hl0
   obtain rfl := unsGs_some hl0
   split at h
   ·rename_i hyp
    simp only [Option.some.injEq] at h
    subst h
    refine ⟨Nat.le_of_ble_eq_true rfl, ?_⟩
    refine en ?_
    obtain ⟨hlen, hb⟩ := hyp
    have hlen' := hlen
    unfold big40 at hlen'
    refine go0 ?_
    refine runs_loop (fun k e m' => ∃ (i : Nat) (x5 x9 x16 : AV), i ≤ l.length ∧ firstBy setNot (l.drop i) i = firstBy setNot l 0 ∧ m = m' ∧ k = l.length - i ∧
     e = [(0, AV.lst g 3 (rowsGs l)), (1, .fn (.func 124) [] []), (4, .v (.int .i64 0)), (5, x5), (7, .v (.int .i64 l.length)), (8, .v (.int .i64 (i : Int))), (9, x9), (16, x16)]) (k := l.length) ⟨0, _, _, _, Nat.zero_le _, rfl, rfl, rfl, rfl⟩ ?_
    rintro k e m' ⟨i, x5, x9, x16, hi, hf, rfl, rfl, rfl⟩
    refine go0 ?_
    refine runs_cond rfl (fun hc => ?_) (fun hc => ?_)
    ·have hi1 : i < l.length := by have := of_decide_eq_true hc; omega
     have f1 := atGs (g := g) (kk := .i64) hi1
     have f2 := fun mm => setNotG_at (l.getD i gs0) mm (hb _ (by rw [List.getD, List.getElem?_eq_getElem hi1]; exact List.getElem_mem _))
     refine go1 (jn @f1 (jn @t1 @f2)) ?_
     refine runs_cond rfl (fun hc => ?_) (fun hc => ?_)
     ·rw [by_yes hi1 hc hf]
      refine go0 ?_
      exact leaves_v rfl rfl
     ·have r6 := next_i64 (i := i) (by omega)
      refine go1 @r6 ?_
      exact ⟨l.length - (i + 1), by omega, i + 1, _, _, _, hi1, by_no hi1 hc hf, rfl, rfl, rfl⟩
    ·have hi1 : i = l.length := by have := of_decide_eq_false hc; omega
     subst hi1
     rw [by_end hf]
     refine go0 ?_
     exact leaves_v rfl rfl
   ·cases h
  ·cases h
 ·cases h
def snAnyG : List AV → Mem → Option (AV × Mem)
 | [.lst _ 3 rows, .fn (.func 124) [] []], m =>
  match unsGs rows with
  | some l => if l.length ≤ big40 ∧ (∀ x ∈ l, x.fit) then some (.v (.bool (l.any setNot)), m) else none
  | none => none
 | _, _ => none
theorem snAnyG_eq {m : Mem} {g : Grow} {l : List Gs} (h : l.length ≤ big40 ∧ (∀ x ∈ l, x.fit)) : snAnyG [.lst g 3 (rowsGs l), .fn (.func 124) [] []] m = some (.v (.bool (l.any setNot)), m) := by
 simp only [snAnyG, unsGs_rowsGs]
 rw [if_pos h]
def kp_snAny : Nat → Option (List Nat) := fun _ => some [0, 1, 4]
attribute [go_sem] kp_snAny
def tab_snAny_ok : List (FuncId × (List AV → Mem → Option (AV × Mem))) := [(147, snFindG)]
theorem snAny_ok : FunOk Tryz.prog 112 snAnyG := by
 have hC := table_ok (P := Tryz.prog) (l := tab_snAny_ok) (table_more snFind_ok table_nil)
 have t1 := fun args mm => table_at (l := tab_snAny_ok) (f := 147) (args := args) (m := mm) rfl
 refine fun_ok mixed hC Tryz.func112 rfl kp_snAny false rfl fun args m r h => ?_
 unfold snAnyG at h
 split at h
 ·rename_i g rows
  split at h
  ·rename_i l hl0
   obtain rfl := unsGs_some hl0
   split at h
   ·rename_i hyp
    simp only [Option.some.injEq] at h
    subst h
    refine ⟨Nat.le_of_ble_eq_true rfl, ?_⟩
    refine en ?_
    have f1 := fun mm => snFindG_eq (m := mm) (g := .no) hyp
    have f3 : decide (firstBy setNot l 0 ≥ 0) = l.any setNot := firstBy_any setNot l 0
    refine go1 (jn @t1 (jn @f1 @f3)) ?_
    exact leaves_v rfl rfl
   ·cases h
  ·cases h
 ·cases h
/-! ### phases -/
def phMay (x : Ph) : Bool := isName x.name && (decide (lenMay x.lenU x.lenN) && (namedB x.frozen 8 && (decide ((x.sets.length : Int) ≤ 24) && !(x.sets.any setNot))))
def phMayG : List AV → Mem → Option (AV × Mem)
 | [.agg cs], m =>
  match unPh cs with
  | some x => if x.fit then some (.v (.bool (phMay x)), m) else none
  | none => none
 | _, _ => none
theorem phMayG_at (x : Ph) (m : Mem) (h : x.fit) : phMayG [.agg x.row] m = some (.v (.bool (phMay x)), m) := by
 simp only [phMayG, unPh_row]
 rw [if_pos h]
def kpPhMay : Nat → Option (List Nat) := fun
 | 0 => some [1]
 | 1 => some [1, 24]
 | 2 => some [2]
 | 3 => some [2]
 | _ => none
attribute [go_sem] kpPhMay
def tab_phMay_ok : List (FuncId × (List AV → Mem → Option (AV × Mem))) := [(122, isNameG), (104, lenCheckG), (73, namedG), (112, snAnyG)]
theorem phMay_ok : FunOk Tryz.prog 76 phMayG := by
 have hC := table_ok (P := Tryz.prog) (l := tab_phMay_ok) (table_more is_ok (table_more lenCheck_ok (table_more named_ok (table_more snAny_ok table_nil))))
 have t1 := fun args mm => table_at (l := tab_phMay_ok) (f := 122) (args := args) (m := mm) rfl
 have t2 := fun args mm => table_at (l := tab_phMay_ok) (f := 104) (args := args) (m := mm) rfl
 have t3 := fun args mm => table_at (l := tab_phMay_ok) (f := 73) (args := args) (m := mm) rfl
 have t4 := fun args mm => table_at (l := tab_phMay_ok) (f := 112) (args := args) (m := mm) rfl
 refine fun_ok mixed hC Tryz.func76 rfl kpPhMay false rfl fun args m r h => ?_
 unfold phMayG at h
 split at h
 ·rename_i cs
  split at h
  ·rename_i x hx
   obtain rfl := unPh_some hx
   split at h
   ·rename_i hyp
    simp only [Option.some.injEq] at h
    subst h
    refine ⟨Nat.le_of_ble_eq_true rfl, ?_⟩
    refine en ?_
    have f1 := fun mm => isNameG_eq (m := mm) hyp.1
    have f2 : ∀ mm, lenCheckG [.agg [.v (.int .i64 x.lenU), .v (.int .i64 x.lenN)]] mm = some (.v (.int .i64 (if lenMay x.lenU x.lenN then 0 else 1)), mm) := fun _ => rfl
    have f3 := fun mm => namedG_eq (m := mm) (g := .no) (n := 8) ⟨hyp.2.1, hyp.2.2.1⟩
    have f4 := fun mm => snAnyG_eq (m := mm) (g := .no) ⟨hyp.2.2.2.1, hyp.2.2.2.2⟩
    have hv : (m.push x.row).var m.vars.length = some x.row := push_var
    have l1 := lpPhName hv
    have l2 := lpPhLen hv
    have l3 := lpPhFrozen hv
    have l4 := lpPhSets hv
    unfold phMay
    have w1 : (!true) = false := rfl
    have w2 : (!false) = true := rfl
    have w3 : ((0 : Int) != 0) = false := rfl
    have w4 : ((1 : Int) != 0) = true := rfl
    cases h1 : isName x.name with
    | false =>
     rw [h1] at f1
     refine go1 (jn @t1 (jn @f1 (jn @l1 @w2))) ?_
     refine runs_cond rfl (fun hc => ?_) (fun hc => by cases hc)
     refine go0 ?_
     exact leaves_fin rfl rfl fin_push
    | true =>
     rw [h1] at f1
     by_cases h2 : lenMay x.lenU x.lenN
     ·rw [decide_eq_true h2]
      rw [if_pos h2] at f2
      cases h3 : namedB x.frozen 8 with
      | false =>
       rw [h3] at f3
       refine go1 (jn @t1 (jn @f1 (jn @l1 (jn @w1 (jn @l2 (jn @t2 (jn @f2 (jn @w3 (jn @l3 (jn @t3 (jn @f3 @w2))))))))))) ?_
       refine runs_cond rfl (fun hc => ?_) (fun hc => by cases hc)
       refine go0 ?_
       exact leaves_fin rfl rfl fin_push
      | true =>
       rw [h3] at f3
       by_cases h4 : (x.sets.length : Int) ≤ 24
       ·rw [decide_eq_true h4]
        have b4 : decide ((x.sets.length : Int) > 24) = false := decide_eq_false (by omega)
        refine go1 (jn @t1 (jn @f1 (jn @l1 (jn @w1 (jn @l2 (jn @t2 (jn @f2 (jn @w3 (jn @l3 (jn @t3 (jn @f3 (jn @l4 @b4)))))))))))) ?_
        refine runs_cond rfl (fun hc => by cases hc) (fun hc => ?_)
        refine go1 (jn @l4 (jn @t4 @f4)) ?_
        exact leaves_fin rfl rfl fin_push
       ·rw [decide_eq_false h4]
        have b4 : decide ((x.sets.length : Int) > 24) = true := decide_eq_true (by omega)
        refine go1 (jn @t1 (jn @f1 (jn @l1 (jn @w1 (jn @l2 (jn @t2 (jn @f2 (jn @w3 (jn @l3 (jn @t3 (jn @f3 (jn @l4 @b4)))))))))))) ?_
        refine runs_cond rfl (fun hc => ?_) (fun hc => by cases hc)
        refine go0 ?_
        exact leaves_fin rfl rfl fin_push
     ·rw [decide_eq_false h2]
      rw [if_neg h2] at f2
      refine go1 (jn @t1 (jn @f1 (jn @l1 (jn @w1 (jn @l2 (jn @t2 (jn @f2 @w4))))))) ?_
      refine runs_cond rfl (fun hc => ?_) (fun hc => by cases hc)
      refine go0 ?_
      exact leaves_fin rfl rfl fin_push
   ·cases h
  ·cases h
 ·cases h
def phNot (x : Ph) : Bool := !phMay x
def phNotG : List AV → Mem → Option (AV × Mem)
 | [.agg cs], m =>
  match unPh cs with
  | some x => if x.fit then some (.v (.bool (phNot x)), m) else none
  | none => none
 | _, _ => none
theorem phNotG_at (x : Ph) (m : Mem) (h : x.fit) : phNotG [.agg x.row] m = some (.v (.bool (phNot x)), m) := by
 simp only [phNotG, unPh_row]
 rw [if_pos h]
def kpPhNot : Nat → Option (List Nat) := fun
 | 0 => some [1]
 | 1 => some [2]
 | _ => none
attribute [go_sem] kpPhNot
def tab_phNot_ok : List (FuncId × (List AV → Mem → Option (AV × Mem))) := [(76, phMayG)]
theorem phNot_ok : FunOk Tryz.prog 75 phNotG := by
 have hC := table_ok (P := Tryz.prog) (l := tab_phNot_ok) (table_more phMay_ok table_nil)
 have t1 := fun args mm => table_at (l := tab_phNot_ok) (f := 76) (args := args) (m := mm) rfl
 refine fun_ok mixed hC Tryz.func75 rfl kpPhNot false rfl fun args m r h => ?_
 unfold phNotG at h
 split at h
 ·rename_i cs
  split at h
  ·rename_i x hx
   obtain rfl := unPh_some hx
   split at h
   ·rename_i hyp
    simp only [Option.some.injEq] at h
    subst h
    refine ⟨Nat.le_of_ble_eq_true rfl, ?_⟩
    refine en ?_
    have f1 := fun mm => phMayG_at x mm hyp
    have l1 := vrPh (x := x) (push_var (m := m))
    refine go1 (jn @t1 (jn @f1 @l1)) ?_
    exact leaves_fin rfl rfl fin_push
   ·cases h
  ·cases h
 ·cases h
def pnFindG : List AV → Mem → Option (AV × Mem)
 | [.lst _ 5 rows, .fn (.func 75) [] []], m =>
  match unsPh rows with
  | some l => if l.length ≤ big40 ∧ (∀ x ∈ l, x.fit) then some (.v (.int .i64 (firstBy phNot l 0)), m) else none
  | none => none
 | _, _ => none
theorem pnFindG_eq {m : Mem} {g : Grow} {l : List Ph} (h : l.length ≤ big40 ∧ (∀ x ∈ l, x.fit)) : pnFindG [.lst g 5 (rowsPh l), .fn (.func 75) [] []] m = some (.v (.int .i64 (firstBy phNot l 0)), m) := by
 simp only [pnFindG, unsPh_rowsPh]
 rw [if_pos h]
def kp_pnFind : Nat → Option (List Nat) := fun _ => some [0, 1, 4, 5, 7, 8, 9, 16]
attribute [go_sem] kp_pnFind
def tab_pnFind_ok : List (FuncId × (List AV → Mem → Option (AV × Mem))) := [(75, phNotG)]
theorem pnFind_ok : FunOk Tryz.prog 123 pnFindG := by
 have hC := table_ok (P := Tryz.prog) (l := tab_pnFind_ok) (table_more phNot_ok table_nil)
 have t1 := fun args mm => table_at (l := tab_pnFind_ok) (f := 75) (args := args) (m := mm) rfl
 refine fun_ok mixed hC Tryz.func123 rfl kp_pnFind false rfl fun args m r h => ?_
 unfold pnFindG at h
 split at h
 ·rename_i g rows
  split at h
  ·rename_i l hl0
   obtain rfl := unsPh_some hl0
   split at h
   ·rename_i hyp
    simp only [Option.some.injEq] at h
    subst h
    refine ⟨Nat.le_of_ble_eq_true rfl, ?_⟩
    refine en ?_
    obtain ⟨hlen, hb⟩ := hyp
    have hlen' := hlen
    unfold big40 at hlen'
    refine go0 ?_
    refine runs_loop (fun k e m' => ∃ (i : Nat) (x5 x9 x16 : AV), i ≤ l.length ∧ firstBy phNot (l.drop i) i = firstBy phNot l 0 ∧ m = m' ∧ k = l.length - i ∧
     e = [(0, AV.lst g 5 (rowsPh l)), (1, .fn (.func 75) [] []), (4, .v (.int .i64 0)), (5, x5), (7, .v (.int .i64 l.length)), (8, .v (.int .i64 (i : Int))), (9, x9), (16, x16)]) (k := l.length) ⟨0, _, _, _, Nat.zero_le _, rfl, rfl, rfl, rfl⟩ ?_
    rintro k e m' ⟨i, x5, x9, x16, hi, hf, rfl, rfl, rfl⟩
    refine go0 ?_
    refine runs_cond rfl (fun hc => ?_) (fun hc => ?_)
    ·have hi1 : i < l.length := by have := of_decide_eq_true hc; omega
     have f1 := atPh (g := g) (kk := .i64) hi1
     have f2 := fun mm => phNotG_at (l.getD i ph0) mm (hb _ (by rw [List.getD, List.getElem?_eq_getElem hi1]; exact List.getElem_mem _))
     refine go1 (jn @f1 (jn @t1 @f2)) ?_
     refine runs_cond rfl (fun hc => ?_) (fun hc => ?_)
     ·rw [by_yes hi1 hc hf]
      refine go0 ?_
      exact leaves_v rfl rfl
     ·have r6 := next_i64 (i := i) (by omega)
      refine go1 @r6 ?_
      exact ⟨l.length - (i + 1), by omega, i + 1, _, _, _, hi1, by_no hi1 hc hf, rfl, rfl, rfl⟩
    ·have hi1 : i = l.length := by have := of_decide_eq_false hc; omega
     subst hi1
     rw [by_end hf]
     refine go0 ?_
     exact leaves_v rfl rfl
   ·cases h
  ·cases h
 ·cases h
def pnAnyG : List AV → Mem → Option (AV × Mem)
 | [.lst _ 5 rows, .fn (.func 75) [] []], m =>
  match unsPh rows with
  | some l => if l.length ≤ big40 ∧ (∀ x ∈ l, x.fit) then some (.v (.bool (l.any phNot)), m) else none
  | none => none
 | _, _ => none
theorem pnAnyG_eq {m : Mem} {g : Grow} {l : List Ph} (h : l.length ≤ big40 ∧ (∀ x ∈ l, x.fit)) : pnAnyG [.lst g 5 (rowsPh l), .fn (.func 75) [] []] m = some (.v (.bool (l.any phNot)), m) := by
 simp only [pnAnyG, unsPh_rowsPh]
 rw [if_pos h]
def kp_pnAny : Nat → Option (List Nat) := fun _ => some [0, 1, 4]
attribute [go_sem] kp_pnAny
def tab_pnAny_ok : List (FuncId × (List AV → Mem → Option (AV × Mem))) := [(123, pnFindG)]
theorem pnAny_ok : FunOk Tryz.prog 74 pnAnyG := by
 have hC := table_ok (P := Tryz.prog) (l := tab_pnAny_ok) (table_more pnFind_ok table_nil)
 have t1 := fun args mm => table_at (l := tab_pnAny_ok) (f := 123) (args := args) (m := mm) rfl
 refine fun_ok mixed hC Tryz.func74 rfl kp_pnAny false rfl fun args m r h => ?_
 unfold pnAnyG at h
 split at h
 ·rename_i g rows
  split at h
  ·rename_i l hl0
   obtain rfl := unsPh_some hl0
   split at h
   ·rename_i hyp
    simp only [Option.some.injEq] at h
    subst h
    refine ⟨Nat.le_of_ble_eq_true rfl, ?_⟩
    refine en ?_
    have f1 := fun mm => pnFindG_eq (m := mm) (g := .no) hyp
    have f3 : decide (firstBy phNot l 0 ≥ 0) = l.any phNot := firstBy_any phNot l 0
    refine go1 (jn @t1 (jn @f1 @f3)) ?_
    exact leaves_v rfl rfl
   ·cases h
  ·cases h
 ·cases h
/-! ### recipes -/
def Rc.headBad (R : Rc) : Bool := decide ((R.name.size : Int) > 64) || (!countB R.steps || (!countB R.epoch || (!countB R.weights || !countB R.eval)))
def Rc.listBad (R : Rc) : Bool := !namedB R.metrics 4 || (!namedB R.groups 8 || decide (R.groups.length = 0))
def Rc.phBad (R : Rc) : Bool := decide ((R.phases.length : Int) > 16) || (R.phases.any phNot || !R.endsMay)
def Rc.may (R : Rc) : Bool := !R.headBad && (!R.listBad && !R.phBad)
def mayRG : List AV → Mem → Option (AV × Mem)
 | [.agg cs], m =>
  match unRc cs with
  | some R => if R.fit then some (.v (.int .i64 (if R.may then 0 else 1)), m) else none
  | none => none
 | _, _ => none
theorem mayRG_at (R : Rc) (m : Mem) (h : R.fit) : mayRG [.agg R.row] m = some (.v (.int .i64 (if R.may then 0 else 1)), m) := by
 simp only [mayRG, unRc_row]
 rw [if_pos h]
def countWG : List AV → Mem → Option (AV × Mem) := upTo 1099511627776
theorem countW_ok : FunOk Tryz.prog 72 countWG := pcount_ok
def kpMayR : Nat → Option (List Nat) := fun
 | 0 => some [1]
 | 1 => some [1, 3]
 | 2 => some [1, 3]
 | 3 => some [1, 3]
 | 4 => some [1, 3]
 | 5 => some [1, 3]
 | 6 => some [2]
 | 7 => some [1, 24]
 | 8 => some [1, 24]
 | 9 => some [1, 24]
 | 10 => some [2]
 | 11 => some [1, 37]
 | 12 => some [1, 37]
 | 13 => some [37]
 | 14 => some [2]
 | 15 => some [2]
 | _ => none
attribute [go_sem] kpMayR
def tab_mayR_ok : List (FuncId × (List AV → Mem → Option (AV × Mem))) := [(72, countWG), (73, namedG), (74, pnAnyG), (77, endsRG)]
theorem mayR_ok : FunOk Tryz.prog 37 mayRG := by
 have hC := table_ok (P := Tryz.prog) (l := tab_mayR_ok) (table_more countW_ok (table_more named_ok (table_more pnAny_ok (table_more endsR_ok table_nil))))
 have t1 := fun args mm => table_at (l := tab_mayR_ok) (f := 72) (args := args) (m := mm) rfl
 have t2 := fun args mm => table_at (l := tab_mayR_ok) (f := 73) (args := args) (m := mm) rfl
 have t3 := fun args mm => table_at (l := tab_mayR_ok) (f := 74) (args := args) (m := mm) rfl
 have t4 := fun args mm => table_at (l := tab_mayR_ok) (f := 77) (args := args) (m := mm) rfl
 refine fun_ok mixed hC Tryz.func37 rfl kpMayR false rfl fun args m r h => ?_
 unfold mayRG at h
 split at h
 ·rename_i cs
  split at h
  ·rename_i R hR
   obtain rfl := unRc_some hR
   split at h
   ·rename_i hyp
    simp only [Option.some.injEq] at h
    subst h
    refine ⟨Nat.le_of_ble_eq_true rfl, ?_⟩
    refine en ?_
    obtain ⟨y0, ⟨y1, y2⟩, ⟨y3, y4⟩, ⟨y5, y6⟩, y7, y8, y9⟩ := hyp
    have fc : ∀ x mm, countWG [.v (.int .i64 x)] mm = some (.v (.bool (countB x)), mm) := fun _ _ => rfl
    have f1 := fun mm => namedG_eq (m := mm) (g := .no) (n := 4) ⟨y1, y2⟩
    have f2 := fun mm => namedG_eq (m := mm) (g := .no) (n := 8) ⟨y3, y4⟩
    have f3 := fun mm => pnAnyG_eq (m := mm) (g := .no) ⟨y5, y6⟩
    have f4 : ∀ mm, endsRG [.agg R.row] mm = some (.v (.bool R.endsMay), mm) := fun mm => by
     simp only [endsRG, unRc_row]
     rw [if_pos ⟨y7, y8, y9⟩]
    have hv : (m.push R.row).var m.vars.length = some R.row := push_var
    have l1 := lpRcName hv
    have l2 := lpRcSteps hv
    have l3 := lpRcEpoch hv
    have l4 := lpRcWeights hv
    have l5 := lpRcEval hv
    have l6 := lpRcMetrics hv
    have l7 := lpRcGroups hv
    have l8 := lpRcPhases hv
    have l9 := vrRc hv
    have e8 : ((R.groups.length : Int) == 0) = decide (R.groups.length = 0) := by
     rw [Bool.eq_iff_iff]
     simp
    have w1 : (!true) = false := rfl
    have w2 : (!false) = true := rfl
    cases q0 : decide ((R.name.size : Int) > 64) with
    | true =>
     have hm : R.may = false := by simp only [Rc.may, Rc.headBad, Rc.listBad, Rc.phBad, q0]; rfl
     rw [hm]
     repeat' (first | refine gos1 (jn @t1 (jn @fc (jn @t2 (jn @f1 (jn @f2 (jn @t3 (jn @f3 (jn @t4 (jn @f4 (jn @l1 (jn @l2 (jn @l3 (jn @l4 (jn @l5 (jn @l6 (jn @l7 (jn @l8 (jn @l9 (jn @e8 (jn @w1 (jn @w2 @q0))))))))))))))))))))) ?_ | (refine ops_here ?_; (fail_if_success (refine ops_case (B := true) rfl rfl rfl ?_ ?_)); (fail_if_success (refine ops_case (B := false) rfl rfl rfl ?_ ?_)); refine ops_case rfl rfl rfl (fun hB => ?_) (fun hB => ?_) <;> rw [hB]) | (refine runs_here ?_; refine runs_cond rfl (fun hc => ?_) (fun hc => ?_) <;> first | (cases hc; done) | skip))
     exact leaves_fin rfl rfl fin_push
    | false =>
     cases q1 : countB R.steps with
     | false =>
      have hm : R.may = false := by simp only [Rc.may, Rc.headBad, Rc.listBad, Rc.phBad, q0, q1]; rfl
      rw [hm]
      repeat' (first | refine gos1 (jn @t1 (jn @fc (jn @t2 (jn @f1 (jn @f2 (jn @t3 (jn @f3 (jn @t4 (jn @f4 (jn @l1 (jn @l2 (jn @l3 (jn @l4 (jn @l5 (jn @l6 (jn @l7 (jn @l8 (jn @l9 (jn @e8 (jn @w1 (jn @w2 (jn @q0 @q1)))))))))))))))))))))) ?_ | (refine ops_here ?_; (fail_if_success (refine ops_case (B := true) rfl rfl rfl ?_ ?_)); (fail_if_success (refine ops_case (B := false) rfl rfl rfl ?_ ?_)); refine ops_case rfl rfl rfl (fun hB => ?_) (fun hB => ?_) <;> rw [hB]) | (refine runs_here ?_; refine runs_cond rfl (fun hc => ?_) (fun hc => ?_) <;> first | (cases hc; done) | skip))
      exact leaves_fin rfl rfl fin_push
     | true =>
      cases q2 : countB R.epoch with
      | false =>
       have hm : R.may = false := by simp only [Rc.may, Rc.headBad, Rc.listBad, Rc.phBad, q0, q1, q2]; rfl
       rw [hm]
       repeat' (first | refine gos1 (jn @t1 (jn @fc (jn @t2 (jn @f1 (jn @f2 (jn @t3 (jn @f3 (jn @t4 (jn @f4 (jn @l1 (jn @l2 (jn @l3 (jn @l4 (jn @l5 (jn @l6 (jn @l7 (jn @l8 (jn @l9 (jn @e8 (jn @w1 (jn @w2 (jn @q0 (jn @q1 @q2))))))))))))))))))))))) ?_ | (refine ops_here ?_; (fail_if_success (refine ops_case (B := true) rfl rfl rfl ?_ ?_)); (fail_if_success (refine ops_case (B := false) rfl rfl rfl ?_ ?_)); refine ops_case rfl rfl rfl (fun hB => ?_) (fun hB => ?_) <;> rw [hB]) | (refine runs_here ?_; refine runs_cond rfl (fun hc => ?_) (fun hc => ?_) <;> first | (cases hc; done) | skip))
       exact leaves_fin rfl rfl fin_push
      | true =>
       cases q3 : countB R.weights with
       | false =>
        have hm : R.may = false := by simp only [Rc.may, Rc.headBad, Rc.listBad, Rc.phBad, q0, q1, q2, q3]; rfl
        rw [hm]
        repeat' (first | refine gos1 (jn @t1 (jn @fc (jn @t2 (jn @f1 (jn @f2 (jn @t3 (jn @f3 (jn @t4 (jn @f4 (jn @l1 (jn @l2 (jn @l3 (jn @l4 (jn @l5 (jn @l6 (jn @l7 (jn @l8 (jn @l9 (jn @e8 (jn @w1 (jn @w2 (jn @q0 (jn @q1 (jn @q2 @q3)))))))))))))))))))))))) ?_ | (refine ops_here ?_; (fail_if_success (refine ops_case (B := true) rfl rfl rfl ?_ ?_)); (fail_if_success (refine ops_case (B := false) rfl rfl rfl ?_ ?_)); refine ops_case rfl rfl rfl (fun hB => ?_) (fun hB => ?_) <;> rw [hB]) | (refine runs_here ?_; refine runs_cond rfl (fun hc => ?_) (fun hc => ?_) <;> first | (cases hc; done) | skip))
        exact leaves_fin rfl rfl fin_push
       | true =>
        cases q4 : countB R.eval with
        | false =>
         have hm : R.may = false := by simp only [Rc.may, Rc.headBad, Rc.listBad, Rc.phBad, q0, q1, q2, q3, q4]; rfl
         rw [hm]
         repeat' (first | refine gos1 (jn @t1 (jn @fc (jn @t2 (jn @f1 (jn @f2 (jn @t3 (jn @f3 (jn @t4 (jn @f4 (jn @l1 (jn @l2 (jn @l3 (jn @l4 (jn @l5 (jn @l6 (jn @l7 (jn @l8 (jn @l9 (jn @e8 (jn @w1 (jn @w2 (jn @q0 (jn @q1 (jn @q2 (jn @q3 @q4))))))))))))))))))))))))) ?_ | (refine ops_here ?_; (fail_if_success (refine ops_case (B := true) rfl rfl rfl ?_ ?_)); (fail_if_success (refine ops_case (B := false) rfl rfl rfl ?_ ?_)); refine ops_case rfl rfl rfl (fun hB => ?_) (fun hB => ?_) <;> rw [hB]) | (refine runs_here ?_; refine runs_cond rfl (fun hc => ?_) (fun hc => ?_) <;> first | (cases hc; done) | skip))
         exact leaves_fin rfl rfl fin_push
        | true =>
         cases q5 : namedB R.metrics 4 with
         | false =>
          have hm : R.may = false := by simp only [Rc.may, Rc.headBad, Rc.listBad, Rc.phBad, q0, q1, q2, q3, q4, q5]; rfl
          rw [hm]
          repeat' (first | refine gos1 (jn @t1 (jn @fc (jn @t2 (jn @f1 (jn @f2 (jn @t3 (jn @f3 (jn @t4 (jn @f4 (jn @l1 (jn @l2 (jn @l3 (jn @l4 (jn @l5 (jn @l6 (jn @l7 (jn @l8 (jn @l9 (jn @e8 (jn @w1 (jn @w2 (jn @q0 (jn @q1 (jn @q2 (jn @q3 (jn @q4 @q5)))))))))))))))))))))))))) ?_ | (refine ops_here ?_; (fail_if_success (refine ops_case (B := true) rfl rfl rfl ?_ ?_)); (fail_if_success (refine ops_case (B := false) rfl rfl rfl ?_ ?_)); refine ops_case rfl rfl rfl (fun hB => ?_) (fun hB => ?_) <;> rw [hB]) | (refine runs_here ?_; refine runs_cond rfl (fun hc => ?_) (fun hc => ?_) <;> first | (cases hc; done) | skip))
          exact leaves_fin rfl rfl fin_push
         | true =>
          cases q6 : namedB R.groups 8 with
          | false =>
           have hm : R.may = false := by simp only [Rc.may, Rc.headBad, Rc.listBad, Rc.phBad, q0, q1, q2, q3, q4, q5, q6]; rfl
           rw [hm]
           repeat' (first | refine gos1 (jn @t1 (jn @fc (jn @t2 (jn @f1 (jn @f2 (jn @t3 (jn @f3 (jn @t4 (jn @f4 (jn @l1 (jn @l2 (jn @l3 (jn @l4 (jn @l5 (jn @l6 (jn @l7 (jn @l8 (jn @l9 (jn @e8 (jn @w1 (jn @w2 (jn @q0 (jn @q1 (jn @q2 (jn @q3 (jn @q4 (jn @q5 @q6))))))))))))))))))))))))))) ?_ | (refine ops_here ?_; (fail_if_success (refine ops_case (B := true) rfl rfl rfl ?_ ?_)); (fail_if_success (refine ops_case (B := false) rfl rfl rfl ?_ ?_)); refine ops_case rfl rfl rfl (fun hB => ?_) (fun hB => ?_) <;> rw [hB]) | (refine runs_here ?_; refine runs_cond rfl (fun hc => ?_) (fun hc => ?_) <;> first | (cases hc; done) | skip))
           exact leaves_fin rfl rfl fin_push
          | true =>
           cases q7 : decide (R.groups.length = 0) with
           | true =>
            have hm : R.may = false := by simp only [Rc.may, Rc.headBad, Rc.listBad, Rc.phBad, q0, q1, q2, q3, q4, q5, q6, q7]; rfl
            rw [hm]
            repeat' (first | refine gos1 (jn @t1 (jn @fc (jn @t2 (jn @f1 (jn @f2 (jn @t3 (jn @f3 (jn @t4 (jn @f4 (jn @l1 (jn @l2 (jn @l3 (jn @l4 (jn @l5 (jn @l6 (jn @l7 (jn @l8 (jn @l9 (jn @e8 (jn @w1 (jn @w2 (jn @q0 (jn @q1 (jn @q2 (jn @q3 (jn @q4 (jn @q5 (jn @q6 @q7)))))))))))))))))))))))))))) ?_ | (refine ops_here ?_; (fail_if_success (refine ops_case (B := true) rfl rfl rfl ?_ ?_)); (fail_if_success (refine ops_case (B := false) rfl rfl rfl ?_ ?_)); refine ops_case rfl rfl rfl (fun hB => ?_) (fun hB => ?_) <;> rw [hB]) | (refine runs_here ?_; refine runs_cond rfl (fun hc => ?_) (fun hc => ?_) <;> first | (cases hc; done) | skip))
            exact leaves_fin rfl rfl fin_push
           | false =>
            cases q8 : decide ((R.phases.length : Int) > 16) with
            | true =>
             have hm : R.may = false := by simp only [Rc.may, Rc.headBad, Rc.listBad, Rc.phBad, q0, q1, q2, q3, q4, q5, q6, q7, q8]; rfl
             rw [hm]
             repeat' (first | refine gos1 (jn @t1 (jn @fc (jn @t2 (jn @f1 (jn @f2 (jn @t3 (jn @f3 (jn @t4 (jn @f4 (jn @l1 (jn @l2 (jn @l3 (jn @l4 (jn @l5 (jn @l6 (jn @l7 (jn @l8 (jn @l9 (jn @e8 (jn @w1 (jn @w2 (jn @q0 (jn @q1 (jn @q2 (jn @q3 (jn @q4 (jn @q5 (jn @q6 (jn @q7 @q8))))))))))))))))))))))))))))) ?_ | (refine ops_here ?_; (fail_if_success (refine ops_case (B := true) rfl rfl rfl ?_ ?_)); (fail_if_success (refine ops_case (B := false) rfl rfl rfl ?_ ?_)); refine ops_case rfl rfl rfl (fun hB => ?_) (fun hB => ?_) <;> rw [hB]) | (refine runs_here ?_; refine runs_cond rfl (fun hc => ?_) (fun hc => ?_) <;> first | (cases hc; done) | skip))
             exact leaves_fin rfl rfl fin_push
            | false =>
             cases q9 : R.phases.any phNot with
             | true =>
              have hm : R.may = false := by simp only [Rc.may, Rc.headBad, Rc.listBad, Rc.phBad, q0, q1, q2, q3, q4, q5, q6, q7, q8, q9]; rfl
              rw [hm]
              repeat' (first | refine gos1 (jn @t1 (jn @fc (jn @t2 (jn @f1 (jn @f2 (jn @t3 (jn @f3 (jn @t4 (jn @f4 (jn @l1 (jn @l2 (jn @l3 (jn @l4 (jn @l5 (jn @l6 (jn @l7 (jn @l8 (jn @l9 (jn @e8 (jn @w1 (jn @w2 (jn @q0 (jn @q1 (jn @q2 (jn @q3 (jn @q4 (jn @q5 (jn @q6 (jn @q7 (jn @q8 @q9)))))))))))))))))))))))))))))) ?_ | (refine ops_here ?_; (fail_if_success (refine ops_case (B := true) rfl rfl rfl ?_ ?_)); (fail_if_success (refine ops_case (B := false) rfl rfl rfl ?_ ?_)); refine ops_case rfl rfl rfl (fun hB => ?_) (fun hB => ?_) <;> rw [hB]) | (refine runs_here ?_; refine runs_cond rfl (fun hc => ?_) (fun hc => ?_) <;> first | (cases hc; done) | skip))
              exact leaves_fin rfl rfl fin_push
             | false =>
              cases q10 : R.endsMay with
              | false =>
               have hm : R.may = false := by simp only [Rc.may, Rc.headBad, Rc.listBad, Rc.phBad, q0, q1, q2, q3, q4, q5, q6, q7, q8, q9, q10]; rfl
               rw [hm]
               repeat' (first | refine gos1 (jn @t1 (jn @fc (jn @t2 (jn @f1 (jn @f2 (jn @t3 (jn @f3 (jn @t4 (jn @f4 (jn @l1 (jn @l2 (jn @l3 (jn @l4 (jn @l5 (jn @l6 (jn @l7 (jn @l8 (jn @l9 (jn @e8 (jn @w1 (jn @w2 (jn @q0 (jn @q1 (jn @q2 (jn @q3 (jn @q4 (jn @q5 (jn @q6 (jn @q7 (jn @q8 (jn @q9 @q10))))))))))))))))))))))))))))))) ?_ | (refine ops_here ?_; (fail_if_success (refine ops_case (B := true) rfl rfl rfl ?_ ?_)); (fail_if_success (refine ops_case (B := false) rfl rfl rfl ?_ ?_)); refine ops_case rfl rfl rfl (fun hB => ?_) (fun hB => ?_) <;> rw [hB]) | (refine runs_here ?_; refine runs_cond rfl (fun hc => ?_) (fun hc => ?_) <;> first | (cases hc; done) | skip))
               exact leaves_fin rfl rfl fin_push
              | true =>
               have hm : R.may = true := by simp only [Rc.may, Rc.headBad, Rc.listBad, Rc.phBad, q0, q1, q2, q3, q4, q5, q6, q7, q8, q9, q10]; rfl
               rw [hm]
               repeat' (first | refine gos1 (jn @t1 (jn @fc (jn @t2 (jn @f1 (jn @f2 (jn @t3 (jn @f3 (jn @t4 (jn @f4 (jn @l1 (jn @l2 (jn @l3 (jn @l4 (jn @l5 (jn @l6 (jn @l7 (jn @l8 (jn @l9 (jn @e8 (jn @w1 (jn @w2 (jn @q0 (jn @q1 (jn @q2 (jn @q3 (jn @q4 (jn @q5 (jn @q6 (jn @q7 (jn @q8 (jn @q9 @q10))))))))))))))))))))))))))))))) ?_ | (refine ops_here ?_; (fail_if_success (refine ops_case (B := true) rfl rfl rfl ?_ ?_)); (fail_if_success (refine ops_case (B := false) rfl rfl rfl ?_ ?_)); refine ops_case rfl rfl rfl (fun hB => ?_) (fun hB => ?_) <;> rw [hB]) | (refine runs_here ?_; refine runs_cond rfl (fun hc => ?_) (fun hc => ?_) <;> first | (cases hc; done) | skip))
               exact leaves_fin rfl rfl fin_push
   ·cases h
  ·cases h
 ·cases h
end
section
attribute [local irreducible] Next Inside Runs Ops table
/-! ### one list that grows, and variables beside it -/
def GrowsA (m : Mem) (g : Grow) (m' : Mem) : Prop := ∃ m1, Grows m g m1 ∧ Above m1 m'
theorem growsA_full {m : Mem} : GrowsA m .full m := ⟨m, grows_full, above_self m⟩
theorem growsA_push {m m' : Mem} {g : Grow} {cs : List AV} (h : GrowsA m g m') : GrowsA m g (m'.push cs) :=
 let ⟨m1, h1, h2⟩ := h; ⟨m1, h1, above_push h2⟩
theorem growsA_fin {m m' : Mem} {g : Grow} (h : GrowsA m g m') : finMem m m' = m := by
 obtain ⟨m1, h1, L, rfl⟩ := h
 rcases h1 with ⟨_, rfl⟩ | ⟨v, _, rfl⟩
 ·exact above_fin ⟨L, rfl⟩
 ·unfold finMem Mem.tk
  rw [if_pos (by simp)]
  simp
theorem app_growsA {P : Program} {m : Mem} {t t2 : TypeId} {k : Nat} (ha : appB P t t2 k = true) {g : Grow} {m' : Mem} (hG : GrowsA m g m') {y : AV} {g2 : Grow} {xs ys : List (List AV)} (hy : asList k y = some (g2, ys)) (hl : xs.length + ys.length ≤ lim) :
  ∃ g' m'', evAppend P t t2 m' (.lst g k xs) y = some (.lst g' k (xs ++ ys), m'') ∧ GrowsA m g' m'' := by
 obtain ⟨m1, h1, L, rfl⟩ := hG
 rcases h1 with ⟨rfl, rfl⟩ | ⟨v, rfl, rfl⟩
 ·refine ⟨_, _, app_of ha asList_lst hy hl, m1.tk [0], grows_tok, L, rfl⟩
 ·refine ⟨_, { vars := m.vars ++ L, toks := m.toks ++ [v + 1] }, ?_, m.tk [v + 1], grows_tok, L, rfl⟩
  rw [app_of ha asList_lst hy hl]
  have h : ({ vars := (m.tk [v]).vars ++ L, toks := (m.tk [v]).toks } : Mem).toks[m.toks.length]? = some v := by simp [Mem.tk]
  simp only [h, if_true]
  simp [Mem.tk, List.set_append]
theorem app_strA {P : Program} {m : Mem} {t t2 : TypeId} (ha : appB P t t2 1 = true) {g g2 : Grow} {m' : Mem} (hG : GrowsA m g m') (xs : List ByteArray) (y : ByteArray) (hl : xs.length + 1 ≤ lim) :
  ∃ g' m'', evAppend P t t2 m' (.lst g 1 (rowsS xs)) (.lst g2 1 [[.v (.string y)]]) = some (.lst g' 1 (rowsS (xs ++ [y])), m'') ∧ GrowsA m g' m'' := by
 rw [← rowsS_app]
 exact app_growsA ha hG asList_lst (by rw [rowsS_len]; exact hl)
end
end Go.Proofs.YtojaokhkbmiidaaGreat.Ev
