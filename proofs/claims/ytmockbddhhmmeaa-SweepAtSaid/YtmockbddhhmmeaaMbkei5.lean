/- A document's variant. -/
import Derived.Test.YtmockbddhhmmeaaMbkei4
import Derived.Test.YtmockbddhhmmeaaMa7
import Derived.Test.YtmockbddhhmmeaaMbkei3
namespace Go.Proofs.Ytmockbddhhmmeaa.Ev
open Go Go.Proofs
set_option maxRecDepth 10000
set_option maxHeartbeats 8000000
set_option linter.unusedVariables false
set_option linter.unusedSimpArgs false
noncomputable section
attribute [local irreducible] Next Inside Runs Ops table
attribute [local irreducible] XRuns XOps XLin
attribute [local go_sem] szStr szInt Option.getD_some isNil evStr iv loadStr loadInt mapRc cellsRc newRc zrRc zoRc znRc mapPl cellsPl newPl zrPl zoPl znPl mapAx cellsAx newAx zrAx zoAx znAx ldAx mapNd cellsNd newNd zrNd zoNd znNd fpRcPhases fpAxAt fpAxVals fpPlPhase fpPlSet fpPlNode fpPlField rowsAx_len
def FzT (F : Objs) (r r' : AV) : Prop := Fz F r r' ∨ ∃ a b a' b', r = .tup [a, b] ∧ r' = .tup [a', b'] ∧ Fz F a a' ∧ Fz F b b'
theorem fzT_rep {φ : Phi} {m : Mem} {w w₀ : World} {F : Objs} (hF : ObjsIn φ m w₀ w F) {a a' : AV} (h : FzT F a a') {x : Value} (hx : Rep φ m w a x) : Rep (restPhi φ F) m w a' x := by
 rcases h with h | ⟨a1, a2, b1, b2, rfl, rfl, h1, h2⟩
 ·exact fz_rep hF h hx
 ·cases hx with
  | tup _ arr hn hr =>
   refine .tup _ arr (by rw [hn]; rfl) fun i a u e1 e2 => ?_
   match i, e1 with
   | 0, e1 => cases e1; exact fz_rep hF h1 (hr 0 a1 u rfl e2)
   | 1, e1 => cases e1; exact fz_rep hF h2 (hr 1 a2 u rfl e2)
theorem fun_of_F {P : Program} {f : FuncId} {g : List AV → Mem → Option (AV × Mem)} {Pre : List AV → Mem → Prop} {Post : List AV → Mem → AV → Mem → Objs → Prop} (hF : FunOkF P f Pre Post)
  (h : ∀ args m r m', g args m = some (r, m') → Pre args m ∧ ∀ r1 m1 F, Post args m r1 m1 F → m1 = m' ∧ FzT F r1 r) : FunOk P f g := by
 intro args m r m' hg
 obtain ⟨h1, h2⟩ := h args m r m' hg
 obtain ⟨h3, h4⟩ := hF args m h1
 refine ⟨h3, fun φ w vals hR hA => (h4 φ w vals hR hA).mono fun e w' hh => ?_⟩
 obtain ⟨x, φ', r1, m1, F, e1, e2, e3, e4, e5, e6⟩ := hh
 obtain ⟨rfl, hz⟩ := h2 _ _ _ e6
 exact ⟨x, restPhi φ' F, e1, rest_rm e2 e5, rest_ext e3 e5, fzT_rep e5 hz e4⟩
def encP (p : Pl) : Value := .agg #[.int .i64 p.phase, .int .i64 p.set, .int .i64 p.node, .int .i64 p.field]
theorem plKey : KeyOk Try.prog 50 Pl encP where
 ck em k w := by kernel_rfl
 eq a b w := by
  have h : eqTy Try.prog 8 50 (.agg a.row) (.agg b.row) = some ((a.phase == b.phase) && ((a.set == b.set) && ((a.node == b.node) && ((a.field == b.field) && true)))) := by kernel_rfl
  have rep : ∀ c : Pl, Rep (phiW w) ⟨[], []⟩ w (.agg c.row) (encP c) := fun c => .agg _ _ rfl fun i x u e1 e2 => by
   match i, e1, e2 with
   | 0, e1, e2 => cases e1; cases e2; exact .v _
   | 1, e1, e2 => cases e1; cases e2; exact .v _
   | 2, e1, e2 => cases e1; cases e2; exact .v _
   | 3, e1, e2 => cases e1; cases e2; exact .v _
   | i + 4, e1, e2 => simp [Pl.row] at e1
  have := eqTy_sound (φ := phiW w) (m := ⟨[], []⟩) (w := w) 9992 8 _ _ _ _ _ _ h (rep a) (rep b)
  have e : ((a.phase == b.phase) && ((a.set == b.set) && ((a.node == b.node) && ((a.field == b.field) && true)))) = decide (a = b) := by
   rw [Bool.and_true, Bool.eq_iff_iff]
   obtain ⟨a1, a2, a3, a4⟩ := a
   obtain ⟨b1, b2, b3, b4⟩ := b
   simp
  rw [e] at this
  exact this
 wide := by kernel_rfl
 stay k := by
  obtain ⟨a, b, c, d⟩ := k
  simp [encP, Instr.sameBits]
theorem plMap : Try.prog.underlying 72 = some (.map 50 3) := by kernel_rfl
theorem mk0Rc : evBuild Try.prog 37 [] = some (.agg zeroRc) := by kernel_rfl
attribute [local go_sem] mk0Rc
theorem res0 {n : Nat} {m : Mem} : resAV n m (.agg zeroRc) = some (.agg rc0.row) := rfl
theorem seen_less {n i : Nat} {seen : List Nat} (hi : i < n) (h : i ∉ seen) : ((List.range n).filter fun x => !(seen ++ [i]).contains x).length < ((List.range n).filter fun x => !seen.contains x).length := by
 have e : ((List.range n).filter fun x => !(seen ++ [i]).contains x) = ((List.range n).filter fun x => !seen.contains x).filter fun x => x != i := by
  rw [List.filter_filter]
  congr 1
  funext x
  have : (seen ++ [i]).contains x = (seen.contains x || x == i) := by
   rw [List.contains_append]
   show (seen.contains x || List.elem x [i]) = _
   rw [List.elem_cons]
   cases x == i <;> rfl
  rw [this]
  cases seen.contains x <;> cases hx : (x == i) <;> simp_all
 rw [e, List.length_filter_lt_length_iff_exists]
 exact ⟨i, List.mem_filter.2 ⟨List.mem_range.2 hi, by simpa using h⟩, by simp⟩
theorem part_cell0 {P : Program} {t : TypeId} {k j : Nat} (ha : tAgg P t = some false) (hs : tSize P t = some 1) (z : List AV) {rows : List (List AV)} {i : Nat} {a : AV} (hr : ∀ r ∈ rows, r.length = k) (hi : i < rows.length) (hj : j < k) (h : (rows.getD i [])[j]? = some a) : evPart P t (rows.flatten ++ z) (0 + i * k + j) = some a := by
 rw [Nat.zero_add]
 exact part_cell ha hs z hr hi hj h
theorem aggSl1 : tAgg Try.prog 64 = some false := by kernel_rfl
theorem aggSl2 : tAgg Try.prog 67 = some false := by kernel_rfl
theorem there_nat {R : Rc} {p : Pl} (h : thereB R p = true) : ∃ a b d : Nat, p.phase = a ∧ p.set = b ∧ p.node = d ∧ a < R.phases.length ∧ b < (setsOf R.phases a).length ∧ d < (nodesOf R.phases a b).length ∧ 0 ≤ p.field ∧ p.field ≤ 2 := by
 unfold thereB here1 here2 inB at h
 simp only [Bool.and_eq_true, decide_eq_true_eq] at h
 obtain ⟨⟨h1, h2⟩, h3, h4⟩ := h
 obtain ⟨a, ha⟩ := Int.eq_ofNat_of_zero_le h1.1
 obtain ⟨b, hb⟩ := Int.eq_ofNat_of_zero_le h3.1
 obtain ⟨d, hd⟩ := Int.eq_ofNat_of_zero_le h4.1
 have e1 : setsAt R p = setsOf R.phases a := by unfold setsAt setsOf; rw [ha, Int.toNat_natCast]
 have e2 : nodesAt R p = nodesOf R.phases a b := by unfold nodesAt nodesOf; rw [e1, hb, Int.toNat_natCast]
 rw [e1] at h3
 rw [e2] at h4
 exact ⟨a, b, d, ha, hb, hd, by omega, by omega, by omega, h2⟩
theorem zsNd8 {m : Mem} {x : Nd} : evStore Try.prog (m.push zeroNd) 71 (.ptr m.vars.length 0) (.agg x.row) = some (m.push x.row) := by
 rw [store_push (cs := x.row) rfl szNode (Nat.le_refl _) rfl]
 rfl
theorem vr0 {m : Mem} {r : Nat} (hv : m.var r = some zeroRc) : evLoad Try.prog m 37 (.ptr r 0) = some (.agg zeroRc) := by
 unfold evLoad
 simp only [ptrCells, hv, Option.map_some, szRc, agRc]
 rfl
def atV (R : Rc) (l : List Ax) (n : Int) : Rc × Int :=
 if (choiceV l n).2 ≠ 0 then (rc0, (choiceV l n).2) else if l.all (fun x => thereB R x.pl) = false then (rc0, 8) else ({ R with phases := docS (lastV l (choiceV l n).1 l.length) R.phases }, 0)
def atG : List AV → Mem → Option (AV × Mem)
 | [.agg cs, .lst _ 5 rows, .v (.int .i64 n)], m =>
  match unRc cs, unsAx rows with
  | some R, some l => if R.small ∧ axOk l then some (.tup [.agg (atV R l n).1.row, .v (.int .i64 (atV R l n).2)], m) else none
  | _, _ => none
 | _, _ => none
def atPre (args : List AV) (_ : Mem) : Prop := ∃ (R : Rc) (g : Grow) (l : List Ax) (n : Int), args = [.agg R.row, .lst g 5 (rowsAx l), .v (.int .i64 n)] ∧ R.small ∧ axOk l
def atPost (args : List AV) (m : Mem) (r : AV) (m' : Mem) (F : Objs) : Prop := ∀ (R : Rc) (g : Grow) (l : List Ax) (n : Int), args = [.agg R.row, .lst g 5 (rowsAx l), .v (.int .i64 n)] →
 m' = m ∧ FzT F r (.tup [.agg (atV R l n).1.row, .v (.int .i64 (atV R l n).2)])
theorem post_of {R : Rc} {g : Grow} {l : List Ax} {n : Int} {m m' : Mem} {r : AV} {F : Objs} (h : m' = m ∧ FzT F r (.tup [.agg (atV R l n).1.row, .v (.int .i64 (atV R l n).2)])) : atPost [.agg R.row, .lst g 5 (rowsAx l), .v (.int .i64 n)] m r m' F := by
 intro R2 g2 l2 n2 e
 obtain rfl : R = R2 := by
  injection e with e _
  injection e with e
  have := congrArg unRc e
  rw [unRc_row, unRc_row] at this
  injection this
 obtain rfl : l = l2 := by
  injection e with _ e
  injection e with e _
  injection e with _ _ e
  have := congrArg unsAx e
  rw [unsAx_rowsAx, unsAx_rowsAx] at this
  injection this
 obtain rfl : n = n2 := by
  injection e with _ e
  injection e with _ e
  injection e with e _
  injection e with e
  injection e
 exact h
def tabAt : List (FuncId × (List AV → Mem → Option (AV × Mem))) := [(17, choiceG), (20, nodeG), (22, putG)]
def kpAt : Nat → Option (List Nat) := fun
 | 0 => some [1, 2, 3, 6]
 | 1 => some [1, 3, 6, 8, 9]
 | 2 => some [1, 3, 6, 8, 9, 26]
 | 3 => some [6, 7]
 | 4 => some [1, 3, 6, 8, 10]
 | 5 => some [3, 6, 8, 10, 30, 31, 32]
 | 6 => some [3, 6, 8, 10, 30, 31, 32, 33]
 | 7 => some [3, 6, 8, 10, 11, 12, 30, 31, 32]
 | 8 => some [3, 6, 8, 10, 11, 12, 14, 30, 31, 32]
 | 9 => some [3, 6, 8, 10, 11, 12, 30, 31, 32, 45]
 | 10 => some [6, 7]
 | 11 => some [3, 6, 8, 10, 30, 31, 32]
 | 12 => some [3, 6, 8, 10, 30, 31, 32]
 | 13 => some [6, 10, 15]
 | 14 => some [6, 15, 62]
 | 15 => some [6, 15, 62, 64]
 | 16 => some [6, 15, 16, 17, 62]
 | 17 => some [6, 15, 16, 17, 18, 62]
 | 18 => some [6, 15, 62]
 | 19 => some [6, 7]
 | _ => none
attribute [go_sem] kpAt
theorem atF_ok : FunOkF Try.prog 8 atPre atPost := by
 have hC := table_ok (P := Try.prog) (l := tabAt) (table_more choice_ok (table_more node_ok (table_more put_ok table_nil)))
 have t1 := fun args mm => table_at (l := tabAt) (f := 17) (args := args) (m := mm) rfl
 have t2 := fun args mm => table_at (l := tabAt) (f := 20) (args := args) (m := mm) rfl
 have t3 := fun args mm => table_at (l := tabAt) (f := 22) (args := args) (m := mm) rfl
 refine fun_okF Try.func8 rfl rfl fun args m h => ?_
 obtain ⟨R, g, l, n, rfl, hsm, hax⟩ := h
 refine ⟨Nat.le_of_ble_eq_true rfl, fun φ w => ?_⟩
 refine en ?_
 have hlens : R.lens := by
  have hb : (1000000 : Nat) ≤ big40 := by decide
  exact ⟨Nat.le_trans hsm.1 hb, fun p hp => ⟨Nat.le_trans (hsm.2 p hp).1 hb, fun s hs => Nat.le_trans ((hsm.2 p hp).2 s hs) hb⟩⟩
 have f1 := fun mm => choiceG_eq (g := .no) (n := n) (m := mm) hax
 repeat (first | refine x_seq ?_ | refine x_block ?_ | refine xn_normal ?_ | refine xi_normal ?_ | refine xn_exit ?_ | refine xi_exit ?_ | refine xi_other (by decide) ?_ | refine xn_ret ?_ | refine xi_ret ?_ | refine x_skip ?_ | refine x_exit ?_ | refine x_ret ?_)
 refine x_region (kp := kpAt) mixed hC ?_
 refine go0 ?_
 repeat (first | refine x_seq ?_ | refine x_block ?_ | refine xn_normal ?_ | refine xi_normal ?_ | refine xn_exit ?_ | refine xi_exit ?_ | refine xi_other (by decide) ?_ | refine xn_ret ?_ | refine xi_ret ?_ | refine x_skip ?_ | refine x_exit ?_ | refine x_ret ?_)
 have v1 : ((m.push R.row).push zeroRc).var m.vars.length = some R.row := push_old push_var
 have v2 : ((m.push R.row).push zeroRc).var (m.push R.row).vars.length = some zeroRc := push_var
 have hA : Above m ((m.push R.row).push zeroRc) := above_push (above_push (above_self m))
 have hge : m.vars.length ≤ (m.push R.row).vars.length := by rw [show (m.push R.row).vars.length = m.vars.length + 1 by simp [Mem.push]]; omega
 generalize (m.push R.row).push zeroRc = m1 at v1 v2 hA
 generalize (m.push R.row).vars.length = q at v2 hge
 have hcS : (choiceV l n).2 = 0 → (choiceV l n).1.length = l.length ∧ ∀ i, i < l.length → 0 ≤ (choiceV l n).1.getD i 0 ∧ (choiceV l n).1.getD i 0 < (((l.getD i ax0).vals.length : Nat) : Int) := by
  intro h
  unfold choiceV at h ⊢
  by_cases h1 : (countV l).2 ≠ 0
  ·rw [if_pos h1] at h; exact absurd h h1
  ·rw [if_neg h1] at h ⊢
   split at h
   ·rename_i h2
    rw [if_pos h2]
    refine ⟨choiceL_len l _, fun i hi => ?_⟩
    have hb := (good_lens (count_ok0 (Decidable.not_not.1 h1)).1).2 _ (List.mem_map.2 ⟨_, getD_in (d := ax0) hi, rfl⟩)
    have := Nat.mod_lt (n.toNat / prodL ((lensA l).drop (i + 1))) (show 0 < (l.getD i ax0).vals.length from hb.1)
    rw [choiceL_get hi]
    omega
   ·cases h
 have hAt : ∀ s, (choiceV l n).2 = s → s ≠ 0 → atV R l n = (rc0, s) := fun s h1 h2 => by unfold atV; rw [h1, if_pos h2]
 have hAt2 : (choiceV l n).2 = 0 → ∀ i, i < l.length → thereB R (l.getD i ax0).pl = false → atV R l n = (rc0, 8) := fun h1 i hi h2 => by
  unfold atV
  rw [if_neg (by rw [h1]; simp), if_pos]
  rw [List.all_eq_false]
  exact ⟨_, getD_in hi, by rw [h2]; simp⟩
 have hAt3 : (choiceV l n).2 = 0 → (∀ i, i < l.length → thereB R (l.getD i ax0).pl = true) → atV R l n = ({ R with phases := docS (lastV l (choiceV l n).1 l.length) R.phases }, 0) := fun h1 h2 => by
  unfold atV
  rw [if_neg (by rw [h1]; simp), if_neg]
  rw [Bool.not_eq_false, List.all_eq_true]
  intro x hx
  obtain ⟨i, hi⟩ := List.getElem?_of_mem hx
  have hi2 := (List.getElem?_eq_some_iff.1 hi).1
  have := h2 i hi2
  rwa [List.getD, hi] at this
 generalize hcs : (choiceV l n).2 = s at f1 hcS hAt hAt2 hAt3
 generalize hc1 : (choiceV l n).1 = c at f1 hcS hAt3
 refine x_region (kp := kpAt) mixed hC ?_
 refine go1 (jn @t1 @f1) ?_
 repeat (first | refine x_seq ?_ | refine x_block ?_ | refine xn_normal ?_ | refine xi_normal ?_ | refine xn_exit ?_ | refine xi_exit ?_ | refine xi_other (by decide) ?_ | refine xn_ret ?_ | refine xi_ret ?_ | refine x_skip ?_ | refine x_exit ?_ | refine x_ret ?_)
 refine x_region (kp := kpAt) mixed hC ?_
 refine go0 ?_
 repeat (first | refine x_seq ?_ | refine x_block ?_ | refine xn_normal ?_ | refine xi_normal ?_ | refine xn_exit ?_ | refine xi_exit ?_ | refine xi_other (by decide) ?_ | refine xn_ret ?_ | refine xi_ret ?_ | refine x_skip ?_ | refine x_exit ?_ | refine x_ret ?_)
 refine x_cond rfl (fun hc => ?_) (fun hc => ?_)
 ·have hs0 : s ≠ 0 := by simpa using hc
  have st2 : evStore Try.prog m1 37 (.ptr q 0) (.agg zeroRc) = some (setv m1 q zeroRc) := store_whole v2 rfl rfl szRc rfl rfl
  have y1 : (setv m1 q zeroRc).var q = some zeroRc := setv_var v2
  have hA9 := above_setv (cs := zeroRc) hA hge
  repeat (first | refine x_seq ?_ | refine x_block ?_ | refine xn_normal ?_ | refine xi_normal ?_ | refine xn_exit ?_ | refine xi_exit ?_ | refine xi_other (by decide) ?_ | refine xn_ret ?_ | refine xi_ret ?_ | refine x_skip ?_ | refine x_exit ?_ | refine x_ret ?_)
  refine x_region (kp := kpAt) mixed hC ?_
  refine go1 @st2 ?_
  repeat (first | refine x_seq ?_ | refine x_block ?_ | refine xn_normal ?_ | refine xi_normal ?_ | refine xn_exit ?_ | refine xi_exit ?_ | refine xi_other (by decide) ?_ | refine xn_ret ?_ | refine xi_ret ?_ | refine x_skip ?_ | refine x_exit ?_ | refine x_ret ?_)
  exact ⟨_, _, leaves_cell rfl (vr0 y1) res0 rfl (above_fin hA9), post_of ⟨rfl, .inl (by rw [hAt s rfl hs0]; exact .same _)⟩⟩
 ·have hs0 : s = 0 := by simpa using hc
  subst hs0
  obtain ⟨hcl, hch⟩ := hcS rfl
  have hlen : l.length ≤ 12 := hax.1
  repeat (first | refine x_seq ?_ | refine x_block ?_ | refine xn_normal ?_ | refine xi_normal ?_ | refine xn_exit ?_ | refine xi_exit ?_ | refine xi_other (by decide) ?_ | refine xn_ret ?_ | refine xi_ret ?_ | refine x_skip ?_ | refine x_exit ?_ | refine x_ret ?_)
  refine x_ops (l2 := kpAt 4) ?_
  refine gox0 hC ?_
  refine xops_step (xs_makeMap (enc := encP) rfl rfl (by decide) rfl fun bm hbm => ?_)
  refine gox0 hC ?_
  repeat (first | refine x_seq ?_ | refine x_block ?_ | refine xn_normal ?_ | refine xi_normal ?_ | refine xn_exit ?_ | refine xi_exit ?_ | refine xi_other (by decide) ?_ | refine xn_ret ?_ | refine xi_ret ?_ | refine x_skip ?_ | refine x_exit ?_ | refine x_ret ?_)
  refine x_region (kp := kpAt) mixed hC ?_
  refine go0 ?_
  repeat (first | refine x_seq ?_ | refine x_block ?_ | refine xn_normal ?_ | refine xi_normal ?_ | refine xn_exit ?_ | refine xi_exit ?_ | refine xi_other (by decide) ?_ | refine xn_ret ?_ | refine xi_ret ?_ | refine x_skip ?_ | refine x_exit ?_ | refine x_ret ?_)
  refine x_loop (fun k e m' F => ∃ (i : Nat), i ≤ l.length ∧ (∀ a, a < i → thereB R (l.getD a ax0).pl = true) ∧ Above m m' ∧ m'.var m.vars.length = some R.row ∧ m'.var q = some zeroRc ∧ F = [(bm, mapOb encP (mapTo l c i))] ∧ k = l.length - i ∧
   e = [(3, AV.ptr m.vars.length 0), (6, .ptr q 0), (8, .lst .no 1 (rowsI c)), (10, .v (.map (some bm))), (30, .lst g 5 (rowsAx l)), (31, .v (.int .i64 (l.length : Int))), (32, .v (.int .i64 (i : Int)))]) (k := l.length) ⟨0, Nat.zero_le _, fun a h => by omega, hA, v1, v2, rfl, rfl, rfl⟩ ?_
  clear v1 v2 hA hbm
  rintro k e m' F ⟨i, hi0, hth, hA, v1, v2, rfl, rfl, rfl⟩
  repeat (first | refine x_seq ?_ | refine x_block ?_ | refine xn_normal ?_ | refine xi_normal ?_ | refine xn_exit ?_ | refine xi_exit ?_ | refine xi_other (by decide) ?_ | refine xn_ret ?_ | refine xi_ret ?_ | refine x_skip ?_ | refine x_exit ?_ | refine x_ret ?_)
  refine x_region (kp := kpAt) mixed hC ?_
  refine go0 ?_
  repeat (first | refine x_seq ?_ | refine x_block ?_ | refine xn_normal ?_ | refine xi_normal ?_ | refine xn_exit ?_ | refine xi_exit ?_ | refine xi_other (by decide) ?_ | refine xn_ret ?_ | refine xi_ret ?_ | refine x_skip ?_ | refine x_exit ?_ | refine x_ret ?_)
  refine x_cond rfl (fun hc => ?_) (fun hc => ?_)
  ·have hi1 : i < l.length := by have := of_decide_eq_true hc; omega
   have f3 := atAx (g := g) (kk := .i64) hi1
   have f4 := atInts (g := .no) (kk := .i64) (l := c) (i := i) (by omega)
   obtain ⟨hc0, hc9⟩ := hch i hi1
   have hth1 := hAt2 rfl i hi1
   have hM : mapTo l c (i + 1) = putK (l.getD i ax0).pl (.int .i64 (valC l c i)) (mapTo l c i) := rfl
   have hV : valC l c i = (l.getD i ax0).vals.getD (c.getD i 0).toNat 0 := rfl
   have hTh : ∀ a, a < i + 1 → thereB R (l.getD i ax0).pl = true → thereB R (l.getD a ax0).pl = true := fun a h1 h2 => by
    by_cases e : a = i
    ·rw [e]; exact h2
    ·exact hth a (by omega)
   generalize valC l c i = v at hM hV
   generalize l.getD i ax0 = x at f3 hc9 hth1 hM hV hTh
   have r6 := next_i64 (i := i) (by omega)
   have zs : evStore Try.prog (m'.push zeroAx) 53 (.ptr m'.vars.length 0) (.agg x.row) = some (m'.push x.row) := zsAx
   repeat (first | refine x_seq ?_ | refine x_block ?_ | refine xn_normal ?_ | refine xi_normal ?_ | refine xn_exit ?_ | refine xi_exit ?_ | refine xi_other (by decide) ?_ | refine xn_ret ?_ | refine xi_ret ?_ | refine x_skip ?_ | refine x_exit ?_ | refine x_ret ?_)
   refine x_region (kp := kpAt) mixed hC ?_
   refine go1 (jn @f3 @zs) ?_
   have x1 : (m'.push x.row).var m'.vars.length = some x.row := push_var
   have v1 := push_old (cs' := x.row) v1
   have v2 := push_old (cs' := x.row) v2
   have hA := above_push (cs := x.row) hA
   generalize m'.push x.row = m2 at x1 v1 v2 hA
   generalize m'.vars.length = rx at x1
   have p1 : evLoad Try.prog m2 50 (.ptr rx 0) = some (.agg [.v (.int .i64 x.atPhase), .v (.int .i64 x.atSet), .v (.int .i64 x.atNode), .v (.int .i64 x.atField)]) := lpAxAt x1
   have l1 := vrRc v1
   have n1 : ∀ mm, nodeG [.agg R.row, .agg [.v (.int .i64 x.atPhase), .v (.int .i64 x.atSet), .v (.int .i64 x.atNode), .v (.int .i64 x.atField)]] mm = some (.tup [.agg (if thereB R x.pl then nodeV R x.pl else nd0).row, .v (.bool (thereB R x.pl))], mm) := fun mm => nodeG_eq (p := x.pl) hlens
   generalize (if thereB R x.pl then nodeV R x.pl else nd0) = nd at n1
   have zs2 : evStore Try.prog (m2.push zeroNd) 71 (.ptr m2.vars.length 0) (.agg nd.row) = some (m2.push nd.row) := zsNd8
   repeat (first | refine x_seq ?_ | refine x_block ?_ | refine xn_normal ?_ | refine xi_normal ?_ | refine xn_exit ?_ | refine xi_exit ?_ | refine xi_other (by decide) ?_ | refine xn_ret ?_ | refine xi_ret ?_ | refine x_skip ?_ | refine x_exit ?_ | refine x_ret ?_)
   refine x_region (kp := kpAt) mixed hC ?_
   refine go1 (jn @l1 (jn @p1 (jn @t2 (jn @n1 @zs2)))) ?_
   have x1 := push_old (cs' := nd.row) x1
   have v1 := push_old (cs' := nd.row) v1
   have v2 := push_old (cs' := nd.row) v2
   have hA := above_push (cs := nd.row) hA
   generalize m2.push nd.row = m3 at x1 v1 v2 hA
   repeat (first | refine x_seq ?_ | refine x_block ?_ | refine xn_normal ?_ | refine xi_normal ?_ | refine xn_exit ?_ | refine xi_exit ?_ | refine xi_other (by decide) ?_ | refine xn_ret ?_ | refine xi_ret ?_ | refine x_skip ?_ | refine x_exit ?_ | refine x_ret ?_)
   refine x_region (kp := kpAt) mixed hC ?_
   refine go0 ?_
   repeat (first | refine x_seq ?_ | refine x_block ?_ | refine xn_normal ?_ | refine xi_normal ?_ | refine xn_exit ?_ | refine xi_exit ?_ | refine xi_other (by decide) ?_ | refine xn_ret ?_ | refine xi_ret ?_ | refine x_skip ?_ | refine x_exit ?_ | refine x_ret ?_)
   refine x_cond rfl (fun hc => ?_) (fun hc => ?_)
   ·have hb : thereB R x.pl = false := by simpa using hc
    have st2 : evStore Try.prog m3 37 (.ptr q 0) (.agg zeroRc) = some (setv m3 q zeroRc) := store_whole v2 rfl rfl szRc rfl rfl
    have y1 : (setv m3 q zeroRc).var q = some zeroRc := setv_var v2
    have hA9 := above_setv (cs := zeroRc) hA hge
    repeat (first | refine x_seq ?_ | refine x_block ?_ | refine xn_normal ?_ | refine xi_normal ?_ | refine xn_exit ?_ | refine xi_exit ?_ | refine xi_other (by decide) ?_ | refine xn_ret ?_ | refine xi_ret ?_ | refine x_skip ?_ | refine x_exit ?_ | refine x_ret ?_)
    refine x_region (kp := kpAt) mixed hC ?_
    refine go1 @st2 ?_
    repeat (first | refine x_seq ?_ | refine x_block ?_ | refine xn_normal ?_ | refine xi_normal ?_ | refine xn_exit ?_ | refine xi_exit ?_ | refine xi_other (by decide) ?_ | refine xn_ret ?_ | refine xi_ret ?_ | refine x_skip ?_ | refine x_exit ?_ | refine x_ret ?_)
    exact ⟨_, _, leaves_cell rfl (vr0 y1) res0 rfl (above_fin hA9), post_of ⟨rfl, .inl (by rw [hth1 hb]; exact .same _)⟩⟩
   ·have hb : thereB R x.pl = true := by simpa using hc
    obtain ⟨j, hj⟩ := Int.eq_ofNat_of_zero_le hc0
    have f5 := atInts (g := .no) (kk := .i64) (l := x.vals) (i := j) (by omega)
    rw [hj, Int.toNat_natCast] at hV
    rw [hj] at f4
    rw [← hV] at f5
    have p1 : evLoad Try.prog m3 50 (.ptr rx 0) = some (.agg [.v (.int .i64 x.atPhase), .v (.int .i64 x.atSet), .v (.int .i64 x.atNode), .v (.int .i64 x.atField)]) := lpAxAt x1
    have p2 := lpAxVals x1
    have hthN : ∀ a, a < i + 1 → thereB R (l.getD a ax0).pl = true := fun a ha => hTh a ha hb
    repeat (first | refine x_seq ?_ | refine x_block ?_ | refine xn_normal ?_ | refine xi_normal ?_ | refine xn_exit ?_ | refine xi_exit ?_ | refine xi_other (by decide) ?_ | refine xn_ret ?_ | refine xi_ret ?_ | refine x_skip ?_ | refine x_exit ?_ | refine x_ret ?_)
    refine x_drawnX mixed (l2 := kpAt 11) (by kernel_rfl) (by kernel_rfl) ?_
    refine goxl1 hC (jn @p1 (jn @p2 (jn @f4 @f5))) ?_
    refine xl_last (m1 := m3) rfl (xra_update (t := 0) (t2 := 0) plKey plMap (List.mem_cons_self ..) x.pl rfl rfl rfl rfl rfl) rfl ?_
    intro e2 h2
    simp only [go_sem, reduceIte, Nat.reduceEqDiff] at h2
    subst h2
    repeat (first | refine x_seq ?_ | refine x_block ?_ | refine xn_normal ?_ | refine xi_normal ?_ | refine xn_exit ?_ | refine xi_exit ?_ | refine xi_other (by decide) ?_ | refine xn_ret ?_ | refine xi_ret ?_ | refine x_skip ?_ | refine x_exit ?_ | refine x_ret ?_)
    refine x_region (kp := kpAt) mixed hC ?_
    refine go1 @r6 ?_
    repeat (first | refine x_seq ?_ | refine x_block ?_ | refine xn_normal ?_ | refine xi_normal ?_ | refine xn_exit ?_ | refine xi_exit ?_ | refine xi_other (by decide) ?_ | refine xn_ret ?_ | refine xi_ret ?_ | refine x_skip ?_ | refine x_exit ?_ | refine x_ret ?_)
    exact ⟨l.length - (i + 1), by omega, i + 1, hi1, hthN, hA, v1, v2, by rw [hM]; simp only [setObjs, List.map_cons, List.map_nil, if_true], rfl, rfl⟩
  ·obtain rfl : i = l.length := by have := of_decide_eq_false hc; omega
   have hres := hAt3 rfl hth
   have l1 := vrRc v1
   repeat (first | refine x_seq ?_ | refine x_block ?_ | refine xn_normal ?_ | refine xi_normal ?_ | refine xn_exit ?_ | refine xi_exit ?_ | refine xi_other (by decide) ?_ | refine xn_ret ?_ | refine xi_ret ?_ | refine x_skip ?_ | refine x_exit ?_ | refine x_ret ?_)
   refine x_ops (l2 := kpAt 13) ?_
   refine gox1 hC @l1 ?_
   refine xops_step (xs_callF1 (x := .tmp 59) (av := .agg R.row) copied_ok rfl rfl (by decide) rfl rfl rfl rfl ⟨R, rfl, hsm⟩ fun r m3 F3 hpost hfr => ?_)
   obtain ⟨rfl, A, rfl, hown⟩ := hpost R rfl
   clear hpost l1
   have hpa := hown.arr .top trivial
   have hcw : cellsOf (.agg (R.rowW (A .top))) = some (R.rowW (A .top)) := by rcases hpa with ⟨_, e⟩ | ⟨_, b, c, vs, _, e, _⟩ <;> rw [e] <;> rfl
   have hrw : ∀ q, (R.rowW (A .top)).all (refLe q) = true := fun q => by rcases hpa with ⟨_, e⟩ | ⟨_, b, c, vs, _, e, _⟩ <;> rw [e] <;> rfl
   have zs3 : evStore Try.prog (m3.push zeroRc) 37 (.ptr m3.vars.length 0) (.agg (R.rowW (A .top))) = some (m3.push (R.rowW (A .top))) := by
    rw [store_whole (old := zeroRc) (cs := R.rowW (A .top)) push_var rfl rfl szRc hcw (hrw _), setv_push]
   refine gox1 hC @zs3 ?_
   have v3 : (m3.push (R.rowW (A .top))).var m3.vars.length = some (R.rowW (A .top)) := push_var
   have v2 := push_old (cs' := R.rowW (A .top)) v2
   have hA := above_push (cs := R.rowW (A .top)) hA
   generalize m3.push (R.rowW (A .top)) = m4 at v3 v2 hA
   generalize m3.vars.length = q2 at v3
   have hkm : ∀ x, valid R.phases x → keyOf (A x) ≠ some bm := fun x hx e => by
    obtain ⟨o, ho⟩ := hown.key hx e
    exact hfr _ ho _ (List.mem_cons_self ..) rfl
   have hbM : (bm, mapOb encP (mapTo l c l.length)) ∈ F3 ++ [(bm, mapOb encP (mapTo l c l.length))] := List.mem_append_right _ (List.mem_cons_self ..)
   have hown := hown.wider (F2 := F3 ++ [(bm, mapOb encP (mapTo l c l.length))]) fun p hp => List.mem_append_left _ hp
   generalize F3 ++ [(bm, mapOb encP (mapTo l c l.length))] = F4 at hbM hown
   repeat (first | refine x_seq ?_ | refine x_block ?_ | refine xn_normal ?_ | refine xi_normal ?_ | refine xn_exit ?_ | refine xi_exit ?_ | refine xi_other (by decide) ?_ | refine xn_ret ?_ | refine xi_ret ?_ | refine x_skip ?_ | refine x_exit ?_ | refine x_ret ?_)
   refine x_ops (l2 := kpAt 14) ?_
   refine gox0 hC ?_
   refine xops_step (xs_rangeMap plMap hbM rfl rfl (by decide) rfl rfl fun bi hbi => ?_)
   refine gox0 hC ?_
   have hki : ∀ x, valid R.phases x → keyOf (A x) ≠ some bi := fun x hx e => by
    obtain ⟨o, ho⟩ := hown.key hx e
    exact hbi _ ho rfl
   have hbi2 : bm ≠ bi := hbi _ hbM
   repeat (first | refine x_seq ?_ | refine x_block ?_ | refine xn_normal ?_ | refine xi_normal ?_ | refine xn_exit ?_ | refine xi_exit ?_ | refine xi_other (by decide) ?_ | refine xn_ret ?_ | refine xi_ret ?_ | refine x_skip ?_ | refine x_exit ?_ | refine x_ret ?_)
   refine x_loop (fun k e m' F => ∃ seen : List Nat, Owns F (valid R.phases) ixW A (rowsU A (seenS (mapTo l c l.length) seen.reverse) R.phases) ∧ (bm, mapOb encP (mapTo l c l.length)) ∈ F ∧ (bi, iterOb bm (mapTo l c l.length).length seen) ∈ F ∧
    Above m m' ∧ m'.var q2 = some (R.rowW (A .top)) ∧ m'.var q = some zeroRc ∧ k = ((List.range (mapTo l c l.length).length).filter fun i => !seen.contains i).length ∧
    e = [(6, AV.ptr q 0), (15, .ptr q2 0), (62, .v (rawPtr bi 0))]) (k := (mapTo l c l.length).length)
    ⟨[], (hown.wider fun p hp => List.mem_cons_of_mem _ hp).same (fun _ h => h) (fun _ _ => rfl) (fun y _ => rowsU_none A R.phases y), List.mem_cons_of_mem _ hbM, List.mem_cons_self .., hA, v3, v2, by rw [show ((List.range (mapTo l c l.length).length).filter fun i => !([] : List Nat).contains i) = List.range (mapTo l c l.length).length from List.filter_eq_self.2 fun _ _ => rfl, List.length_range], rfl⟩ ?_
   clear hown hbM hA v3 v2 hpa v1 hfr hbi
   rintro k e m' F ⟨seen, hown, hbM, hbI, hA, v3, v2, rfl, rfl⟩
   repeat (first | refine x_seq ?_ | refine x_block ?_ | refine xn_normal ?_ | refine xi_normal ?_ | refine xn_exit ?_ | refine xi_exit ?_ | refine xi_other (by decide) ?_ | refine xn_ret ?_ | refine xi_ret ?_ | refine x_skip ?_ | refine x_exit ?_ | refine x_ret ?_)
   refine x_ops (l2 := kpAt 15) ?_
   refine xops_step (xs_nextMap (t := 0) hbM hbI rfl rfl (by decide) rfl rfl (fun hall => ?_) fun i hi hns => ?_)
   ·refine gox0 hC ?_
    repeat (first | refine x_seq ?_ | refine x_block ?_ | refine xn_normal ?_ | refine xi_normal ?_ | refine xn_exit ?_ | refine xi_exit ?_ | refine xi_other (by decide) ?_ | refine xn_ret ?_ | refine xi_ret ?_ | refine x_skip ?_ | refine x_exit ?_ | refine x_ret ?_)
    refine x_cond rfl (fun hc => by cases hc) (fun hc => ?_)
    have hpa := hown.arr .top trivial
    have hcw : cellsOf (.agg (R.rowW (A .top))) = some (R.rowW (A .top)) := by rcases hpa with ⟨_, e⟩ | ⟨_, b, c, vs, _, e, _⟩ <;> rw [e] <;> rfl
    have hrw : ∀ q, (R.rowW (A .top)).all (refLe q) = true := fun q => by rcases hpa with ⟨_, e⟩ | ⟨_, b, c, vs, _, e, _⟩ <;> rw [e] <;> rfl
    have hrs : ∀ mm, resAV m.vars.length mm (.agg (R.rowW (A .top))) = some (.agg (R.rowW (A .top))) := fun mm => by rcases hpa with ⟨_, e⟩ | ⟨_, b, c, vs, _, e, _⟩ <;> rw [e] <;> rfl
    have l1 := vrW v3
    have st2 : evStore Try.prog m' 37 (.ptr q 0) (.agg (R.rowW (A .top))) = some (setv m' q (R.rowW (A .top))) := store_whole v2 rfl rfl szRc hcw (hrw _)
    have y1 : (setv m' q (R.rowW (A .top))).var q = some (R.rowW (A .top)) := setv_var v2
    have hA9 := above_setv (cs := R.rowW (A .top)) hA hge
    rw [seenS_all (r := seen.reverse) (fun i hi => List.mem_reverse.2 (hall i hi))] at hown
    have hD := own_fz ((hown.same (V2 := valid (docS (lastV l c l.length) R.phases)) (fun y hy => (valid_docS _ _ y).1 hy) (fun _ _ => rfl) fun y _ => rowsU_doc A _ _ y))
    repeat (first | refine x_seq ?_ | refine x_block ?_ | refine xn_normal ?_ | refine xi_normal ?_ | refine xn_exit ?_ | refine xi_exit ?_ | refine xi_other (by decide) ?_ | refine xn_ret ?_ | refine xi_ret ?_ | refine x_skip ?_ | refine x_exit ?_ | refine x_ret ?_)
    refine x_region (kp := kpAt) mixed hC ?_
    refine go1 (jn @l1 @st2) ?_
    repeat (first | refine x_seq ?_ | refine x_block ?_ | refine xn_normal ?_ | refine xi_normal ?_ | refine xn_exit ?_ | refine xi_exit ?_ | refine xi_other (by decide) ?_ | refine xn_ret ?_ | refine xi_ret ?_ | refine x_skip ?_ | refine x_exit ?_ | refine x_ret ?_)
    refine ⟨_, _, leaves_cell rfl (vrW y1) (hrs _) rfl (above_fin hA9), post_of ⟨rfl, .inr ⟨_, _, _, _, rfl, rfl, ?_, by rw [hres]; exact .same _⟩⟩⟩
    rw [hres]
    exact .agg _ _ rfl fun j x y e1 e2 => fz_splice (row := ({ R with phases := docS (lastV l c l.length) R.phases } : Rc).row) (n := 7) (by show 7 < 32; decide) hD rfl j x y e1 e2
   ·refine gox0 hC ?_
    repeat (first | refine x_seq ?_ | refine x_block ?_ | refine xn_normal ?_ | refine xi_normal ?_ | refine xn_exit ?_ | refine xi_exit ?_ | refine xi_other (by decide) ?_ | refine xn_ret ?_ | refine xi_ret ?_ | refine x_skip ?_ | refine x_exit ?_ | refine x_ret ?_)
    refine x_cond rfl (fun hc => ?_) (fun hc => by cases hc)
    obtain ⟨p, v, hkv⟩ : ∃ p v, (mapTo l c l.length)[i]? = some (p, v) := ⟨_, _, List.getElem?_eq_getElem hi⟩
    have hmem := List.mem_of_getElem? hkv
    obtain ⟨u, rfl, _⟩ := mapTo_int l c _ p v hmem
    obtain ⟨n9, hn9, hp9⟩ := mapTo_mem l c _ p _ hmem
    have hthere : thereB R p = true := by rw [hp9]; exact hth n9 hn9
    obtain ⟨a, b, d, ha, hb, hd, ha1, hb1, hd1, hf⟩ := there_nat hthere
    have hσ : seenS (mapTo l c l.length) (seen ++ [i]).reverse = updS (seenS (mapTo l c l.length) seen.reverse) p u := by
     rw [List.reverse_append]
     show stepS _ (mapTo l c l.length)[i]? = _
     rw [hkv]
     rfl
    have hown := hown.free (o := iterOb bm (mapTo l c l.length).length (seen ++ [i])) hki
    have hbM : (bm, mapOb encP (mapTo l c l.length)) ∈ setObjs F bi (iterOb bm (mapTo l c l.length).length (seen ++ [i])) := mem_set_ne hbM hbi2
    have hbI : (bi, iterOb bm (mapTo l c l.length).length (seen ++ [i])) ∈ setObjs F bi (iterOb bm (mapTo l c l.length).length (seen ++ [i])) := mem_set_eq hbI
    generalize setObjs F bi (iterOb bm (mapTo l c l.length).length (seen ++ [i])) = F5 at hown hbM hbI
    have hless := seen_less hi hns
    generalize hMM : mapTo l c l.length = M at hσ hown hbM hbI hkv hless
    generalize seenS M seen.reverse = σ at hσ hown
    have zs : evStore Try.prog (m'.push zeroPl) 50 (.ptr m'.vars.length 0) (.agg [.v (.int .i64 p.phase), .v (.int .i64 p.set), .v (.int .i64 p.node), .v (.int .i64 p.field)]) = some (m'.push p.row) := zsPl (x := p)
    repeat (first | refine x_seq ?_ | refine x_block ?_ | refine xn_normal ?_ | refine xi_normal ?_ | refine xn_exit ?_ | refine xi_exit ?_ | refine xi_other (by decide) ?_ | refine xn_ret ?_ | refine xi_ret ?_ | refine x_skip ?_ | refine x_exit ?_ | refine x_ret ?_)
    refine x_ops (l2 := kpAt 16) ?_
    refine xops_step (xs_entryMap (t := 0) (kav := .agg [.v (.int .i64 p.phase), .v (.int .i64 p.set), .v (.int .i64 p.node), .v (.int .i64 p.field)]) hbM hbI hkv rfl rfl rfl rfl rfl ?_)
    refine gox1 hC @zs ?_
    have x1 : (m'.push p.row).var m'.vars.length = some p.row := push_var
    have v3 := push_old (cs' := p.row) v3
    have v2 := push_old (cs' := p.row) v2
    have hA := above_push (cs := p.row) hA
    generalize m'.push p.row = m5 at x1 v3 v2 hA
    generalize m'.vars.length = rp at x1
    have q1 : evLoad Try.prog m5 3 (.ptr rp 0) = some (.v (.int .i64 (a : Int))) := by rw [← ha]; exact lpPlPhase x1
    have q2' : evLoad Try.prog m5 3 (.ptr rp 1) = some (.v (.int .i64 (b : Int))) := by rw [← hb]; exact lpPlSet x1
    have q3 : evLoad Try.prog m5 3 (.ptr rp 2) = some (.v (.int .i64 (d : Int))) := by rw [← hd]; exact lpPlNode x1
    have q4 : evLoad Try.prog m5 3 (.ptr rp 3) = some (.v (.int .i64 p.field)) := lpPlField x1
    obtain ⟨b0, c0, vs0, g1, g2, g3, _⟩ := hown.put (x := .top) (show valid R.phases .top from trivial) (by show 0 < (rowsC A R.phases .top).length; rw [rowsC_top]; omega)
    obtain ⟨b1, c1, vs1, k1, k2, k3, _⟩ := hown.put (x := .ph a) (show valid R.phases (.ph a) from ha1) (by show 0 < (rowsC A R.phases (.ph a)).length; rw [rowsC_ph]; omega)
    obtain ⟨b2, c2, vs2, j1, j2, j3, hput⟩ := hown.put (x := .st a b) (show valid R.phases (.st a b) from ⟨ha1, hb1⟩) (by rw [rowsU_st]; omega)
    have hlt : a < (rowsU A σ R.phases .top).length := by show a < (rowsC A R.phases .top).length; rw [rowsC_top]; exact ha1
    have hls : b < (rowsU A σ R.phases (.ph a)).length := by show b < (rowsC A R.phases (.ph a)).length; rw [rowsC_ph]; exact hb1
    have hln : d < (rowsU A σ R.phases (.st a b)).length := by rw [rowsU_st]; exact hd1
    have lw := lpW v3
    have ld1 := part_cell0 (P := Try.prog) (t := 64) (k := 5) (j := 4) (a := A (.ph a)) aggSl1 szSl1 (vs0.map AV.v) (rows := rowsU A σ R.phases .top) (rowsU_row A σ R.phases .top) hlt (by decide) (by rw [show (rowsU A σ R.phases .top) = rowsC A R.phases .top from rfl, rowsC_top_at ha1]; rfl)
    have ld2 := part_cell0 (P := Try.prog) (t := 67) (k := 3) (j := 2) (a := A (.st a b)) aggSl2 szSl2 (vs1.map AV.v) (rows := rowsU A σ R.phases (.ph a)) (rowsU_row A σ R.phases (.ph a)) hls (by decide) (by rw [show (rowsU A σ R.phases (.ph a)) = rowsC A R.phases (.ph a) from rfl, rowsC_ph_at hb1]; rfl)
    rw [g2] at lw
    rw [k2] at ld1
    rw [j2] at ld2
    repeat (first | refine x_seq ?_ | refine x_block ?_ | refine xn_normal ?_ | refine xi_normal ?_ | refine xn_exit ?_ | refine xi_exit ?_ | refine xi_other (by decide) ?_ | refine xn_ret ?_ | refine xi_ret ?_ | refine x_skip ?_ | refine x_exit ?_ | refine x_ret ?_)
    refine x_drawnX mixed (l2 := kpAt 17) (by kernel_rfl) (by kernel_rfl) ?_
    refine goxl1 hC (jn @lw @q1) ?_
    refine xl_step rfl (xra_indexRaw (t1 := 0) (t2 := 0) rfl elPhs szPh5 rfl rfl hlt) rfl ?_
    refine xl_step rfl (xra_fieldRaw (t1 := 0) rfl fdSets szSl1 rfl) rfl ?_
    refine xl_step rfl (xra_loadRaw (t1 := 0) rfl g3 rfl ld1) rfl ?_
    refine goxl1 hC @q2' ?_
    refine xl_step rfl (xra_indexRaw (t1 := 0) (t2 := 0) rfl elGss szGs3 rfl rfl hls) rfl ?_
    refine xl_step rfl (xra_fieldRaw (t1 := 0) rfl fdNodes szSl2 rfl) rfl ?_
    refine xl_step rfl (xra_loadRaw (t1 := 0) rfl k3 rfl ld2) rfl ?_
    refine goxl0 hC ?_
    have hnode : ((rowsU A σ R.phases (.st a b)).getD d []) = ((nodesS σ a b (nodesOf R.phases a b)).getD d nd0).row := rowsN_getD (by rw [nodesS_len]; exact hd1)
    have ld3 : evPart Try.prog 71 ((rowsU A σ R.phases (.st a b)).flatten ++ vs2.map AV.v) (0 + d * 7) = some (.agg ((nodesS σ a b (nodesOf R.phases a b)).getD d nd0).row) := by
     rw [Nat.zero_add, ← hnode]
     exact part_row agNd ndSz _ (rowsU_row A σ R.phases (.st a b)) hln
    have hNew := nodesS_hit (σ := σ) (v := u) (L := nodesOf R.phases a b) ha hb hd hf hd1
    generalize hy : (nodesS σ a b (nodesOf R.phases a b)).getD d nd0 = y at hnode ld3 hNew
    have f9 := fun mm => putG_eq (x := y) (f := p.field) (v := u) (m := mm)
    have hfit : 0 + d * 7 + 7 ≤ ((rowsU A σ R.phases (.st a b)).flatten ++ vs2.map AV.v).length := by
     rw [List.length_append, flat_len _ (rowsU_row A σ R.phases (.st a b)), rowsU_st]
     show _ ≤ _ * 7 + _
     omega
    have hset : splice ((rowsU A σ R.phases (.st a b)).flatten ++ vs2.map AV.v) (0 + d * 7) (setF y p.field u).row = (rowsU A (updS σ p u) R.phases (.st a b)).flatten ++ vs2.map AV.v := by
     have h0 := splice_rows (k := 7) (vs2.map AV.v) (setF y p.field u).row 0 (by show 0 + 7 ≤ 7; decide) _ d (rowsU_row A σ R.phases (.st a b)) hln
     rw [Nat.zero_add, show d * 7 = d * 7 + 0 from rfl, h0, hnode]
     congr 2
     show _ = rowsN (nodesS (updS σ p u) a b (nodesOf R.phases a b))
     rw [hNew, ← rowsN_set]
     rfl
    have hown := hput (rowsU A (updS σ p u) R.phases) (fun y _ hy => rowsU_miss ha hb hy) (by rw [rowsU_st, rowsU_st])
    have hb2m : bm ≠ b2 := fun e => hkm (.st a b) ⟨ha1, hb1⟩ (by rw [j2, e]; rfl)
    have hb2i : bi ≠ b2 := fun e => hki (.st a b) ⟨ha1, hb1⟩ (by rw [j2, e]; rfl)
    have hbM := mem_set_ne (o := .arr ((rowsU A (updS σ p u) R.phases (.st a b)).flatten ++ vs2.map AV.v)) hbM hb2m
    have hbI := mem_set_ne (o := .arr ((rowsU A (updS σ p u) R.phases (.st a b)).flatten ++ vs2.map AV.v)) hbI hb2i
    repeat (first | refine x_seq ?_ | refine x_block ?_ | refine xn_normal ?_ | refine xi_normal ?_ | refine xn_exit ?_ | refine xi_exit ?_ | refine xi_other (by decide) ?_ | refine xn_ret ?_ | refine xi_ret ?_ | refine x_skip ?_ | refine x_exit ?_ | refine x_ret ?_)
    refine x_drawnX mixed (l2 := kpAt 18) (by kernel_rfl) (by kernel_rfl) ?_
    refine goxl1 hC @q3 ?_
    refine xl_step rfl (xra_indexRaw (t1 := 0) (t2 := 0) rfl ndEl ndSz rfl rfl hln) rfl ?_
    refine xl_step rfl (xra_loadRaw (t1 := 0) rfl j3 rfl ld3) rfl ?_
    refine goxl1 hC (jn @q4 (jn @t3 @f9)) ?_
    refine xl_step rfl (xra_indexRaw (t1 := 0) (t2 := 0) rfl ndEl ndSz rfl rfl hln) rfl ?_
    refine xl_last (m1 := m5) rfl (xra_storeRaw (t1 := 0) (t2 := 0) (row := (setF y p.field u).row) rfl rfl j3 rfl rfl rfl ndSz rfl hfit) rfl ?_
    intro e2 h2
    simp only [go_sem, reduceIte, Nat.reduceEqDiff] at h2
    subst h2
    rw [hset]
    repeat (first | refine x_seq ?_ | refine x_block ?_ | refine xn_normal ?_ | refine xi_normal ?_ | refine xn_exit ?_ | refine xi_exit ?_ | refine xi_other (by decide) ?_ | refine xn_ret ?_ | refine xi_ret ?_ | refine x_skip ?_ | refine x_exit ?_ | refine x_ret ?_)
    exact ⟨_, hless, seen ++ [i], by rw [hσ]; exact hown, hbM, hbI, hA, v3, v2, rfl, rfl⟩
theorem at_ok : FunOk Try.prog 8 atG := fun_of_F atF_ok fun args m r m' h => by
 unfold atG at h
 split at h
 ·rename_i cs g rows n
  split at h
  ·rename_i R l hR hl
   obtain rfl := unRc_some hR
   obtain rfl := unsAx_some hl
   split at h
   ·rename_i hyp
    simp only [Option.some.injEq, Prod.mk.injEq] at h
    obtain ⟨rfl, rfl⟩ := h
    exact ⟨⟨R, g, l, n, rfl, hyp.1, hyp.2⟩, fun r1 m1 F hp => hp R g l n rfl⟩
   ·cases h
  ·cases h
 ·cases h
end
noncomputable section
attribute [local irreducible] Next Inside Runs Ops table
def ext56 : Ctx := ⟨fun _ _ => none, fun _ => false, fun f => if f = 8 then some atG else if f = 17 then some choiceG else if f = 20 then some nodeG else none⟩
theorem ext56_ok : ∀ f g, ext56.ext f = some g → FunOk Try.prog f g := by
 intro f g h
 unfold ext56 at h
 simp only at h
 split at h
 ·rename_i e
  cases h
  subst e
  exact at_ok
 ·split at h
  ·rename_i e
   cases h
   subst e
   exact choice_ok
  ·split at h
   ·rename_i e
    cases h
    subst e
    exact node_ok
   ·cases h
theorem awake56_of {f : FuncId} (hrun : runC Try.prog ext56 60 f [] ⟨[], []⟩ = some (.v (.bool true), ⟨[], []⟩)) : FunOk Try.prog f yesG := by
 have h := wide_ok (P := Try.prog) (f := f) (x := .bool true) fun args m r m' hg => by
  dsimp only at hg
  split at hg
  ·rename_i hc
   obtain ⟨rfl, h1, h2⟩ := hc
   obtain ⟨v, t⟩ := m
   simp only at h1 h2
   subst h1
   subst h2
   cases hg
   exact runC_ok mixed ext56_ok 60 _ _ _ _ _ hrun
  ·cases hg
 intro args m r m' hg
 refine h args m r m' ?_
 cases args with
 | nil => exact hg
 | cons a rest => cases hg
theorem awake56_ok : FunOk Try.prog 7 yesG := awake56_of (by kernel_rfl)
end
noncomputable section
attribute [local irreducible] Next Inside Runs Ops table
attribute [local go_sem] szStr szInt Option.getD_some isNil evStr iv loadInt mapRc cellsRc newRc mapPl cellsPl newPl mapNd cellsNd newNd zrNd zoNd znNd rowsPh_len rowsGs_len rowsN_len fpRcPhases fpPlPhase fpPlSet fpPlNode fpPlField fePhSets lePhSets feGsNodes leGsNodes ldNode fpNdA fpNdB fpNdC
def fldN (x : Nd) (f : Int) : Int := if f = 0 then x.a else if f = 1 then x.b else x.c
theorem mkArr3 {a b c : Int} : evBuild Try.prog 79 [(0, .v (.int .i64 a)), (1, .v (.int .i64 b)), (2, .v (.int .i64 c))] = some (.agg [.v (.int .i64 a), .v (.int .i64 b), .v (.int .i64 c)]) := by kernel_rfl
attribute [local go_sem] mkArr3
theorem mk3 {a b c : Int} : evBuildSlice Try.prog 51 3 [(0, .v (.int .i64 a)), (1, .v (.int .i64 b)), (2, .v (.int .i64 c))] = some (.lst .full 1 (rowsI [a, b, c])) := by kernel_rfl
attribute [local go_sem] mk3
theorem ix30 {a b c : Int} : evIndex Try.prog 79 (.agg [.v (.int .i64 a), .v (.int .i64 b), .v (.int .i64 c)]) (.v (.int .i64 0)) = some (.v (.int .i64 a)) := by kernel_rfl
theorem ix31 {a b c : Int} : evIndex Try.prog 79 (.agg [.v (.int .i64 a), .v (.int .i64 b), .v (.int .i64 c)]) (.v (.int .i64 1)) = some (.v (.int .i64 b)) := by kernel_rfl
theorem ix32 {a b c : Int} : evIndex Try.prog 79 (.agg [.v (.int .i64 a), .v (.int .i64 b), .v (.int .i64 c)]) (.v (.int .i64 2)) = some (.v (.int .i64 c)) := by kernel_rfl
theorem ix3 {f : Int} (h : 0 ≤ f ∧ f ≤ 2) (x : Nd) : evIndex Try.prog 79 (.agg [.v (.int .i64 x.a), .v (.int .i64 x.b), .v (.int .i64 x.c)]) (.v (.int .i64 f)) = some (.v (.int .i64 (fldN x f))) := by
 have h3 : f = 0 ∨ f = 1 ∨ f = 2 := by omega
 rcases h3 with rfl | rfl | rfl
 ·exact ix30
 ·exact ix31
 ·exact ix32
def valueG : List AV → Mem → Option (AV × Mem)
 | [.agg cs, .agg cp], m =>
  match unRc cs, unPl cp with
  | some R, some p => if R.lens then some (.tup [.v (.int .i64 (if thereB R p then fldN (nodeV R p) p.field else 0)), .v (.int .i64 (if thereB R p then 0 else 8))], m) else none
  | _, _ => none
 | _, _ => none
theorem valueG_eq {R : Rc} {p : Pl} {m : Mem} (h : R.lens) : valueG [.agg R.row, .agg p.row] m = some (.tup [.v (.int .i64 (if thereB R p then fldN (nodeV R p) p.field else 0)), .v (.int .i64 (if thereB R p then 0 else 8))], m) := by
 simp only [valueG, unRc_row, unPl_row]
 rw [if_pos h]
def kpValue : Nat → Option (List Nat) := fun
 | 0 => some [2, 3]
 | 1 => some [3, 6, 7]
 | 2 => some [3, 6, 15]
 | 3 => some [4, 5]
 | 4 => some [4, 5]
 | _ => none
attribute [go_sem] kpValue
def tab_value_ok : List (FuncId × (List AV → Mem → Option (AV × Mem))) := [(20, nodeG)]
theorem value_ok : FunOk Try.prog 11 valueG := by
 have hC := table_ok (P := Try.prog) (l := tab_value_ok) (table_more node_ok table_nil)
 have t1 := fun args mm => table_at (l := tab_value_ok) (f := 20) (args := args) (m := mm) rfl
 refine fun_ok mixed hC Try.func11 rfl kpValue false rfl fun args m r h => ?_
 unfold valueG at h
 split at h
 ·rename_i cs cp
  split at h
  ·rename_i R p hR hp
   obtain rfl := unRc_some hR
   obtain rfl := unPl_some hp
   split at h
   ·rename_i hlens
    simp only [Option.some.injEq] at h
    subst h
    refine ⟨Nat.le_of_ble_eq_true rfl, ?_⟩
    refine en ?_
    have hA := above_push (cs := p.row) (above_push (cs := R.row) (above_self m))
    have v2 : ((m.push R.row).push p.row).var m.vars.length = some R.row := push_old push_var
    have v3 : ((m.push R.row).push p.row).var (m.push R.row).vars.length = some p.row := push_var
    have nr := newRc (m := m) (x := R)
    have np := newPl (m := m.push R.row) (x := p)
    generalize (m.push R.row).push p.row = m2 at hA v2 v3 np
    refine go1 (jn @nr @np) ?_
    generalize (m.push R.row).vars.length = r3 at v3 ⊢
    have l1 := vrRc v2
    have l2 : evLoad Try.prog m2 50 (.ptr r3 0) = some (.agg p.row) := vrPl v3
    have f1 := fun mm => nodeG_eq (p := p) (m := mm) hlens
    have zs2 : ∀ nd : Nd, evStore Try.prog (m2.push zeroNd) 71 (.ptr m2.vars.length 0) (.agg nd.row) = some (m2.push nd.row) := fun nd => zsNd8
    cases hb : thereB R p with
    | false =>
     rw [hb] at f1
     replace f1 : ∀ mm, nodeG [.agg R.row, .agg p.row] mm = some (.tup [.agg nd0.row, .v (.bool false)], mm) := f1
     have zs3 := zs2 nd0
     refine go1 (jn @l1 (jn @l2 (jn @t1 (jn @f1 @zs3)))) ?_
     refine runs_cond rfl (fun hc => ?_) (fun hc => by cases hc)
     refine go0 ?_
     exact leaves_two rfl rfl rfl (above_fin (above_push hA))
    | true =>
     obtain ⟨_, _, _, _, _, _, _, _, _, hf⟩ := there_nat hb
     rw [hb] at f1
     replace f1 : ∀ mm, nodeG [.agg R.row, .agg p.row] mm = some (.tup [.agg (nodeV R p).row, .v (.bool true)], mm) := f1
     have zs3 := zs2 (nodeV R p)
     refine go1 (jn @l1 (jn @l2 (jn @t1 (jn @f1 @zs3)))) ?_
     refine runs_cond rfl (fun hc => by cases hc) (fun hc => ?_)
     have x3 := push_old (cs' := (nodeV R p).row) v3
     have x4 : (m2.push (nodeV R p).row).var m2.vars.length = some (nodeV R p).row := push_var
     have hA3 := above_push (cs := (nodeV R p).row) hA
     generalize m2.push (nodeV R p).row = m3 at x3 x4 hA3
     generalize m2.vars.length = r4 at x4
     generalize nodeV R p = x at x4
     have y1 := lpNd (i := 1) (v := x.a) x4 rfl
     have y2 := lpNd (i := 2) (v := x.b) x4 rfl
     have y3 := lpNd (i := 3) (v := x.c) x4 rfl
     have y4 := lpPlField x3
     have y5 := ix3 hf x
     refine go1 (jn @y1 (jn @y2 (jn @y3 (jn @y4 @y5)))) ?_
     exact leaves_two rfl rfl rfl (above_fin hA3)
   ·cases h
  ·cases h
 ·cases h
end
noncomputable section
attribute [local irreducible] Next Inside Runs Ops table
attribute [local go_sem] szStr szInt Option.getD_some isNil evStr iv loadInt mapRc cellsRc newRc mapPl cellsPl newPl mapNd cellsNd newNd zrNd zoNd znNd rowsPh_len rowsGs_len rowsN_len fpRcPhases fpPlPhase fpPlSet fpPlNode fpPlField fePhSets lePhSets feGsNodes leGsNodes ldNode fpNdA fpNdB fpNdC mk3
theorem there_iff {R : Rc} {p : Pl} : thereB R p = true ↔ 0 ≤ p.phase ∧ p.phase < R.phases.length ∧ 0 ≤ p.field ∧ p.field ≤ 2 ∧ 0 ≤ p.set ∧ p.set < (setsAt R p).length ∧ 0 ≤ p.node ∧ p.node < (nodesAt R p).length := by
 unfold thereB here1 here2 inB
 simp only [Bool.and_eq_true, decide_eq_true_eq]
 omega
theorem there_no {R : Rc} {p : Pl} (h : ¬ (0 ≤ p.phase ∧ p.phase < R.phases.length ∧ 0 ≤ p.field ∧ p.field ≤ 2 ∧ 0 ≤ p.set ∧ p.set < (setsAt R p).length ∧ 0 ≤ p.node ∧ p.node < (nodesAt R p).length)) : false = thereB R p := by
 cases hb : thereB R p with
 | false => rfl
 | true => exact absurd (there_iff.1 hb) h
def thereG : List AV → Mem → Option (AV × Mem)
 | [.agg cs, .agg cp], m =>
  match unRc cs, unPl cp with
  | some R, some p => if R.lens then some (.v (.bool (thereB R p)), m) else none
  | _, _ => none
 | _, _ => none
theorem thereG_eq {R : Rc} {p : Pl} {m : Mem} (h : R.lens) : thereG [.agg R.row, .agg p.row] m = some (.v (.bool (thereB R p)), m) := by
 simp only [thereG, unRc_row, unPl_row]
 rw [if_pos h]
def kpThere : Nat → Option (List Nat) := fun
 | 0 => some [2, 3]
 | 1 => some [2, 3, 26]
 | 2 => some [4]
 | 3 => some [3, 5]
 | 4 => some [4]
 | _ => none
attribute [go_sem] kpThere
theorem there_ok : FunOk Try.prog 12 thereG := by
 have hC := table_ok (P := Try.prog) (l := []) table_nil
 refine fun_ok mixed hC Try.func12 rfl kpThere false rfl fun args m r h => ?_
 unfold thereG at h
 split at h
 ·rename_i cs cp
  split at h
  ·rename_i R p hR hp
   obtain rfl := unRc_some hR
   obtain rfl := unPl_some hp
   split at h
   ·rename_i hlens
    simp only [Option.some.injEq] at h
    subst h
    refine ⟨Nat.le_of_ble_eq_true rfl, ?_⟩
    refine en ?_
    have hA := above_push (cs := p.row) (above_push (cs := R.row) (above_self m))
    have v2 : ((m.push R.row).push p.row).var m.vars.length = some R.row := push_old push_var
    have v3 : ((m.push R.row).push p.row).var (m.push R.row).vars.length = some p.row := push_var
    have nr := newRc (m := m) (x := R)
    have np := newPl (m := m.push R.row) (x := p)
    generalize (m.push R.row).push p.row = m2 at hA v2 v3 np
    refine go1 (jn @nr @np) ?_
    generalize (m.push R.row).vars.length = r3 at v3 ⊢
    have l1 := lpRcPhases v2
    have p1 := lpPlPhase v3
    have p2 := lpPlSet v3
    have p3 := lpPlNode v3
    have p4 := lpPlField v3
    have done : ∀ (b : Bool) (e : Env), Ev.get e 4 = .v (.bool b) → b = thereB R p → Leaves Try.prog false Try.f12 m (.v (.bool (thereB R p)), m) .ret e m2 := fun b e h1 h2 => by
     subst h2
     exact leaves_fin rfl h1 (above_fin hA)
    cases d1 : decide (p.phase < 0) with
    | true =>
     have := of_decide_eq_true d1
     refine go1 (jn @p1 @d1) ?_
     refine runs_cond rfl (fun hc => ?_) (fun hc => by cases hc)
     refine go0 ?_
     exact done _ _ rfl (there_no (by omega))
    | false =>
     have h1 := of_decide_eq_false d1
     cases d2 : decide (p.phase ≥ (R.phases.length : Int)) with
     | true =>
      have := of_decide_eq_true d2
      refine go1 (jn @p1 (jn @d1 (jn @l1 @d2))) ?_
      refine runs_cond rfl (fun hc => ?_) (fun hc => by cases hc)
      refine go0 ?_
      exact done _ _ rfl (there_no (by omega))
     | false =>
      have h2 := of_decide_eq_false d2
      cases d3 : decide (p.field < 0) with
      | true =>
       have := of_decide_eq_true d3
       refine go1 (jn @p1 (jn @d1 (jn @l1 (jn @d2 (jn @p4 @d3))))) ?_
       refine runs_cond rfl (fun hc => ?_) (fun hc => by cases hc)
       refine go0 ?_
       exact done _ _ rfl (there_no (by omega))
      | false =>
       have h3 := of_decide_eq_false d3
       cases d4 : decide (p.field > 2) with
       | true =>
        have := of_decide_eq_true d4
        refine go1 (jn @p1 (jn @d1 (jn @l1 (jn @d2 (jn @p4 (jn @d3 @d4)))))) ?_
        refine runs_cond rfl (fun hc => ?_) (fun hc => by cases hc)
        refine go0 ?_
        exact done _ _ rfl (there_no (by omega))
       | false =>
        have h4 := of_decide_eq_false d4
        obtain ⟨i, hi⟩ := Int.eq_ofNat_of_zero_le (show 0 ≤ p.phase by omega)
        have hi1 : i < R.phases.length := by omega
        have g1 := atPh (g := .no) (kk := .i64) hi1
        have p1' : evLoad Try.prog m2 3 (.ptr r3 0) = some (.v (.int .i64 (i : Int))) := by rw [← hi]; exact p1
        have hSets : setsAt R p = (R.phases.getD i ph0).sets := by unfold setsAt; rw [hi, Int.toNat_natCast]
        have hNod : nodesAt R p = ((setsAt R p).getD p.set.toNat gs0).nodes := rfl
        rw [hSets] at hNod
        have no := fun h => there_no (R := R) (p := p) h
        have yes := (there_iff (R := R) (p := p)).2
        rw [hSets] at no yes
        generalize nodesAt R p = NL at hNod no yes
        generalize R.phases.getD i ph0 = P at g1 hSets hNod no yes
        refine go1 (jn @p1 (jn @d1 (jn @l1 (jn @d2 (jn @p4 (jn @d3 @d4)))))) ?_
        refine runs_cond rfl (fun hc => by cases hc) (fun hc => ?_)
        refine go1 (jn @l1 (jn @p1' @g1)) ?_
        refine runs_ops_drawn_tight (by kernel_rfl) (by kernel_rfl) ?_
        cases e1 : decide (p.set ≥ 0) with
        | false =>
         have := of_decide_eq_false e1
         refine go1 (jn @p2 @e1) ?_
         exact done _ _ rfl (no (by omega))
        | true =>
         have k1 := of_decide_eq_true e1
         cases e2 : decide (p.set < (P.sets.length : Int)) with
         | false =>
          have := of_decide_eq_false e2
          refine go1 (jn @p2 (jn @e1 @e2)) ?_
          exact done _ _ rfl (no (by omega))
         | true =>
          have k2 := of_decide_eq_true e2
          cases e3 : decide (p.node ≥ 0) with
          | false =>
           have := of_decide_eq_false e3
           refine go1 (jn @p2 (jn @e1 (jn @e2 (jn @p3 @e3)))) ?_
           exact done _ _ rfl (no (by omega))
          | true =>
           have k3 := of_decide_eq_true e3
           obtain ⟨j, hj⟩ := Int.eq_ofNat_of_zero_le (show 0 ≤ p.set by omega)
           have g2 := atGs (g := .no) (kk := .i64) (l := P.sets) (i := j) (by omega)
           rw [hj, Int.toNat_natCast] at hNod
           rw [hj] at p2 e1 e2
           generalize P.sets.getD j gs0 = s at g2 hNod
           subst hNod
           cases e4 : decide (p.node < (s.nodes.length : Int)) with
           | false =>
            have := of_decide_eq_false e4
            refine go1 (jn @p2 (jn @e1 (jn @e2 (jn @p3 (jn @e3 (jn @g2 @e4)))))) ?_
            exact done _ _ rfl (no (by omega))
           | true =>
            have k4 := of_decide_eq_true e4
            refine go1 (jn @p2 (jn @e1 (jn @e2 (jn @p3 (jn @e3 (jn @g2 @e4)))))) ?_
            exact done _ _ rfl (yes (by omega)).symm
   ·cases h
  ·cases h
 ·cases h
def rvalueG : List AV → Mem → Option (AV × Mem)
 | [.agg cs, .agg cp], m =>
  match unRc cs, unPl cp with
  | some R, some p => if thereB R p = true then some (.v (.int .i64 (fldN (nodeV R p) p.field)), m) else none
  | _, _ => none
 | _, _ => none
theorem rvalueG_eq {R : Rc} {p : Pl} {m : Mem} (h : thereB R p = true) : rvalueG [.agg R.row, .agg p.row] m = some (.v (.int .i64 (fldN (nodeV R p) p.field)), m) := by
 simp only [rvalueG, unRc_row, unPl_row]
 rw [if_pos h]
def kpRvalue : Nat → Option (List Nat) := fun
 | 0 => some [2, 3]
 | 1 => some [3, 5]
 | 2 => some [4]
 | _ => none
attribute [go_sem] kpRvalue
theorem rvalue_ok : FunOk Try.prog 13 rvalueG := by
 have hC := table_ok (P := Try.prog) (l := []) table_nil
 refine fun_okX Try.func13 rfl false rfl fun args m r h => ?_
 unfold rvalueG at h
 split at h
 ·rename_i cs cp
  split at h
  ·rename_i R p hR hp
   obtain rfl := unRc_some hR
   obtain rfl := unPl_some hp
   split at h
   ·rename_i hb
    simp only [Option.some.injEq] at h
    subst h
    refine ⟨Nat.le_of_ble_eq_true rfl, fun φ w => ?_⟩
    refine en ?_
    repeat (first | refine x_seq ?_ | refine x_block ?_ | refine xn_normal ?_ | refine xi_normal ?_ | refine xn_exit ?_ | refine xi_exit ?_ | refine xi_other (by decide) ?_ | refine xn_ret ?_ | refine xi_ret ?_ | refine x_skip ?_ | refine x_exit ?_ | refine x_ret ?_)
    have hA := above_push (cs := p.row) (above_push (cs := R.row) (above_self m))
    have v2 : ((m.push R.row).push p.row).var m.vars.length = some R.row := push_old push_var
    have v3 : ((m.push R.row).push p.row).var (m.push R.row).vars.length = some p.row := push_var
    have nr := newRc (m := m) (x := R)
    have np := newPl (m := m.push R.row) (x := p)
    generalize (m.push R.row).push p.row = m2 at hA v2 v3 np
    refine x_region (kp := kpRvalue) mixed hC ?_
    refine go1 (jn @nr @np) ?_
    repeat (first | refine x_seq ?_ | refine x_block ?_ | refine xn_normal ?_ | refine xi_normal ?_ | refine xn_exit ?_ | refine xi_exit ?_ | refine xi_other (by decide) ?_ | refine xn_ret ?_ | refine xi_ret ?_ | refine x_skip ?_ | refine x_exit ?_ | refine x_ret ?_)
    generalize (m.push R.row).vars.length = r3 at v3 ⊢
    generalize hr2 : m.vars.length = r2 at v2 ⊢
    obtain ⟨a, b, d, ha, hb2, hd, ha1, hb1, hd1, hf⟩ := there_nat hb
    have hV : nodeV R p = (nodesOf R.phases a b).getD d nd0 := by unfold nodeV nodesAt nodesOf setsAt setsOf; rw [ha, hb2, hd, Int.toNat_natCast, Int.toNat_natCast, Int.toNat_natCast]
    have g1 := atPh (g := .no) (kk := .i64) ha1
    have g2 := atGs (g := .no) (kk := .i64) (l := (R.phases.getD a ph0).sets) hb1
    have g3 := atNodes (g := .no) (kk := .i64) (l := (((R.phases.getD a ph0).sets).getD b gs0).nodes) hd1
    rw [hV]
    unfold nodesOf setsOf
    generalize hP : R.phases.getD a ph0 = P at g1 g2 g3 ⊢
    generalize hG : P.sets.getD b gs0 = G at g2 g3 ⊢
    generalize G.nodes.getD d nd0 = x at g3 ⊢
    have zs2 : evStore Try.prog (m2.push zeroNd) 71 (.ptr m2.vars.length 0) (.agg x.row) = some (m2.push x.row) := zsNd8
    let MS : (Nat → Bool) → Mem := fun S => bif S 16 then (bif S 17 then m2.push x.row else m2.push zeroNd) else m2
    have w2 : ∀ S, (MS S).var r2 = some R.row := fun S => by
     show (bif S 16 then (bif S 17 then m2.push x.row else m2.push zeroNd) else m2).var r2 = _
     cases S 16 <;> cases S 17 <;> first | exact v2 | exact push_old v2
    have w3 : ∀ S, (MS S).var r3 = some p.row := fun S => by
     show (bif S 16 then (bif S 17 then m2.push x.row else m2.push zeroNd) else m2).var r3 = _
     cases S 16 <;> cases S 17 <;> first | exact v3 | exact push_old v3
    have lp := fun S => lpRcPhases (w2 S)
    have q1 : ∀ S, evLoad Try.prog (MS S) 3 (.ptr r3 0) = some (.v (.int .i64 (a : Int))) := fun S => by rw [← ha]; exact lpPlPhase (w3 S)
    have q2 : ∀ S, evLoad Try.prog (MS S) 3 (.ptr r3 1) = some (.v (.int .i64 (b : Int))) := fun S => by rw [← hb2]; exact lpPlSet (w3 S)
    have q3 : ∀ S, evLoad Try.prog (MS S) 3 (.ptr r3 2) = some (.v (.int .i64 (d : Int))) := fun S => by rw [← hd]; exact lpPlNode (w3 S)
    refine x_sets0 (l2 := kpRvalue 1) (m' := m2.push x.row) mixed hC (by decide +kernel) (by decide +kernel) (fun i => [.ptr r2 7, .lst .no 5 (rowsPh R.phases), .ptr r3 0, .v (.int .i64 (a : Int)), .eptr P.row, .eptr (P.row.drop 4), .lst .no 3 (rowsGs P.sets), .ptr r3 1, .v (.int .i64 (b : Int)), .eptr G.row, .eptr (G.row.drop 2), .lst .no 7 (rowsN G.nodes), .ptr r3 2, .v (.int .i64 (d : Int)), .eptr x.row, .agg x.row, .ptr m2.vars.length 0, .v (.tuple #[])].getD i .junk) MS (fun r => rfl) rfl ?_ ?_ ?_
    ·intro S i o ho hc hi hr
     match i, ho with
     | 0, ho =>
      cases ho
      refine .inl ?_
      show _ = some (_, MS S)
      simp only [go_sem, reduceIte, Nat.reduceEqDiff, reduceCtorEq, Int.reduceEq, envOf, List.getElem?_cons_zero, List.getElem?_cons_succ, Option.bind_some, List.getD_cons_zero, List.getD_cons_succ, List.getElem?_toArray]
      try rfl
     | 1, ho =>
      cases ho
      refine .inl ?_
      show _ = some (_, MS S)
      simp only [go_sem, reduceIte, Nat.reduceEqDiff, reduceCtorEq, Int.reduceEq, envOf, List.getElem?_cons_zero, List.getElem?_cons_succ, Option.bind_some, List.getD_cons_zero, List.getD_cons_succ, List.getElem?_toArray, lp S]
      try rfl
     | 2, ho =>
      cases ho
      refine .inl ?_
      show _ = some (_, MS S)
      simp only [go_sem, reduceIte, Nat.reduceEqDiff, reduceCtorEq, Int.reduceEq, envOf, List.getElem?_cons_zero, List.getElem?_cons_succ, Option.bind_some, List.getD_cons_zero, List.getD_cons_succ, List.getElem?_toArray]
      try rfl
     | 3, ho =>
      cases ho
      refine .inl ?_
      show _ = some (_, MS S)
      simp only [go_sem, reduceIte, Nat.reduceEqDiff, reduceCtorEq, Int.reduceEq, envOf, List.getElem?_cons_zero, List.getElem?_cons_succ, Option.bind_some, List.getD_cons_zero, List.getD_cons_succ, List.getElem?_toArray, q1 S]
      try rfl
     | 4, ho =>
      cases ho
      refine .inl ?_
      show _ = some (_, MS S)
      simp only [go_sem, reduceIte, Nat.reduceEqDiff, reduceCtorEq, Int.reduceEq, envOf, List.getElem?_cons_zero, List.getElem?_cons_succ, Option.bind_some, List.getD_cons_zero, List.getD_cons_succ, List.getElem?_toArray, g1]
      try rfl
     | 5, ho =>
      cases ho
      refine .inl ?_
      show _ = some (_, MS S)
      simp only [go_sem, reduceIte, Nat.reduceEqDiff, reduceCtorEq, Int.reduceEq, envOf, List.getElem?_cons_zero, List.getElem?_cons_succ, Option.bind_some, List.getD_cons_zero, List.getD_cons_succ, List.getElem?_toArray]
      try rfl
     | 6, ho =>
      cases ho
      refine .inl ?_
      show _ = some (_, MS S)
      simp only [go_sem, reduceIte, Nat.reduceEqDiff, reduceCtorEq, Int.reduceEq, envOf, List.getElem?_cons_zero, List.getElem?_cons_succ, Option.bind_some, List.getD_cons_zero, List.getD_cons_succ, List.getElem?_toArray]
      try rfl
     | 7, ho =>
      cases ho
      refine .inl ?_
      show _ = some (_, MS S)
      simp only [go_sem, reduceIte, Nat.reduceEqDiff, reduceCtorEq, Int.reduceEq, envOf, List.getElem?_cons_zero, List.getElem?_cons_succ, Option.bind_some, List.getD_cons_zero, List.getD_cons_succ, List.getElem?_toArray]
      try rfl
     | 8, ho =>
      cases ho
      refine .inl ?_
      show _ = some (_, MS S)
      simp only [go_sem, reduceIte, Nat.reduceEqDiff, reduceCtorEq, Int.reduceEq, envOf, List.getElem?_cons_zero, List.getElem?_cons_succ, Option.bind_some, List.getD_cons_zero, List.getD_cons_succ, List.getElem?_toArray, q2 S]
      try rfl
     | 9, ho =>
      cases ho
      refine .inl ?_
      show _ = some (_, MS S)
      simp only [go_sem, reduceIte, Nat.reduceEqDiff, reduceCtorEq, Int.reduceEq, envOf, List.getElem?_cons_zero, List.getElem?_cons_succ, Option.bind_some, List.getD_cons_zero, List.getD_cons_succ, List.getElem?_toArray, g2]
      try rfl
     | 10, ho =>
      cases ho
      refine .inl ?_
      show _ = some (_, MS S)
      simp only [go_sem, reduceIte, Nat.reduceEqDiff, reduceCtorEq, Int.reduceEq, envOf, List.getElem?_cons_zero, List.getElem?_cons_succ, Option.bind_some, List.getD_cons_zero, List.getD_cons_succ, List.getElem?_toArray]
      try rfl
     | 11, ho =>
      cases ho
      refine .inl ?_
      show _ = some (_, MS S)
      simp only [go_sem, reduceIte, Nat.reduceEqDiff, reduceCtorEq, Int.reduceEq, envOf, List.getElem?_cons_zero, List.getElem?_cons_succ, Option.bind_some, List.getD_cons_zero, List.getD_cons_succ, List.getElem?_toArray]
      try rfl
     | 12, ho =>
      cases ho
      refine .inl ?_
      show _ = some (_, MS S)
      simp only [go_sem, reduceIte, Nat.reduceEqDiff, reduceCtorEq, Int.reduceEq, envOf, List.getElem?_cons_zero, List.getElem?_cons_succ, Option.bind_some, List.getD_cons_zero, List.getD_cons_succ, List.getElem?_toArray]
      try rfl
     | 13, ho =>
      cases ho
      refine .inl ?_
      show _ = some (_, MS S)
      simp only [go_sem, reduceIte, Nat.reduceEqDiff, reduceCtorEq, Int.reduceEq, envOf, List.getElem?_cons_zero, List.getElem?_cons_succ, Option.bind_some, List.getD_cons_zero, List.getD_cons_succ, List.getElem?_toArray, q3 S]
      try rfl
     | 14, ho =>
      cases ho
      refine .inl ?_
      show _ = some (_, MS S)
      simp only [go_sem, reduceIte, Nat.reduceEqDiff, reduceCtorEq, Int.reduceEq, envOf, List.getElem?_cons_zero, List.getElem?_cons_succ, Option.bind_some, List.getD_cons_zero, List.getD_cons_succ, List.getElem?_toArray, g3]
      try rfl
     | 15, ho =>
      cases ho
      refine .inl ?_
      show _ = some (_, MS S)
      simp only [go_sem, reduceIte, Nat.reduceEqDiff, reduceCtorEq, Int.reduceEq, envOf, List.getElem?_cons_zero, List.getElem?_cons_succ, Option.bind_some, List.getD_cons_zero, List.getD_cons_succ, List.getElem?_toArray]
      try rfl
     | 16, ho =>
      cases ho
      have h17 : S 17 = false := by
       cases h : S 17 with
       | false => rfl
       | true =>
        have := hc 17 _ rfl h ⟨16, .data⟩ (by simp) rfl
        rw [this] at hi
        cases hi
      have e1 : MS S = m2 := by
       show (bif S 16 then (bif S 17 then m2.push x.row else m2.push zeroNd) else m2) = _
       rw [hi]; rfl
      have e2 : MS (ins S 16) = m2.push zeroNd := by
       show (bif true then (bif S 17 then m2.push x.row else m2.push zeroNd) else m2) = _
       rw [h17]; rfl
      refine .inl ?_
      rw [e1, e2]
      simp only [go_sem, reduceIte, Nat.reduceEqDiff, reduceCtorEq, Int.reduceEq, envOf, List.getElem?_cons_zero, List.getElem?_cons_succ, Option.bind_some, List.getD_cons_zero, List.getD_cons_succ, List.getElem?_toArray]
      try rfl
     | 17, ho =>
      cases ho
      have h16 : S 16 = true := hr ⟨16, .data⟩ (by simp) rfl
      have e1 : MS S = m2.push zeroNd := by
       show (bif S 16 then (bif S 17 then m2.push x.row else m2.push zeroNd) else m2) = _
       rw [hi, h16]; rfl
      have e2 : MS (ins S 17) = m2.push x.row := by
       show (bif S 16 then (bif true then m2.push x.row else m2.push zeroNd) else m2) = _
       rw [h16]; rfl
      refine .inl ?_
      rw [e1, e2]
      simp only [go_sem, reduceIte, Nat.reduceEqDiff, reduceCtorEq, Int.reduceEq, envOf, List.getElem?_cons_zero, List.getElem?_cons_succ, Option.bind_some, List.getD_cons_zero, List.getD_cons_succ, List.getElem?_toArray, zs2]
      try rfl
     | n + 18, ho => simp at ho
    ·intro S hS
     show (bif S 16 then (bif S 17 then m2.push x.row else m2.push zeroNd) else m2) = _
     rw [hS 16 (by decide), hS 17 (by decide)]
     rfl
    ·intro e2 h2
     simp only [go_sem, reduceIte, Nat.reduceEqDiff, reduceCtorEq, Int.reduceEq, envOf, restr, kpRvalue, List.map_cons, List.map_nil, List.length_cons, List.length_nil, List.getElem?_cons_zero, List.getElem?_cons_succ, Option.bind_some, List.getD_cons_zero, List.getD_cons_succ, Ev.get] at h2
     subst h2
     have x3 := push_old (cs' := x.row) v3
     have x4 : (m2.push x.row).var m2.vars.length = some x.row := push_var
     have hA3 := above_push (cs := x.row) hA
     generalize m2.push x.row = m3 at x3 x4 hA3
     generalize m2.vars.length = r4 at x4
     have y1 := lpNd (i := 1) (v := x.a) x4 rfl
     have y2 := lpNd (i := 2) (v := x.b) x4 rfl
     have y3 := lpNd (i := 3) (v := x.c) x4 rfl
     obtain ⟨f, hfn⟩ := Int.eq_ofNat_of_zero_le hf.1
     have hf3 : f < 3 := by omega
     have y4 : evLoad Try.prog m3 3 (.ptr r3 3) = some (.v (.int .i64 (f : Int))) := by rw [← hfn]; exact lpPlField x3
     have y5 := atInts (g := .full) (kk := .i64) (l := [x.a, x.b, x.c]) (i := f) (by simpa using hf3)
     have hget : [x.a, x.b, x.c].getD f 0 = fldN x p.field := by
      rw [hfn]
      have : f = 0 ∨ f = 1 ∨ f = 2 := by omega
      rcases this with rfl | rfl | rfl <;> rfl
     rw [hget] at y5
     refine xn_normal ?_
     refine x_lift (kp := kpRvalue) mixed hC ?_
     refine go1 (jn @y1 (jn @y2 (jn @y3 (jn @y4 @y5)))) ?_
     exact x_leaves (leaves_fin rfl rfl (above_fin hA3))
   ·cases h
  ·cases h
 ·cases h
end
end Go.Proofs.Ytmockbddhhmmeaa.Ev
