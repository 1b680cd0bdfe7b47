/- A runner's step. -/
import Derived.Test.YtmockbddhhmmeaaGreatMbmkl13
namespace Go.Proofs.YtmockbddhhmmeaaGreat.Ev
open Go Go.Proofs
set_option maxRecDepth 10000
set_option maxHeartbeats 8000000
set_option linter.unusedVariables false
set_option linter.unusedSimpArgs false
noncomputable section
attribute [local irreducible] Next Inside Runs Ops table
attribute [local irreducible] XRuns XOps XLin XAny
attribute [local go_sem] szStr szInt Option.getD_some isNil evMinMax evFoldI iv mapPn mapSs mapIn cellsPn cellsSs cellsIn fpRnIs fpRnP fpRnS List.cons_append zrOu zoOu znOu zrSs zoSs szSs szOu mapOu zOu cellsOu
theorem above_setlo {m m' : Mem} {r : Nat} {cs : List AV} (h : Above m m') (hr : r < m.vars.length) : Above (setv m r cs) (setv m' r cs) := by
 obtain ⟨L, rfl⟩ := h
 refine ⟨L, ?_⟩
 unfold setv Mem.putv
 simp only [List.set_append_left _ _ hr]
theorem fin_setv {m m' : Mem} {r : Nat} {cs cs' : List AV} (h : m.var r = some cs) (hA : Above (setv m r cs') m') : finMem m m' = setv m r cs' := fin_putT (ts := m.toks) h (.inr rfl) hA
theorem rn_p (p : Pn) (s : Ss) (b : Bool) : ((Rn.mk b p s).row.drop 1).take 33 = p.row := rfl
theorem rn_s (p : Pn) (s : Ss) (b : Bool) : (Rn.mk b p s).row.drop 34 = s.row := rfl
theorem rn_parts {row : List AV} {p : Pn} {s : Ss} {b : Bool} (h0 : row.take 1 = [.v (.bool b)]) (h1 : (row.drop 1).take 33 = p.row) (h2 : row.drop 34 = s.row) : row = (Rn.mk b p s).row := by
 have e2 : row.drop 34 = (row.drop 1).drop 33 := by rw [List.drop_drop]
 have : row = row.take 1 ++ ((row.drop 1).take 33 ++ row.drop 34) := by rw [e2, List.take_append_drop, List.take_append_drop]
 rw [this, h0, h1, h2]
 rfl
open Classical in
def rstepG : List AV → Mem → Option (AV × Mem)
 | [.ptr r 0, .agg xs], m =>
  match m.var r, unIn xs with
  | some row, some x =>
   match row.take 1, unPn ((row.drop 1).take 33), unSs (row.drop 34) with
   | [.v (.bool true)], some p, some s => if pnIn p ∧ ssIn s ∧ inIn x then some (.tup [.agg (stepV p s x).2.1.row, .v (.int .i64 (stepV p s x).2.2)], if (stepV p s x).2.2 = 0 then setv m r (Rn.mk true p (stepV p s x).1).row else m) else none
   | _, _, _ => none
  | _, _ => none
 | _, _ => none
theorem rstep_eq {m : Mem} {r : Nat} {p : Pn} {s : Ss} {x : In} (hv : m.var r = some (Rn.mk true p s).row) (h : pnIn p ∧ ssIn s ∧ inIn x) : rstepG [.ptr r 0, .agg x.row] m = some (.tup [.agg (stepV p s x).2.1.row, .v (.int .i64 (stepV p s x).2.2)], if (stepV p s x).2.2 = 0 then setv m r (Rn.mk true p (stepV p s x).1).row else m) := by
 unfold rstepG
 simp only [hv, unIn_row, rn_p, rn_s, unPn_row, unSs_row]
 exact if_pos h
theorem step_err {p : Pn} {s : Ss} {x : In} (h : (stepV p s x).2.2 ≠ 0) : (stepV p s x).2.1 = ou0 := by
 unfold stepV at h ⊢
 split
 ·rfl
 ·rename_i h1
  rw [if_neg h1] at h
  split
  ·rfl
  ·rename_i h2
   rw [if_neg h2] at h
   exact absurd rfl h
def kpRstep : Nat → Option (List Nat) := fun
 | 0 => some [0, 3, 4]
 | 1 => some [0, 3, 4, 11]
 | 2 => some [4, 5]
 | 3 => some [0, 4, 6, 7, 8]
 | 4 => some [0, 4, 6, 7, 8, 28]
 | 5 => some [4, 5]
 | 6 => some [4, 7]
 | 7 => some [4, 5]
 | _ => none
attribute [go_sem] kpRstep
def tabRstep : List (FuncId × (List AV → Mem → Option (AV × Mem))) := [(46, rokG), (47, stepG)]
theorem rstep_ok : FunOk Tryz.prog 32 rstepG := by
 have hC := table_ok (P := Tryz.prog) (l := tabRstep) (table_more rok_ok (table_more step_ok table_nil))
 have t1 := fun args mm => table_at (l := tabRstep) (f := 46) (args := args) (m := mm) rfl
 have t2 := fun args mm => table_at (l := tabRstep) (f := 47) (args := args) (m := mm) rfl
 refine fun_okX Tryz.func32 rfl false rfl fun args m r h => ?_
 unfold rstepG at h
 split at h
 ·rename_i r0 xs
  split at h
  ·rename_i row x hv hx0
   obtain rfl := unIn_some hx0
   split at h
   ·rename_i p s g0 g1 g2
    rw [rn_parts g0 (unPn_some g1) (unSs_some g2)] at hv
    split at h
    ·rename_i hd
     simp only [Option.some.injEq] at h
     subst h
     clear g0 g1 g2
     refine ⟨Nat.le_of_ble_eq_true rfl, fun φ wd => ?_⟩
     refine en ?_
     have v3 : ((m.push x.row).push zeroOu).var m.vars.length = some x.row := push_old push_var
     have v4 : ((m.push x.row).push zeroOu).var (m.push x.row).vars.length = some zeroOu := push_var
     have v0 : ((m.push x.row).push zeroOu).var r0 = some (Rn.mk true p s).row := push_old (push_old hv)
     have n1 := newIn (m := m) (x := x)
     have n2 := znOu (m := m.push x.row)
     have hA := above_push (cs := zeroOu) (above_push (cs := x.row) (above_self m))
     have hr0 := (var_lt hv).1
     have hg4 : m.vars.length ≤ (m.push x.row).vars.length := by rw [push_len]; omega
     have hn4 : r0 ≠ (m.push x.row).vars.length := by rw [push_len]; omega
     refine xq ?_
     refine x_region (kp := kpRstep) mixed hC ?_
     refine go1 (jn @n1 @n2) ?_
     refine xq ?_
     generalize (m.push x.row).push zeroOu = m2 at v3 v4 v0 hA
     generalize (m.push x.row).vars.length = r4 at v4 hg4 hn4
     generalize m.vars.length = r3 at v3
     have c1 := rok_eq v0
     refine x_region (kp := kpRstep) mixed hC ?_
     refine go1 (jn @t1 @c1) ?_
     refine xq ?_
     refine x_cond rfl (fun hc => by cases hc) (fun hc => ?_)
     have l1 := lpRnP v0
     have l2 := lpRnS v0
     have l3 := vrIn v3
     have c2 := step_eq hd
     have he := step_err (p := p) (s := s) (x := x)
     generalize stepV p s x = Y at c2 he ⊢
     obtain ⟨S, O, E⟩ := Y
     dsimp only at c2 he ⊢
     refine xq ?_
     refine x_walk0 (l2 := kpRstep 3) mixed hC (by kernel_rfl) ?_
     refine gof1 (jn @l1 (jn @l2 (jn @l3 (jn @t2 @c2)))) ?_
     refine xq ?_
     have v6 : ((m2.push S.row).push O.row).var m2.vars.length = some S.row := push_old push_var
     have v7 : ((m2.push S.row).push O.row).var (m2.vars.length + 1) = some O.row := by
      have := push_var (m := m2.push S.row) (cs := O.row)
      rwa [push_len] at this
     have u0 : ((m2.push S.row).push O.row).var r0 = some (Rn.mk true p s).row := push_old (push_old v0)
     have u4 : ((m2.push S.row).push O.row).var r4 = some zeroOu := push_old (push_old v4)
     have hA5 := above_push (cs := O.row) (above_push (cs := S.row) hA)
     have hn47 : m2.vars.length + 1 ≠ r4 := by have := (var_lt v4).1; omega
     have hn07 : m2.vars.length + 1 ≠ r0 := by have := (var_lt v0).1; omega
     generalize (m2.push S.row).push O.row = m5 at v6 v7 u0 u4 hA5 ⊢
     generalize m2.vars.length + 1 = r7 at v7 hn47 hn07 ⊢
     generalize m2.vars.length = r6 at v6 ⊢
     refine x_region (kp := kpRstep) mixed hC ?_
     refine go0 ?_
     refine xq ?_
     refine x_cond rfl (fun hc => ?_) (fun hc => ?_)
     ·have hne : E ≠ 0 := by simpa using hc
      rw [if_neg hne, he hne]
      have st : evStore Tryz.prog m5 65 (.ptr r4 0) (.agg zeroOu) = some (setv m5 r4 zeroOu) := store_part u4 szOu rfl rfl (Nat.le_refl _) rfl rfl
      refine xq ?_
      refine x_region (kp := kpRstep) mixed hC ?_
      refine go1 (jn @mk0Ou @st) ?_
      refine xq ?_
      exact x_leaves (leaves_ct rfl (load_sub (off := 0) (setv_var u4) szOu agOu (Nat.le_refl _) rfl) rfl rfl (above_fin (above_setv hA5 hg4)))
     ·have hez : E = 0 := by simpa using hc
      rw [if_pos hez]
      have l6 := vrSs v6
      have st0 : evStore Tryz.prog m5 46 (.ptr r0 34) (.agg S.row) = some (setv m5 r0 (Rn.mk true p S).row) := store_part u0 szSs rfl rfl (Nat.le_of_ble_eq_true rfl) rfl rfl
      have w7 : (setv m5 r0 (Rn.mk true p S).row).var r7 = some O.row := setv_other v7 hn07
      have w4 : (setv m5 r0 (Rn.mk true p S).row).var r4 = some zeroOu := setv_other u4 (fun h => hn4 h.symm)
      have hA6 := above_setlo (cs := (Rn.mk true p S).row) hA5 hr0
      refine xq ?_
      refine x_region (kp := kpRstep) mixed hC ?_
      refine go1 (jn @l6 @st0) ?_
      refine xq ?_
      generalize setv m5 r0 (Rn.mk true p S).row = m6 at w7 w4 hA6 ⊢
      have l7 := vrOu (g := .no) w7
      have st4 : evStore Tryz.prog m6 65 (.ptr r4 0) (.agg O.row) = some (setv m6 r4 O.row) := store_part w4 szOu rfl rfl (Nat.le_refl _) rfl rfl
      refine x_region (kp := kpRstep) mixed hC ?_
      refine go1 (jn @l7 @st4) ?_
      refine xq ?_
      exact x_leaves (leaves_ct rfl (vrOu (g := .no) (setv_var w4)) rfl (by rw [hez]; rfl) (fin_setv hv (above_setv hA6 (by rw [setv_len]; exact hg4))))
    ·cases h
   ·cases h
  ·cases h
 ·cases h
end
section
attribute [local irreducible] Next Inside Runs Ops table
theorem putOut_len (b : Bool) (l : List Kt) (x : Kt) : (putOut b l x).length = l.length + 1 := by
 have := putAt_le b l x
 unfold putOut
 simp
 omega
theorem putOut_mem {b : Bool} {l : List Kt} {x y : Kt} (h : y ∈ putOut b l x) : y = x ∨ y ∈ l := by
 unfold putOut at h
 simp only [List.mem_append, List.mem_cons] at h
 rcases h with h | rfl | h
 ·exact .inr (List.mem_of_mem_take h)
 ·exact .inl rfl
 ·exact .inr (List.mem_of_mem_drop h)
theorem putV_in {cnt : Int} {b : Bool} {l : List Kt} {x : Kt} (hx : inI x.val) (hl : ∀ y ∈ l, inI y.val) : (putV cnt b l x).1.length ≤ l.length + 1 ∧ ∀ y ∈ (putV cnt b l x).1, inI y.val := by
 have h1 := putOut_len b l x
 have h2 : ∀ y ∈ putOut b l x, inI y.val := fun y hy => by
  rcases putOut_mem hy with rfl | h
  ·exact hx
  ·exact hl y h
 unfold putV
 split
 ·exact ⟨by show (putOut b l x).length ≤ _; omega, h2⟩
 ·refine ⟨?_, fun y hy => h2 y (List.mem_of_mem_take hy)⟩
  show (List.take _ _).length ≤ _
  rw [List.length_take]
  omega
theorem takeW_in {w : Wt} {x : Int} {r : Ru} (hw : inI w.best) (hx : inI x) : inI (takeW w x r).best := by
 unfold takeW
 split
 ·exact hx
 ·exact hw
theorem cutV_in {c : Ct} {x : Int} {p : Pt} (hc : inI c.watch.best ∧ inI c.rest ∧ inI c.scale) (hx : inI x) (hf : inI p.Factor) (hcd : inI p.Cooldown) : inI (cutV c x p).1.watch.best ∧ inI (cutV c x p).1.rest ∧ inI (cutV c x p).1.scale := by
 have hw : inI (cutW c x p).best := takeW_in hc.1 hx
 unfold cutV
 split
 ·rename_i h
  refine ⟨hw, ?_, hc.2.2⟩
  have := hc.2.1
  unfold inI at this ⊢
  constructor
  ·show _ ≤ c.rest - 1
   omega
  ·show c.rest - 1 ≤ _
   omega
 ·split
  ·exact ⟨hw, hc.2.1, hc.2.2⟩
  ·exact ⟨hw, hcd, mulV_in hc.2.2 hf⟩
theorem emaV_in {a w : List Int} {d : Int} (hw : w.length ≤ 1000000 ∧ ∀ y ∈ w, inI y) : (emaV a w d).1.length ≤ 1000000 ∧ ∀ y ∈ (emaV a w d).1, inI y := by
 unfold emaV
 split
 ·exact ⟨Nat.zero_le _, fun y hy => by cases hy⟩
 ·split
  ·exact hw
  ·split
   ·exact ⟨Nat.zero_le _, fun y hy => by cases hy⟩
   ·refine ⟨by simp; exact hw.1, fun y hy => ?_⟩
    obtain ⟨i, _, rfl⟩ := List.mem_map.1 hy
    exact lerpV_in
theorem swaV_in {s : Sm} {w : List Int} (hw : w.length ≤ 1000000) : (swaV s w).1.sums.length ≤ 1000000 := by
 unfold swaV
 split
 ·exact Nat.zero_le _
 ·split
  ·exact Nat.zero_le _
  ·split
   ·exact hw
   ·split
    ·exact Nat.zero_le _
    ·split
     ·rename_i L hL
      show L.length ≤ _
      rw [addTo_len hL]
      exact hw
     ·exact Nat.zero_le _
/-- The state of a turn, within its bounds; its list of kept steps is no longer than so many. -/
def tIn (k : Nat) (s : Ss) : Prop := (s.kept.length ≤ k ∧ ∀ y ∈ s.kept, inI y.val) ∧ (inI s.cut.watch.best ∧ inI s.cut.rest ∧ inI s.cut.scale) ∧ inI s.stop.best ∧ (s.ema.length ≤ 1000000 ∧ ∀ y ∈ s.ema, inI y) ∧ s.swa.sums.length ≤ 1000000
theorem tIn_mono {k k' : Nat} {s : Ss} (h : tIn k s) (hk : k ≤ k') : tIn k' s := ⟨⟨Nat.le_trans h.1.1 hk, h.1.2⟩, h.2⟩
theorem emaT_in {T : Tn} {k : Nat} (h : tIn k T.s) (hx : inIn T.x) : tIn k T.emaT.s := by
 unfold Tn.emaT
 split
 ·exact ⟨h.1, h.2.1, h.2.2.1, emaV_in ⟨hx.1.2, hx.2.2⟩, h.2.2.2.2⟩
 ·exact h
theorem wts_in {T : Tn} {k : Nat} (h : tIn k T.s) (hx : inIn T.x) : tIn k T.wts.1.s := by
 unfold Tn.wts
 split
 ·split
  ·exact h
  ·exact emaT_in (T := (T.tell 4 T.s.swa.count).setSwa (wSum T).1) ⟨h.1, h.2.1, h.2.2.1, h.2.2.2.1, swaV_in hx.1.2⟩ hx
 ·exact emaT_in h hx
theorem keeps_in {T : Tn} {k : Nat} {x : Int} (h : tIn k T.s) (hx : inI x) : tIn (k + 1) (T.keeps x).s := by
 have hp := putV_in (cnt := mx T.p.keep.Count 0) (b := T.p.keep.Max) (x := ⟨T.step, x⟩) hx h.1.2
 have : tIn (k + 1) (T.setKept (kPut T x).1).s := ⟨⟨Nat.le_trans hp.1 (by have := h.1.1; omega), hp.2⟩, h.2⟩
 unfold Tn.keeps Tn.keepsY
 split
 ·exact this
 ·split <;> exact this
theorem cuts_in {T : Tn} {k : Nat} {x : Int} (h : tIn k T.s) (hx : inI x) (hp : pnIn T.p) : tIn k (T.cuts x).s := by
 have hc := cutV_in (p := T.p.plateau) h.2.1 hx hp.2.2.1 hp.2.2.2.2
 have : tIn k (T.setCut (cutV T.s.cut x T.p.plateau).1).s := ⟨h.1, hc, h.2.2⟩
 unfold Tn.cuts Tn.cutsY
 split <;> exact this
theorem stops_in {T : Tn} {k : Nat} {x : Int} (h : tIn k T.s) (hx : inI x) : tIn k (T.stops x).s := by
 have hw : inI (takeW T.s.stop x T.rule).best := takeW_in h.2.2.1 hx
 have : tIn k (T.setStop (takeW T.s.stop x T.rule)).s := ⟨h.1, h.2.1, hw, h.2.2.2⟩
 unfold Tn.stops Tn.stopsY
 split <;> exact this
theorem look_in {T : Tn} {k : Nat} (h : tIn k T.s) (hx : inIn T.x) (hp : pnIn T.p) : tIn (k + 1) T.look.s := by
 have h1 : tIn (k + 1) T.miss.look1.s := by
  unfold Tn.look1
  split
  ·rename_i hb
   exact keeps_in (T := T.miss) h (rd_in (T := T.miss) hx.2.1 hb)
  ·exact tIn_mono (s := T.miss.s) h (Nat.le_succ k)
 obtain ⟨e1, e2, _, _⟩ := look1_same T.miss
 have hx1 : T.miss.look1.x = T.x := e1
 have hp1 : T.miss.look1.p = T.p := e2
 have h2 : tIn (k + 1) T.miss.look1.look2.s := by
  unfold Tn.look2
  split
  ·rename_i hb
   exact cuts_in h1 (rd_in (by rw [hx1]; exact hx.2.1) hb) (by rw [hp1]; exact hp)
  ·exact h1
 obtain ⟨f1, _, _⟩ := look2_same T.miss.look1
 have hx2 : T.miss.look1.look2.x = T.x := f1.trans hx1
 unfold Tn.look Tn.look3
 split
 ·rename_i hb
  exact stops_in h2 (rd_in (by rw [hx2]; exact hx.2.1) hb)
 ·exact h2
theorem run_in {T : Tn} {k : Nat} (h : tIn k T.s) (hx : inIn T.x) (hp : pnIn T.p) : tIn (k + 1) T.run.s := by
 have h1 : tIn k T.begins.wts.1.s := wts_in (T := T.begins) h hx
 obtain ⟨e1, e2, _⟩ := wts_same T.begins
 have hx1 : T.begins.wts.1.x = T.x := e1
 have hp1 : T.begins.wts.1.p = T.p := e2
 have h2 : tIn (k + 1) T.begins.wts.1.run2.s := by
  unfold Tn.run2
  split
  ·exact look_in h1 (by rw [hx1]; exact hx) (by rw [hp1]; exact hp)
  ·exact tIn_mono h1 (Nat.le_succ k)
 unfold Tn.run
 split
 ·unfold Tn.run3
  split
  ·exact h2
  ·split
   ·exact h2
   ·exact h2
 ·exact tIn_mono (s := (T.begins.wts.1.stat 3).s) h1 (Nat.le_succ k)
theorem kept_le {p : Pn} {s : Ss} (h : stateOkB p s = true) : s.kept.length ≤ 16 := by
 unfold stateOkB at h
 simp only [Bool.and_eq_true] at h
 obtain ⟨hpl, _, _, _, hk, _⟩ := h
 unfold keptStB at hk
 split at hk
 ·have := eq_of_beq hk
  omega
 ·rename_i hneg
  simp only [Bool.and_eq_true, Bool.not_eq_true', Bool.or_eq_false_iff, Bool.not_eq_false'] at hk
  have h2 := hk.1.2
  unfold keptOkB at h2
  simp only [Bool.and_eq_true, decide_eq_true_eq] at h2
  have h3 := (planOk_parts hpl).2.2.2.2.2.2.2.2.2.2.1
  unfold keepOkB at h3
  rw [if_neg (by omega)] at h3
  simp only [Bool.and_eq_true, inB_iff] at h3
  omega
theorem step_in {p : Pn} {s : Ss} {x : In} (hp : pnIn p) (hs : ssIn s) (hx : inIn x) (h : (stepV p s x).2.2 = 0) : ssIn (stepV p s x).1 := by
 unfold stepV at h ⊢
 split
 ·rename_i h1
  rw [if_pos h1] at h
  cases h
 ·rename_i h1
  rw [if_neg h1] at h
  split
  ·rename_i h2
   rw [if_pos h2] at h
   exact absurd h h2
  ·rename_i h2
   have hg := goes_good (p := p) (s := s) (by simpa using h2)
   have hT : tIn 16 (turnAt p s x).s := ⟨⟨kept_le hg.1, hs.1.2⟩, hs.2⟩
   have hr := run_in (T := turnAt p s x) hT hx hp
   exact ⟨⟨Nat.le_trans hr.1.1 (by decide), hr.1.2⟩, hr.2⟩
end
noncomputable section
attribute [local irreducible] Next Inside Runs Ops table
attribute [local irreducible] XRuns XOps XLin XAny
attribute [local go_sem] szStr szInt Option.getD_some isNil evMinMax evFoldI iv mapPn mapSs mapIn cellsPn cellsSs cellsIn newPn newSs fpRnIs fpRnP fpRnS fpRnSStatus List.cons_append zrOu zoOu znOu zrSs zoSs znSs zrIn zoIn znIn szSs szOu mapOu zOu zSs cellsOu rowsIn_len ldIn mk0Ss
/-- So far, behind so many inputs: the state, the trace, an error. -/
def goTo (p : Pn) (l : List In) (s : Ss) : Nat → Ss × List Ou × Int
 | 0 => (s, [], 0)
 | i + 1 => if (goTo p l s i).2.2 ≠ 0 then goTo p l s i else if (goTo p l s i).1.status ≠ 0 then goTo p l s i else
  if (stepV p (goTo p l s i).1 (l.getD i in0)).2.2 ≠ 0 then (ss0, [], (stepV p (goTo p l s i).1 (l.getD i in0)).2.2) else
  ((stepV p (goTo p l s i).1 (l.getD i in0)).1, (goTo p l s i).2.1 ++ [(stepV p (goTo p l s i).1 (l.getD i in0)).2.1], 0)
theorem goTo_stay {p : Pn} {l : List In} {s : Ss} {i : Nat} (h : (goTo p l s i).2.2 ≠ 0 ∨ (goTo p l s i).1.status ≠ 0) : ∀ n, i ≤ n → goTo p l s n = goTo p l s i := by
 intro n
 induction n with
 | zero => intro hn; rw [show i = 0 by omega]
 | succ n ih =>
  intro hn
  by_cases he : i = n + 1
  ·rw [he]
  ·have e := ih (by omega)
   rw [goTo, e]
   split
   ·rfl
   ·rename_i h1
    rw [if_pos (h.resolve_left h1)]
def fromV (p : Pn) (s : Ss) (l : List In) : Ss × List Ou × Int := if stateOkB p s = true then goTo p l s l.length else (ss0, [], 1)
def fromDom (p : Pn) (s : Ss) (l : List In) : Prop := pnIn p ∧ ssIn s ∧ l.length ≤ 1000000 ∧ ∀ x ∈ l, inIn x
open Classical in
def fromG : List AV → Mem → Option (AV × Mem)
 | [.agg ps, .agg ss, .lst _ 2 rows], m =>
  match unPn ps, unSs ss, unsIn rows with
  | some p, some s, some l => if fromDom p s l then some (.tup [.lst .no 6 (rowsOu (fromV p s l).2.1), .agg (fromV p s l).1.row, .v (.int .i64 (fromV p s l).2.2)], m) else none
  | _, _, _ => none
 | _, _ => none
theorem from_eq {p : Pn} {s : Ss} {l : List In} {g : Grow} (h : fromDom p s l) (m : Mem) : fromG [.agg p.row, .agg s.row, .lst g 2 (rowsIn l)] m = some (.tup [.lst .no 6 (rowsOu (fromV p s l).2.1), .agg (fromV p s l).1.row, .v (.int .i64 (fromV p s l).2.2)], m) := by
 simp only [fromG, unPn_row, unSs_row, unsIn_rowsIn]
 exact if_pos h
theorem stIn {m : Mem} {x : In} : evStore Tryz.prog (m.push zeroIn) 82 (.ptr m.vars.length 0) (.agg x.row) = some (m.push x.row) := by
 rw [store_push (cs := x.row) rfl szIn (Nat.le_refl _) rfl]
 rfl
theorem stOu {m : Mem} {x : Ou} : evStore Tryz.prog (m.push zeroOu) 65 (.ptr m.vars.length 0) (.agg x.row) = some (m.push x.row) := by
 rw [store_push (cs := x.row) rfl szOu (Nat.le_refl _) rfl]
 rfl
def kpFrom : Nat → Option (List Nat) := fun
 | 0 => some [2, 3, 4, 7]
 | 1 => some [2, 7, 9, 10]
 | 2 => some [2, 7, 9, 10, 24]
 | 3 => some [6, 7, 8]
 | 4 => some [2, 7, 9, 11]
 | 5 => some [2, 7, 9, 11, 12]
 | 6 => some [7, 9, 11, 12, 29, 30, 31]
 | 7 => some [7, 9, 11, 12, 29, 30, 31, 32]
 | 8 => some [7, 9, 11, 12, 14, 29, 30, 31]
 | 9 => some [7, 9, 11, 12, 14, 29, 30, 31, 40]
 | 10 => some [7, 9, 11, 12, 15, 16, 29, 30, 31]
 | 11 => some [7, 9, 11, 12, 15, 16, 29, 30, 31, 48]
 | 12 => some [6, 7, 8]
 | 13 => some [7, 9, 11, 12, 29, 30, 31]
 | 14 => some [7, 9, 11, 12, 29, 30, 31]
 | 15 => some [6, 7, 8]
 | _ => none
attribute [go_sem] kpFrom
def tabFrom : List (FuncId × (List AV → Mem → Option (AV × Mem))) := [(32, rstepG)]
theorem from_ok : FunOk Tryz.prog 23 fromG := by
 have hC := table_ok (P := Tryz.prog) (l := tabFrom) (table_more rstep_ok table_nil)
 have t1 := fun args mm => table_at (l := tabFrom) (f := 32) (args := args) (m := mm) rfl
 refine fun_okX Tryz.func23 rfl false rfl fun args m r h => ?_
 unfold fromG at h
 split at h
 ·rename_i ps ss gl rows
  split at h
  ·rename_i p s l hp0 hs0 hl0
   obtain rfl := unPn_some hp0
   obtain rfl := unSs_some hs0
   obtain rfl := unsIn_some hl0
   split at h
   ·rename_i hd
    obtain ⟨hp, hs, hlen, hins⟩ := hd
    simp only [Option.some.injEq] at h
    subst h
    refine ⟨Nat.le_of_ble_eq_true rfl, fun φ wd => ?_⟩
    refine en ?_
    have v3 : (((m.push p.row).push s.row).push zeroSs).var m.vars.length = some p.row := push_old (push_old push_var)
    have v4 : (((m.push p.row).push s.row).push zeroSs).var (m.push p.row).vars.length = some s.row := push_old push_var
    have v7 : (((m.push p.row).push s.row).push zeroSs).var ((m.push p.row).push s.row).vars.length = some zeroSs := push_var
    have hA := above_push (cs := zeroSs) (above_push (cs := s.row) (above_push (cs := p.row) (above_self m)))
    have hg7 : m.vars.length ≤ ((m.push p.row).push s.row).vars.length := by rw [push_len, push_len]; omega
    refine xq ?_
    refine x_region (kp := kpFrom) mixed hC ?_
    refine go0 ?_
    refine xq ?_
    generalize ((m.push p.row).push s.row).push zeroSs = m2 at v3 v4 v7 hA
    generalize ((m.push p.row).push s.row).vars.length = r7 at v7 hg7
    generalize (m.push p.row).vars.length = r4 at v4
    generalize m.vars.length = r3 at v3
    have l1 := vrPn v3
    have l2 := vrSs v4
    have z0 : ((0 : Int) != 0) = false := rfl
    have z1 : ((1 : Int) != 0) = true := rfl
    refine x_ops (l2 := kpFrom 1) ?_
    refine gox1 hC (jn @l1 @l2) ?_
    refine xops_step (xs_callF2 (x := .tmp 18) (y := .tmp 19) rest_ok rfl rfl (by decide) rfl rfl rfl rfl rfl ⟨p, s, rfl, hp.1, hs.1⟩ fun r mm F' hpost _ => ?_)
    obtain ⟨hm2, hcase⟩ := hpost p s rfl
    subst hm2
    rw [List.append_nil]
    unfold fromV
    rcases hcase with ⟨hok, b, rfl, rfl⟩ | ⟨hok, rfl, rfl⟩
    ·rw [if_pos hok]
     refine gox0 hC ?_
     refine xq ?_
     refine x_region (kp := kpFrom) mixed hC ?_
     refine go1 @z0 ?_
     refine xq ?_
     refine x_cond rfl (fun hc => by cases hc) (fun hc => ?_)
     refine xq ?_
     refine x_adopt 9 rfl ?_
     have v9 : (mm.push (Rn.mk true p s).row).var mm.vars.length = some (Rn.mk true p s).row := push_var
     have w7 := push_old (cs' := (Rn.mk true p s).row) v7
     have hA9 := aboveT_of (above_push (cs := (Rn.mk true p s).row) hA)
     have hg9 : m.vars.length ≤ mm.vars.length := above_len hA
     have hn9 : mm.vars.length ≠ r7 := by have := (var_lt v7).1; omega
     generalize mm.push (Rn.mk true p s).row = m9 at v9 w7 hA9 ⊢
     generalize mm.vars.length = r9 at v9 hg9 hn9 ⊢
     refine x_region (kp := kpFrom) mixed hC ?_
     refine go0 ?_
     refine xq ?_
     refine x_region (kp := kpFrom) mixed hC ?_
     refine go0 ?_
     refine xq ?_
     refine x_region (kp := kpFrom) mixed hC ?_
     refine go0 ?_
     refine xn_normal ?_
     refine x_cutN (fun e m' F => ∃ (S : Ss) (acc : List Ou) (g : Grow), goTo p l s l.length = (S, acc, 0) ∧ AboveT m m' ∧ m'.var r9 = some (Rn.mk true p S).row ∧ m'.var r7 = some zeroSs ∧ Ev.restr (some [7, 9, 12]) e = [(7, AV.ptr r7 0), (9, .ptr r9 0), (12, .lst g 6 (rowsOu acc))] ∧ F = []) ?_ ?_
     ·refine x_block ?_
      refine x_loop (fun k e m' F => ∃ (i : Nat) (S : Ss) (acc : List Ou) (g : Grow), i ≤ l.length ∧ goTo p l s i = (S, acc, 0) ∧ acc.length ≤ i ∧ ssIn S ∧ AboveT m m' ∧ tokOk m m' g ∧ m'.var r9 = some (Rn.mk true p S).row ∧ m'.var r7 = some zeroSs ∧ k = l.length - i ∧ F = [] ∧
       e = [(7, AV.ptr r7 0), (9, .ptr r9 0), (11, .fn (.func 32) [.ptr r9 0] []), (12, .lst g 6 (rowsOu acc)), (29, .lst gl 2 (rowsIn l)), (30, .v (.int .i64 l.length)), (31, .v (.int .i64 (i : Int)))]) (k := l.length)
       ⟨0, s, [], .full, Nat.zero_le _, rfl, Nat.zero_le _, hs, hA9, .inl rfl, v9, w7, rfl, rfl, rfl⟩ ?_
      rintro k e m' F ⟨i, S, acc, g, hi, hgo, hacc, hS, hA', hg', u9, u7, rfl, rfl, rfl⟩
      refine xq ?_
      refine x_region (kp := kpFrom) mixed hC ?_
      refine go0 ?_
      refine xq ?_
      refine x_cond rfl (fun hc => ?_) (fun hc => ?_)
      ·have hi1 : i < l.length := by have := of_decide_eq_true hc; omega
       have f1 := atIn (g := gl) (kk := .i64) hi1
       have r6 := next_i64 (i := i) (by omega)
       have hN : goTo p l s (i + 1) = if S.status ≠ 0 then (S, acc, 0) else if (stepV p S (l.getD i in0)).2.2 ≠ 0 then (ss0, [], (stepV p S (l.getD i in0)).2.2) else ((stepV p S (l.getD i in0)).1, acc ++ [(stepV p S (l.getD i in0)).2.1], 0) := by
        rw [goTo, hgo]
        rfl
       have hx := hins (l.getD i in0) (getD_in hi1)
       have hdom : pnIn p ∧ ssIn S ∧ inIn (l.getD i in0) := ⟨hp, hS, hx⟩
       have cS := fun {mq : Mem} (hv : mq.var r9 = some (Rn.mk true p S).row) => rstep_eq (x := l.getD i in0) hv hdom
       have hkeep : (stepV p S (l.getD i in0)).2.2 = 0 → ssIn (stepV p S (l.getD i in0)).1 := step_in hp hS hx
       generalize l.getD i in0 = x at f1 hN cS hkeep
       have st := stIn (m := m') (x := x)
       have v14 : (m'.push x.row).var m'.vars.length = some x.row := push_var
       have y9 := push_old (cs' := x.row) u9
       have y7 := push_old (cs' := x.row) u7
       have hA14 := aboveT_push (cs := x.row) hA'
       have hg14 := tokOk_push (cs := x.row) hg'
       refine xq ?_
       refine x_region (kp := kpFrom) mixed hC ?_
       refine go1 (jn @f1 @st) ?_
       refine xq ?_
       generalize m'.push x.row = m3 at v14 y9 y7 hA14 hg14 ⊢
       generalize m'.vars.length = r14 at v14 ⊢
       have l3 := lpRnSStatus y9
       refine x_region (kp := kpFrom) mixed hC ?_
       refine go1 @l3 ?_
       refine xq ?_
       refine x_cond rfl (fun hc => ?_) (fun hc => ?_)
       ·have hst : S.status ≠ 0 := by simpa using hc
        refine xq ?_
        refine ⟨S, acc, g, ?_, hA14, y9, y7, rfl, rfl⟩
        rw [goTo_stay (i := i) (by rw [hgo]; exact .inr hst) _ hi, hgo]
       ·have hst : S.status = 0 := by simpa using hc
        rw [if_neg (by omega)] at hN
        have c2 := cS y9
        have l4 := vrIn v14
        generalize stepV p S x = Y at hN c2 hkeep
        obtain ⟨S2, O, E⟩ := Y
        dsimp only at hN c2 hkeep
        by_cases hE : E = 0
        ·subst hE
         rw [if_neg (by decide)] at hN
         rw [if_pos rfl] at c2
         have z9 : (setv m3 r9 (Rn.mk true p S2).row).var r9 = some (Rn.mk true p S2).row := setv_var y9
         have z7 : (setv m3 r9 (Rn.mk true p S2).row).var r7 = some zeroSs := setv_other y7 (fun h => hn9 h.symm)
         have hA15 := aboveT_setv (q := r9) (cs := (Rn.mk true p S2).row) hA14 hg9
         have hg15 := tokOk_setv (q := r9) (cs := (Rn.mk true p S2).row) hg14
         have st15 := stOu (m := setv m3 r9 (Rn.mk true p S2).row) (x := O)
         refine xq ?_
         refine x_region (kp := kpFrom) mixed hC ?_
         refine go1 (jn @l4 (jn @t1 (jn @c2 @st15))) ?_
         refine xq ?_
         generalize setv m3 r9 (Rn.mk true p S2).row = m4 at z9 z7 hA15 hg15 ⊢
         have v15 : (m4.push O.row).var m4.vars.length = some O.row := push_var
         have q9 := push_old (cs' := O.row) z9
         have q7 := push_old (cs' := O.row) z7
         have hA16 := aboveT_push (cs := O.row) hA15
         have hg16 := tokOk_push (cs := O.row) hg15
         generalize m4.push O.row = m5 at v15 q9 q7 hA16 hg16 ⊢
         generalize m4.vars.length = r15 at v15 ⊢
         refine x_region (kp := kpFrom) mixed hC ?_
         refine go1 @z0 ?_
         refine xq ?_
         refine x_cond rfl (fun hc => by cases hc) (fun hc => ?_)
         have l5 := vrOu (g := .no) v15
         have mk := mk1Ou (x := O)
         obtain ⟨g2, m6, a1, hg6, hA6, hv6, hl6⟩ := app_live1 appOu (g2 := .full) (xs := rowsOu acc) (ys := rowsOu [O]) hg16 hA16 (by have h1 := rowsOu_len acc; have h2 := rowsOu_len [O]; unfold lim; simp only [List.length_cons, List.length_nil] at h2; omega)
         rw [rowsOu_app] at a1
         refine xq ?_
         refine x_region (kp := kpFrom) mixed hC ?_
         refine go1 (jn @l5 (jn @mk @a1)) ?_
         refine xq ?_
         refine x_region (kp := kpFrom) mixed hC ?_
         refine go1 @r6 ?_
         refine xq ?_
         exact ⟨l.length - (i + 1), by omega, i + 1, S2, acc ++ [O], g2, hi1, hN, by simp; omega, hkeep rfl, hA6, hg6, by rw [hv6]; exact q9, by rw [hv6]; exact q7, rfl, rfl, rfl⟩
        ·rw [if_pos hE] at hN
         rw [if_neg hE] at c2
         have zE : (E != 0) = true := by simpa using hE
         have st15 := stOu (m := m3) (x := O)
         have q7 := push_old (cs' := O.row) y7
         have hA16 := aboveT_push (cs := O.row) hA14
         refine xq ?_
         refine x_region (kp := kpFrom) mixed hC ?_
         refine go1 (jn @l4 (jn @t1 (jn @c2 @st15))) ?_
         refine xq ?_
         generalize m3.push O.row = m5 at q7 hA16 ⊢
         refine x_region (kp := kpFrom) mixed hC ?_
         refine go1 @zE ?_
         refine xq ?_
         refine x_cond rfl (fun hc => ?_) (fun hc => by cases hc)
         have st7 : evStore Tryz.prog m5 46 (.ptr r7 0) (.agg zeroSs) = some (setv m5 r7 zeroSs) := store_part q7 szSs rfl rfl (Nat.le_refl _) rfl rfl
         refine xq ?_
         refine x_region (kp := kpFrom) mixed hC ?_
         refine go1 @st7 ?_
         refine xq ?_
         have hfin : goTo p l s l.length = (ss0, [], E) := by rw [goTo_stay (i := i + 1) (by rw [hN]; exact .inl hE) _ hi1, hN]
         rw [hfin]
         exact x_leaves (leaves_tct rfl rfl (load_sub (off := 0) (setv_var q7) szSs agSs (Nat.le_refl _) rfl) rfl rfl (aboveT_fin (aboveT_setv hA16 hg7)))
      ·have hi1 : i = l.length := by have := of_decide_eq_false hc; omega
       subst hi1
       refine xq ?_
       exact ⟨S, acc, g, hgo, hA', u9, u7, rfl, rfl⟩
     ·rintro e m' F ⟨S, acc, g, hgo, hA', u9, u7, he, rfl⟩
      refine x_drop (some [7, 9, 12]) ?_
      rw [he, hgo]
      have l6 := lpRnS u9
      have st7 : evStore Tryz.prog m' 46 (.ptr r7 0) (.agg S.row) = some (setv m' r7 S.row) := store_part u7 szSs rfl rfl (Nat.le_refl _) rfl rfl
      refine xq ?_
      refine x_walk0 (l2 := kpFrom 15) mixed hC (by kernel_rfl) ?_
      refine gof1 (jn @l6 @st7) ?_
      refine xq ?_
      exact x_leaves (leaves_tct rfl rfl (vrSs (setv_var u7)) rfl rfl (aboveT_fin (aboveT_setv hA' hg7)))
    ·rw [if_neg (by rw [hok]; decide)]
     have st : evStore Tryz.prog mm 46 (.ptr r7 0) (.agg zeroSs) = some (setv mm r7 zeroSs) := store_part v7 szSs rfl rfl (Nat.le_refl _) rfl rfl
     refine gox0 hC ?_
     refine xq ?_
     refine x_region (kp := kpFrom) mixed hC ?_
     refine go1 @z1 ?_
     refine xq ?_
     refine x_cond rfl (fun hc => ?_) (fun hc => by cases hc)
     refine xq ?_
     refine x_region (kp := kpFrom) mixed hC ?_
     refine go1 @st ?_
     refine xq ?_
     exact x_leaves (leaves_tct rfl rfl (load_sub (off := 0) (setv_var v7) szSs agSs (Nat.le_refl _) rfl) rfl rfl (above_fin (above_setv hA hg7)))
   ·cases h
  ·cases h
 ·cases h
end
noncomputable section
attribute [local irreducible] Next Inside Runs Ops table
attribute [local irreducible] XRuns XOps XLin XAny
attribute [local go_sem] szStr szInt Option.getD_some isNil evMinMax evFoldI iv mapPn mapSs mapIn cellsPn cellsSs cellsIn newPn newSs List.cons_append zrOu zoOu znOu zrSs zoSs znSs zrIn zoIn znIn szSs szOu mapOu zOu zSs cellsOu rowsIn_len ldIn mk0Ss zrPn zoPn szPn
def allDom (p : Pn) (l : List In) : Prop := pnIn p ∧ l.length ≤ 1000000 ∧ ∀ x ∈ l, inIn x
def allV (p : Pn) (l : List In) : Ss × List Ou × Int := fromV p ssNew l
theorem new_in : ssIn ssNew := ⟨⟨Nat.zero_le _, fun y hy => by cases hy⟩, ⟨by decide, by decide, by decide⟩, by decide, ⟨Nat.zero_le _, fun y hy => by cases hy⟩, Nat.zero_le _⟩
open Classical in
def allG : List AV → Mem → Option (AV × Mem)
 | [.agg ps, .lst _ 2 rows], m =>
  match unPn ps, unsIn rows with
  | some p, some l => if allDom p l then some (.tup [.lst .no 6 (rowsOu (allV p l).2.1), .agg (allV p l).1.row, .v (.int .i64 (allV p l).2.2)], m) else none
  | _, _ => none
 | _, _ => none
theorem all_eq {p : Pn} {l : List In} {g : Grow} (h : allDom p l) (m : Mem) : allG [.agg p.row, .lst g 2 (rowsIn l)] m = some (.tup [.lst .no 6 (rowsOu (allV p l).2.1), .agg (allV p l).1.row, .v (.int .i64 (allV p l).2.2)], m) := by
 simp only [allG, unPn_row, unsIn_rowsIn]
 exact if_pos h
def kpAll : Nat → Option (List Nat) := fun
 | 0 => some [1, 2, 5]
 | 1 => some [4, 5, 6]
 | _ => none
attribute [go_sem] kpAll
def tabAll : List (FuncId × (List AV → Mem → Option (AV × Mem))) := [(24, ssNewG), (23, fromG)]
theorem all_ok : FunOk Tryz.prog 8 allG := by
 have hC := table_ok (P := Tryz.prog) (l := tabAll) (table_more ssNew_ok (table_more from_ok table_nil))
 have t1 := fun args mm => table_at (l := tabAll) (f := 24) (args := args) (m := mm) rfl
 have t2 := fun args mm => table_at (l := tabAll) (f := 23) (args := args) (m := mm) rfl
 refine fun_okX Tryz.func8 rfl false rfl fun args m r h => ?_
 unfold allG at h
 split at h
 ·rename_i ps gl rows
  split at h
  ·rename_i p l hp0 hl0
   obtain rfl := unPn_some hp0
   obtain rfl := unsIn_some hl0
   split at h
   ·rename_i hd
    simp only [Option.some.injEq] at h
    subst h
    refine ⟨Nat.le_of_ble_eq_true rfl, fun φ wd => ?_⟩
    refine en ?_
    have v2 : ((m.push p.row).push zeroSs).var m.vars.length = some p.row := push_old push_var
    have v5 : ((m.push p.row).push zeroSs).var (m.push p.row).vars.length = some zeroSs := push_var
    have hA := above_push (cs := zeroSs) (above_push (cs := p.row) (above_self m))
    have hg5 : m.vars.length ≤ (m.push p.row).vars.length := by rw [push_len]; omega
    refine xq ?_
    refine x_region (kp := kpAll) mixed hC ?_
    refine go0 ?_
    refine xq ?_
    generalize (m.push p.row).push zeroSs = m2 at v2 v5 hA
    generalize (m.push p.row).vars.length = r5 at v5 hg5
    generalize m.vars.length = r2 at v2
    have l1 := vrPn v2
    have c1 := ssNew_eq
    have c2 := from_eq (p := p) (s := ssNew) (l := l) (g := .no) ⟨hd.1, new_in, hd.2⟩
    rw [show fromV p ssNew l = allV p l from rfl] at c2
    generalize allV p l = Y at c2 ⊢
    have st : evStore Tryz.prog m2 46 (.ptr r5 0) (.agg Y.1.row) = some (setv m2 r5 Y.1.row) := store_part v5 szSs rfl rfl (Nat.le_refl _) rfl rfl
    refine x_walk0 (l2 := kpAll 1) mixed hC (by kernel_rfl) ?_
    refine gof1 (jn @l1 (jn @t1 (jn @c1 (jn @t2 (jn @c2 @st))))) ?_
    refine xq ?_
    exact x_leaves (leaves_tct rfl rfl (vrSs (setv_var v5)) rfl rfl (above_fin (above_setv hA hg5)))
   ·cases h
  ·cases h
 ·cases h
/-! ### the plain example -/
def plT (n : Int) : List Sg := [⟨0, n, 0, n, ⟨1, 8, 0, 0⟩, 0, 0⟩]
def plainP (n : Int) : Pn := ⟨n, 1, 1, 1, 1, [⟨0, n⟩], [[false]], [⟨0, 0, plT n⟩, ⟨0, 1, plT n⟩, ⟨0, 2, plT n⟩], tp0, pt0, kp0, em0, -1, -1, -1, 0, 0⟩
def stopP : Pn := { plainP 9 with stopAt := 0, stop := ⟨true, ⟨#[]⟩, false, 1, 0, false⟩ }
def readI (x w : Int) : In := ⟨[⟨true, x⟩], [w]⟩
def stopL : List In := [readI 5 1, readI 4 1, readI 4 1, readI 3 1]
theorem stop_all : (allV stopP stopL).2.2 = 0 ∧ (allV stopP stopL).2.1.length = 3 ∧ (allV stopP stopL).1.status = 2 ∧ (allV stopP stopL).1.ended = 2 ∧ (allV stopP stopL).1.stop.best = 4 := by
 refine ⟨?_, ?_, ?_, ?_, ?_⟩ <;> decide +kernel
end
noncomputable section
attribute [local irreducible] Next Inside Runs Ops table
attribute [local irreducible] XRuns XOps XLin XAny
attribute [local go_sem] szStr szInt Option.getD_some isNil evMinMax evFoldI iv mapPn mapSs mapIn cellsPn cellsSs cellsIn newPn newSs List.cons_append zrOu zoOu znOu zrSs zoSs znSs zrIn zoIn znIn szSs szOu mapOu zOu zSs cellsOu rowsIn_len ldIn mk0Ss zrPn zoPn znPn szPn mk1Sg mk1Sp fpPnStopAt fpPnStop fpSsStatus fpSsEnded fpSsStop fpSsStopBest mk1Rd mk1I
theorem mkCv2 {a b : Int} : evBuild Tryz.prog 71 [(0, .v (.int .i64 a)), (1, .v (.int .i64 b))] = some (.agg (Cv.mk a b 0 0).row) := by kernel_rfl
attribute [local go_sem] mkCv2
theorem mkSg3 {a b : Int} {c : Cv} : evBuild Tryz.prog 73 [(1, .v (.int .i64 a)), (3, .v (.int .i64 b)), (4, .agg c.row)] = some (.agg (Sg.mk 0 a 0 b c 0 0).row) := by kernel_rfl
attribute [local go_sem] mkSg3
theorem mkSpT {a : Int} : evBuild Tryz.prog 94 [(1, .v (.int .i64 a))] = some (.agg (Sp.mk 0 a).row) := by kernel_rfl
attribute [local go_sem] mkSpT
theorem mkFz1 {b : Bool} : evBuildSlice Tryz.prog 62 1 [(0, .v (.bool b))] = some (.lst .full 1 (rowsBo [b])) := by kernel_rfl
attribute [local go_sem] mkFz1
theorem mkFz2 {g : Grow} {b : List Bool} : evBuildSlice Tryz.prog 23 1 [(0, .lst g 1 (rowsBo b))] = some (.lst .full 1 (rowsBs [b])) := by kernel_rfl
attribute [local go_sem] mkFz2
theorem mkTk0 {g : Grow} {l : List Sg} : evBuild Tryz.prog 68 [(2, .lst g 10 (rowsSg l))] = some (.agg [.v (.int .i64 0), .v (.int .i64 0), .lst g 10 (rowsSg l)]) := by kernel_rfl
attribute [local go_sem] mkTk0
theorem mkTk1 {g : Grow} {l : List Sg} {a : Int} : evBuild Tryz.prog 68 [(1, .v (.int .i64 a)), (2, .lst g 10 (rowsSg l))] = some (.agg [.v (.int .i64 0), .v (.int .i64 a), .lst g 10 (rowsSg l)]) := by kernel_rfl
attribute [local go_sem] mkTk1
theorem mkTk3 {g1 g2 g3 : Grow} {a b c : Int} {l1 l2 l3 : List Sg} : evBuildSlice Tryz.prog 24 3 [(0, .agg [.v (.int .i64 0), .v (.int .i64 a), .lst g1 10 (rowsSg l1)]), (1, .agg [.v (.int .i64 0), .v (.int .i64 b), .lst g2 10 (rowsSg l2)]), (2, .agg [.v (.int .i64 0), .v (.int .i64 c), .lst g3 10 (rowsSg l3)])] = some (.lst .full 3 (rowsTk [⟨0, a, l1⟩, ⟨0, b, l2⟩, ⟨0, c, l3⟩])) := by kernel_rfl
attribute [local go_sem] mkTk3
def plRow (n : Int) : List AV := [iv n, iv 1, iv 1, iv 1, iv 1, .lst .full 2 (rowsSp [⟨0, n⟩]), .lst .full 1 (rowsBs [[false]]), .lst .full 3 (rowsTk [⟨0, 0, plT n⟩, ⟨0, 1, plT n⟩, ⟨0, 2, plT n⟩])] ++ (tp0.row ++ (pt0.row ++ (kp0.row ++ (em0.row ++ [iv (-1), iv (-1), iv (-1), iv 0, iv 0]))))
theorem plTrow {n : Int} : rowsSg [Sg.mk 0 n 0 n (Cv.mk 1 8 0 0) 0 0] = rowsSg (plT n) := rfl
attribute [local go_sem] plTrow
theorem mkPl {n : Int} : evBuild Tryz.prog 34 [(0, .v (.int .i64 n)), (3, .v (.int .i64 1)), (2, .v (.int .i64 1)), (1, .v (.int .i64 1)), (4, .v (.int .i64 1)), (5, .lst .full 2 (rowsSp [⟨0, n⟩])), (6, .lst .full 1 (rowsBs [[false]])), (7, .lst .full 3 (rowsTk [⟨0, 0, plT n⟩, ⟨0, 1, plT n⟩, ⟨0, 2, plT n⟩])), (12, .v (.int .i64 (-1))), (13, .v (.int .i64 (-1))), (14, .v (.int .i64 (-1)))] = some (.agg (plRow n)) := by kernel_rfl
attribute [local go_sem] mkPl
def plainG : List AV → Mem → Option (AV × Mem)
 | [.v (.int .i64 n)], m => some (.agg (plainP n).row, m)
 | _, _ => none
theorem plain_eq (n : Int) (m : Mem) : plainG [.v (.int .i64 n)] m = some (.agg (plainP n).row, m) := rfl
def kpPlain : Nat → Option (List Nat) := fun
 | 0 => some [0, 2]
 | 1 => some [0, 2, 3]
 | 2 => some [2]
 | _ => none
attribute [go_sem] kpPlain
theorem plain_ok : FunOk Tryz.prog 21 plainG := by
 have hC := table_ok (P := Tryz.prog) (l := []) table_nil
 refine fun_ok mixed hC Tryz.func21 rfl kpPlain false rfl fun args m r h => ?_
 unfold plainG at h
 split at h
 ·rename_i n
  simp only [Option.some.injEq] at h
  subst h
  refine ⟨Nat.le_of_ble_eq_true rfl, ?_⟩
  refine en ?_
  have v2 : (m.push zeroPn).var m.vars.length = some zeroPn := push_var
  have nz := znPn (m := m)
  have hA := above_push (cs := zeroPn) (above_self m)
  have hg := Nat.le_refl m.vars.length
  refine go0 ?_
  generalize m.push zeroPn = m2 at v2 hA
  generalize hr2 : m.vars.length = r2 at v2 ⊢
  have st : evStore Tryz.prog m2 34 (.ptr r2 0) (.agg (plRow n)) = some (setv m2 r2 (plRow n)) := store_part v2 szPn rfl rfl (Nat.le_of_ble_eq_true rfl) rfl rfl
  refine go1 @st ?_
  exact leaves_cell1 rfl (load_sub (off := 0) (setv_var v2) szPn agPn (Nat.le_of_ble_eq_true rfl) rfl) rfl (above_fin (above_setv hA (Nat.le_of_eq hr2)))
 ·cases h
def readG : List AV → Mem → Option (AV × Mem)
 | [.v (.int .i64 x), .v (.int .i64 w)], m => some (.agg (readI x w).row, m)
 | _, _ => none
theorem read_eq (x w : Int) (m : Mem) : readG [.v (.int .i64 x), .v (.int .i64 w)] m = some (.agg (readI x w).row, m) := rfl
theorem mkRd2 {b : Bool} {x : Int} : evBuild Tryz.prog 89 [(0, .v (.bool b)), (1, .v (.int .i64 x))] = some (.agg (Rd.mk b x).row) := by kernel_rfl
attribute [local go_sem] mkRd2
theorem mkIn2 {g g2 : Grow} {l : List Rd} {w : Int} : evBuild Tryz.prog 82 [(0, .lst g 2 (rowsRd l)), (1, .lst g2 1 [[.v (.int .i64 w)]])] = some (.agg [.lst g 2 (rowsRd l), .lst g2 1 [[.v (.int .i64 w)]]]) := by kernel_rfl
attribute [local go_sem] mkIn2
def kpRead : Nat → Option (List Nat) := fun
 | 0 => some [0, 1, 4]
 | 1 => some [4]
 | _ => none
attribute [go_sem] kpRead
theorem read_ok : FunOk Tryz.prog 22 readG := by
 have hC := table_ok (P := Tryz.prog) (l := []) table_nil
 refine fun_ok mixed hC Tryz.func22 rfl kpRead false rfl fun args m r h => ?_
 unfold readG at h
 split at h
 ·rename_i x w
  simp only [Option.some.injEq] at h
  subst h
  refine ⟨Nat.le_of_ble_eq_true rfl, ?_⟩
  refine en ?_
  have v2 : (m.push zeroIn).var m.vars.length = some zeroIn := push_var
  have nz := znIn (m := m)
  have hA := above_push (cs := zeroIn) (above_self m)
  refine go0 ?_
  generalize m.push zeroIn = m2 at v2 hA
  generalize hr2 : m.vars.length = r2 at v2 ⊢
  have st : evStore Tryz.prog m2 82 (.ptr r2 0) (.agg [.lst .full 2 (rowsRd [⟨true, x⟩]), .lst .full 1 [[.v (.int .i64 w)]]]) = some (setv m2 r2 [.lst .full 2 (rowsRd [⟨true, x⟩]), .lst .full 1 [[.v (.int .i64 w)]]]) := store_part v2 szIn rfl rfl (Nat.le_refl _) rfl rfl
  refine go1 @st ?_
  exact leaves_cell1 rfl (load_sub (off := 0) (setv_var v2) szIn agIn (Nat.le_refl _) rfl) rfl (above_fin (above_setv hA (Nat.le_of_eq hr2)))
 ·cases h
/-! ### stopped -/
theorem mkTp2 {b : Bool} {a : Int} : evBuild Tryz.prog 26 [(0, .v (.bool b)), (3, .v (.int .i64 a))] = some (.agg (Tp.mk b ⟨#[]⟩ false a 0 false).row) := by kernel_rfl
attribute [local go_sem] mkTp2
theorem mkIn4 {a b c d : In} : evBuildSlice Tryz.prog 35 4 [(0, .agg a.row), (1, .agg b.row), (2, .agg c.row), (3, .agg d.row)] = some (.lst .full 2 (rowsIn [a, b, c, d])) := by kernel_rfl
attribute [local go_sem] mkIn4
theorem szTpS : tSize Tryz.prog 26 = some 6 := by kernel_rfl
theorem stPn {m : Mem} {x : Pn} : evStore Tryz.prog (m.push zeroPn) 34 (.ptr m.vars.length 0) (.agg x.row) = some (m.push x.row) := by
 rw [store_push (cs := x.row) rfl szPn (Nat.le_of_ble_eq_true rfl) rfl]
 rfl
theorem stop_dom : allDom stopP stopL := by
 refine ⟨⟨⟨by decide, by decide, by decide, ?_⟩, by decide, by decide, by decide, by decide⟩, by decide, ?_⟩
 ·intro t ht
  simp only [stopP, plainP, List.mem_cons, List.not_mem_nil, or_false] at ht
  rcases ht with rfl | rfl | rfl <;> decide
 ·intro x hx
  simp only [stopL, List.mem_cons, List.not_mem_nil, or_false] at hx
  rcases hx with rfl | rfl | rfl | rfl <;> exact ⟨⟨by decide, by decide⟩, by decide, by decide⟩
def kpStopped : Nat → Option (List Nat) := fun
 | 0 => some []
 | 1 => some [1]
 | 2 => some [1]
 | 3 => some [2, 3, 4]
 | 4 => some [0]
 | _ => none
attribute [go_sem] kpStopped
def tabStopped : List (FuncId × (List AV → Mem → Option (AV × Mem))) := [(21, plainG), (22, readG), (8, allG)]
theorem stopped_ok : FunOk Tryz.prog 7 yesG := by
 have hC := table_ok (P := Tryz.prog) (l := tabStopped) (table_more plain_ok (table_more read_ok (table_more all_ok table_nil)))
 have t1 := fun args mm => table_at (l := tabStopped) (f := 21) (args := args) (m := mm) rfl
 have t2 := fun args mm => table_at (l := tabStopped) (f := 22) (args := args) (m := mm) rfl
 have t3 := fun args mm => table_at (l := tabStopped) (f := 8) (args := args) (m := mm) rfl
 refine fun_okX Tryz.func7 rfl false rfl fun args m r h => ?_
 unfold yesG at h
 split at h
 ·simp only [Option.some.injEq] at h
  subst h
  refine ⟨Nat.le_of_ble_eq_true rfl, fun φ wd => ?_⟩
  refine en ?_
  have c1 := plain_eq 9
  have st1 := stPn (m := m) (x := plainP 9)
  have v1 : (m.push (plainP 9).row).var m.vars.length = some (plainP 9).row := push_var
  have hA := above_push (cs := (plainP 9).row) (above_self m)
  refine xq ?_
  refine x_region (kp := kpStopped) mixed hC ?_
  refine go0 ?_
  refine xq ?_
  refine x_region (kp := kpStopped) mixed hC ?_
  refine go1 (jn @t1 (jn @c1 @st1)) ?_
  refine xq ?_
  generalize m.push (plainP 9).row = m1 at v1 hA
  generalize hr1 : m.vars.length = r1 at v1 ⊢
  have st2 : evStore Tryz.prog m1 3 (.ptr r1 28) (.v (.int .i64 0)) = some (setv m1 r1 ({ plainP 9 with stopAt := 0 } : Pn).row) := store_part v1 szInt rfl rfl (Nat.le_of_ble_eq_true rfl) rfl rfl
  have v2 : (setv m1 r1 ({ plainP 9 with stopAt := 0 } : Pn).row).var r1 = some ({ plainP 9 with stopAt := 0 } : Pn).row := setv_var v1
  have st3 : evStore Tryz.prog (setv m1 r1 ({ plainP 9 with stopAt := 0 } : Pn).row) 26 (.ptr r1 8) (.agg (Tp.mk true ⟨#[]⟩ false 1 0 false).row) = some (setv (setv m1 r1 ({ plainP 9 with stopAt := 0 } : Pn).row) r1 stopP.row) := store_part v2 szTpS rfl rfl (Nat.le_of_ble_eq_true rfl) rfl rfl
  rw [setv_setv] at st3
  have v3 : (setv m1 r1 stopP.row).var r1 = some stopP.row := setv_var v1
  have hA3 := above_setv (q := r1) (cs := stopP.row) hA (Nat.le_of_eq hr1)
  refine x_region (kp := kpStopped) mixed hC ?_
  refine go1 (jn @st2 @st3) ?_
  refine xq ?_
  generalize setv m1 r1 stopP.row = m3 at v3 hA3 ⊢
  have l1 := vrPn v3
  have c2 := fun x w => read_eq x w
  have c3 := all_eq (g := .no) stop_dom
  obtain ⟨e1, e2, e3, e4, e5⟩ := stop_all
  unfold stopL at c3 e1 e2 e3 e4 e5
  generalize allV stopP [readI 5 1, readI 4 1, readI 4 1, readI 3 1] = Y at c3 e1 e2 e3 e4 e5
  have v4 : (m3.push Y.1.row).var m3.vars.length = some Y.1.row := push_var
  have hA4 := above_push (cs := Y.1.row) hA3
  refine x_walk0 (l2 := kpStopped 3) mixed hC (by kernel_rfl) ?_
  refine gof1 (jn @l1 (jn @t2 (jn @c2 (jn @t3 @c3)))) ?_
  refine xq ?_
  generalize m3.push Y.1.row = m4 at v4 hA4 ⊢
  generalize m3.vars.length = r4 at v4 ⊢
  have k1 := lpSsStatus v4
  have k2 := lpSsEnded v4
  have k3 := lpSsStopBest v4
  rw [e3] at k1
  rw [e4] at k2
  rw [e5] at k3
  have q1 : (Y.2.2 == 0) = true := by rw [e1]; rfl
  have q2 : (((rowsOu Y.2.1).length : Int) == 3) = true := by rw [rowsOu_len, e2]; rfl
  have q3 : ((2 : Int) == 2) = true := rfl
  have q4 : ((4 : Int) == 4) = true := rfl
  refine x_region (kp := kpStopped) mixed hC ?_
  refine go1 (jn @k1 (jn @k2 (jn @k3 (jn @q1 (jn @q2 (jn @q3 @q4)))))) ?_
  refine xq ?_
  exact x_leaves (leaves_fin rfl rfl (above_fin hA4))
 ·cases h
end
noncomputable section
attribute [local irreducible] Next Inside Runs Ops table
attribute [local irreducible] XRuns XOps XLin XAny
attribute [local go_sem] szStr szInt Option.getD_some isNil evMinMax evFoldI iv mapPn mapSs cellsPn cellsSs newPn newSs List.cons_append fpPnTracks fpPnFrozen fpPnSpans fpPnSteps fpPnStop fpPnStopMetric fpPnPlateau fpPnPlateauMetric fpPnKeep fpPnKeepMetric fpSsKept fpSsEma fpSsSwa fpSsSwaSums rowsTk_len rowsBs_len rowsSp_len rowsSg_len rowsBo_len rowsKt_len rowsI_len rowsIn_len rowsRd_len feTkSegs leTkSegs ldBs feInReadings leInReadings feInWeights leInWeights
def liA (p : Pn) (i : Nat) : Bool := decide (((p.tracks.getD i tk0).segs.length : Int) > 60)
def liB (p : Pn) (i : Nat) : Bool := decide (((p.frozen.getD i []).length : Int) > 60)
def liC (p : Pn) : Bool := decide ((p.tracks.length : Int) ≤ 30) && (decide ((p.frozen.length : Int) ≤ 20) && (decide ((p.spans.length : Int) ≤ 20) && decide (IntKind.i64.wrap (IntKind.i64.wrap ((p.stop.Metric.size : Int) + (p.plateau.Metric.size : Int)) + (p.keep.Metric.size : Int)) ≤ 100)))
def lightPB (p : Pn) : Bool := !((List.range (min p.tracks.length 31)).any (liA p)) && (!((List.range (min p.frozen.length 21)).any (liB p)) && liC p)
def lightPG : List AV → Mem → Option (AV × Mem)
 | [.agg ps], m =>
  match unPn ps with
  | some p => some (.v (.bool (lightPB p)), m)
  | none => none
 | _, _ => none
theorem lightP_eq (p : Pn) (m : Mem) : lightPG [.agg p.row] m = some (.v (.bool (lightPB p)), m) := by
 simp only [lightPG, unPn_row]
def kpLightP : Nat → Option (List Nat) := fun
 | 0 => some [1]
 | 1 => some [1, 3]
 | 2 => some [1, 3, 13]
 | 3 => some [1, 3]
 | 4 => some [1, 3, 23]
 | 5 => some [2]
 | 6 => some [1, 4]
 | 7 => some [1, 4, 32]
 | 8 => some [1, 4]
 | 9 => some [1, 4, 41]
 | 10 => some [2]
 | 11 => some [2]
 | _ => none
attribute [go_sem] kpLightP
theorem lightP_ok : FunOk Tryz.prog 19 lightPG := by
 have hC := table_ok (P := Tryz.prog) (l := []) table_nil
 refine fun_ok mixed hC Tryz.func19 rfl kpLightP false rfl fun args m r h => ?_
 unfold lightPG at h
 split at h
 ·rename_i ps
  split at h
  ·rename_i p hp0
   obtain rfl := unPn_some hp0
   simp only [Option.some.injEq] at h
   subst h
   refine ⟨Nat.le_of_ble_eq_true rfl, ?_⟩
   refine en ?_
   have v1 : (m.push p.row).var m.vars.length = some p.row := push_var
   have hA := above_push (cs := p.row) (above_self m)
   refine go0 ?_
   generalize m.push p.row = m1 at v1 hA
   generalize m.vars.length = r1 at v1
   have l1 := lpPnTracks v1
   have l2 := lpPnFrozen v1
   have l3 := lpPnSpans v1
   have l4 := lpPnStopMetric v1
   have l5 := lpPnPlateauMetric v1
   have l6 := lpPnKeepMetric v1
   have fin : ∀ (e : Env) (b : Bool), Ev.get e 2 = .v (.bool b) → b = lightPB p → Leaves Tryz.prog false Tryz.f19 m (.v (.bool (lightPB p)), m) .ret e m1 := fun e b h1 h2 => by rw [← h2]; exact leaves_fin rfl h1 (above_fin hA)
   have bad1 : ∀ {i}, i < min p.tracks.length 31 → liA p i = true → lightPB p = false := fun {i} hi hh => by
    unfold lightPB
    rw [range_any hi hh]
    rfl
   have bad2 : ∀ {i}, i < min p.frozen.length 21 → liB p i = true → lightPB p = false := fun {i} hi hh => by
    unfold lightPB
    rw [range_any hi hh]
    simp
   refine runs_loop (fun k e m' => ∃ (i : Nat), i ≤ min p.tracks.length 31 ∧ ((List.range i).any (liA p)) = false ∧ m1 = m' ∧ k = min p.tracks.length 31 - i ∧ e = [(1, AV.ptr r1 0), (3, .v (.int .i64 (i : Int)))]) (k := min p.tracks.length 31) ⟨0, Nat.zero_le _, rfl, rfl, rfl, rfl⟩ ?_
   rintro k e m' ⟨i, hi, hno, rfl, rfl, rfl⟩
   by_cases hi1 : i < min p.tracks.length 31
   ·have k1 : decide ((i : Int) < (p.tracks.length : Int)) = true := decide_eq_true (by omega)
    have k2 : decide ((i : Int) ≤ 30) = true := decide_eq_true (by omega)
    have f1 := atTk (g := .no) (kk := .i64) (l := p.tracks) (i := i) (by omega)
    have hb : liA p i = decide (((p.tracks.getD i tk0).segs.length : Int) > 60) := rfl
    have r6 := next_i64 (i := i) (by omega)
    generalize p.tracks.getD i tk0 = x at f1 hb
    refine go1 (jn @l1 (jn @k1 @k2)) ?_
    refine runs_cond rfl (fun hc => ?_) (fun hc => by cases hc)
    refine go1 (jn @l1 @f1) ?_
    refine runs_cond rfl (fun hc => ?_) (fun hc => ?_)
    ·refine go0 ?_
     exact fin _ _ rfl (bad1 hi1 (hb.trans hc)).symm
    ·refine go1 @r6 ?_
     exact ⟨min p.tracks.length 31 - (i + 1), by omega, i + 1, hi1, by rw [List.range_succ, List.any_append, hno, List.any_cons, List.any_nil, hb, hc]; rfl, rfl, rfl, rfl⟩
   ·have he : i = min p.tracks.length 31 := by omega
    repeat refine runs_seq ?_
    refine runs_rcut [(1, AV.ptr r1 0), (3, .v (.int .i64 (i : Int))), (13, .v (.bool false))] m1 ?_ ?_
    ·by_cases h9 : i < p.tracks.length
     ·have k1 : decide ((i : Int) < (p.tracks.length : Int)) = true := decide_eq_true (by omega)
      have k2 : decide ((i : Int) ≤ 30) = false := decide_eq_false (by omega)
      refine go1 (jn @l1 (jn @k1 @k2)) ?_
      exact ⟨rfl, rfl, rfl⟩
     ·have k1 : decide ((i : Int) < (p.tracks.length : Int)) = false := decide_eq_false (by omega)
      refine go1 (jn @l1 @k1) ?_
      exact ⟨rfl, rfl, rfl⟩
    have hno1 : ((List.range (min p.tracks.length 31)).any (liA p)) = false := by rw [← he]; exact hno
    refine go0 ?_
    refine runs_cond rfl (fun hc => by cases hc) (fun hc => ?_)
    refine go0 ?_
    refine runs_loop (fun k e m' => ∃ (i : Nat), i ≤ min p.frozen.length 21 ∧ ((List.range i).any (liB p)) = false ∧ m1 = m' ∧ k = min p.frozen.length 21 - i ∧ e = [(1, AV.ptr r1 0), (4, .v (.int .i64 (i : Int)))]) (k := min p.frozen.length 21) ⟨0, Nat.zero_le _, rfl, rfl, rfl, rfl⟩ ?_
    rintro k e m' ⟨i, hi, hno, rfl, rfl, rfl⟩
    by_cases hi1 : i < min p.frozen.length 21
    ·have k1 : decide ((i : Int) < (p.frozen.length : Int)) = true := decide_eq_true (by omega)
     have k2 : decide ((i : Int) ≤ 20) = true := decide_eq_true (by omega)
     have f1 := atBs (g := .no) (kk := .i64) (l := p.frozen) (i := i) (by omega)
     have hb : liB p i = decide (((p.frozen.getD i []).length : Int) > 60) := rfl
     have r6 := next_i64 (i := i) (by omega)
     generalize p.frozen.getD i [] = x at f1 hb
     refine go1 (jn @l2 (jn @k1 @k2)) ?_
     refine runs_cond rfl (fun hc => ?_) (fun hc => by cases hc)
     refine go1 (jn @l2 @f1) ?_
     refine runs_cond rfl (fun hc => ?_) (fun hc => ?_)
     ·refine go0 ?_
      exact fin _ _ rfl (bad2 hi1 (hb.trans hc)).symm
     ·refine go1 @r6 ?_
      exact ⟨min p.frozen.length 21 - (i + 1), by omega, i + 1, hi1, by rw [List.range_succ, List.any_append, hno, List.any_cons, List.any_nil, hb, hc]; rfl, rfl, rfl, rfl⟩
    ·have he : i = min p.frozen.length 21 := by omega
     repeat refine runs_seq ?_
     refine runs_rcut [(1, AV.ptr r1 0), (4, .v (.int .i64 (i : Int))), (32, .v (.bool false))] m1 ?_ ?_
     ·by_cases h9 : i < p.frozen.length
      ·have k1 : decide ((i : Int) < (p.frozen.length : Int)) = true := decide_eq_true (by omega)
       have k2 : decide ((i : Int) ≤ 20) = false := decide_eq_false (by omega)
       refine go1 (jn @l2 (jn @k1 @k2)) ?_
       exact ⟨rfl, rfl, rfl⟩
      ·have k1 : decide ((i : Int) < (p.frozen.length : Int)) = false := decide_eq_false (by omega)
       refine go1 (jn @l2 @k1) ?_
       exact ⟨rfl, rfl, rfl⟩
     have hno2 : ((List.range (min p.frozen.length 21)).any (liB p)) = false := by rw [← he]; exact hno
     have hend : lightPB p = liC p := by unfold lightPB; rw [hno1, hno2]; simp
     unfold liC at hend
     refine go0 ?_
     refine runs_cond rfl (fun hc => by cases hc) (fun hc => ?_)
     cases h1 : decide ((p.tracks.length : Int) ≤ 30) with
     | false =>
      refine go1 (jn @l1 @h1) ?_
      exact fin _ _ rfl (by rw [hend, h1]; rfl)
     | true =>
      cases h2 : decide ((p.frozen.length : Int) ≤ 20) with
      | false =>
       refine go1 (jn @l1 (jn @l2 (jn @h1 @h2))) ?_
       exact fin _ _ rfl (by rw [hend, h1, h2]; rfl)
      | true =>
       cases h3 : decide ((p.spans.length : Int) ≤ 20) with
       | false =>
        refine go1 (jn @l1 (jn @l2 (jn @l3 (jn @h1 (jn @h2 @h3))))) ?_
        exact fin _ _ rfl (by rw [hend, h1, h2, h3]; rfl)
       | true =>
        refine go1 (jn @l1 (jn @l2 (jn @l3 (jn @l4 (jn @l5 (jn @l6 (jn @h1 (jn @h2 @h3)))))))) ?_
        exact fin _ _ rfl (by rw [hend, h1, h2, h3]; rfl)
  ·cases h
 ·cases h
def lightSB (s : Ss) : Bool := decide ((s.kept.length : Int) ≤ 30) && (decide ((s.ema.length : Int) ≤ 30) && decide ((s.swa.sums.length : Int) ≤ 30))
def lightSG : List AV → Mem → Option (AV × Mem)
 | [.agg ss], m =>
  match unSs ss with
  | some s => some (.v (.bool (lightSB s)), m)
  | none => none
 | _, _ => none
theorem lightS_eq (s : Ss) (m : Mem) : lightSG [.agg s.row] m = some (.v (.bool (lightSB s)), m) := by
 simp only [lightSG, unSs_row]
def kpLightS : Nat → Option (List Nat) := fun
 | 0 => some [1]
 | 1 => some [2]
 | _ => none
attribute [go_sem] kpLightS
theorem lightS_ok : FunOk Tryz.prog 20 lightSG := by
 have hC := table_ok (P := Tryz.prog) (l := []) table_nil
 refine fun_ok mixed hC Tryz.func20 rfl kpLightS false rfl fun args m r h => ?_
 unfold lightSG at h
 split at h
 ·rename_i ss
  split at h
  ·rename_i s hs0
   obtain rfl := unSs_some hs0
   simp only [Option.some.injEq] at h
   subst h
   refine ⟨Nat.le_of_ble_eq_true rfl, ?_⟩
   refine en ?_
   have v1 : (m.push s.row).var m.vars.length = some s.row := push_var
   have hA := above_push (cs := s.row) (above_self m)
   refine go0 ?_
   generalize m.push s.row = m1 at v1 hA
   generalize m.vars.length = r1 at v1
   have l1 := lpSsKept v1
   have l2 := lpSsEma v1
   have l3 := lpSsSwaSums v1
   unfold lightSB
   cases h1 : decide ((s.kept.length : Int) ≤ 30) with
   | false =>
    refine go1 (jn @l1 @h1) ?_
    exact leaves_fin rfl rfl (above_fin hA)
   | true =>
    cases h2 : decide ((s.ema.length : Int) ≤ 30) with
    | false =>
     refine go1 (jn @l1 (jn @l2 (jn @h1 @h2))) ?_
     exact leaves_fin rfl rfl (above_fin hA)
    | true =>
     refine go1 (jn @l1 (jn @l2 (jn @l3 (jn @h1 @h2)))) ?_
     exact leaves_fin rfl rfl (above_fin hA)
  ·cases h
 ·cases h
/-! ### Small -/
def bigIn (l : List In) (i : Nat) : Bool := decide (((l.getD i in0).readings.length : Int) > 30) || decide (((l.getD i in0).weights.length : Int) > 30)
def smallB (p : Pn) (s : Ss) (l : List In) : Bool := lightPB p && (lightSB s && (!(decide (p.steps > 300)) && (!(decide ((l.length : Int) > 60)) && !((List.range l.length).any (bigIn l)))))
def smallG : List AV → Mem → Option (AV × Mem)
 | [.agg ps, .agg ss, .lst _ 2 rows], m =>
  match unPn ps, unSs ss, unsIn rows with
  | some p, some s, some l => some (.v (.bool (smallB p s l)), m)
  | _, _, _ => none
 | _, _ => none
theorem small_eq (p : Pn) (s : Ss) (l : List In) (g : Grow) (m : Mem) : smallG [.agg p.row, .agg s.row, .lst g 2 (rowsIn l)] m = some (.v (.bool (smallB p s l)), m) := by
 simp only [smallG, unPn_row, unSs_row, unsIn_rowsIn]
def kpSmall : Nat → Option (List Nat) := fun
 | 0 => some [2, 3, 4]
 | 1 => some [2, 25]
 | 2 => some [6]
 | 3 => some [2, 7]
 | 4 => some [2, 7, 29]
 | 5 => some [2, 7]
 | 6 => some [2, 7, 47]
 | 7 => some [6]
 | 8 => some [6]
 | _ => none
attribute [go_sem] kpSmall
def tab_small_ok : List (FuncId × (List AV → Mem → Option (AV × Mem))) := [(19, lightPG), (20, lightSG)]
theorem small_ok : FunOk Tryz.prog 6 smallG := by
 have hC := table_ok (P := Tryz.prog) (l := tab_small_ok) (table_more lightP_ok (table_more lightS_ok table_nil))
 have t1 := fun args mm => table_at (l := tab_small_ok) (f := 19) (args := args) (m := mm) rfl
 have t2 := fun args mm => table_at (l := tab_small_ok) (f := 20) (args := args) (m := mm) rfl
 refine fun_ok mixed hC Tryz.func6 rfl kpSmall false rfl fun args m r h => ?_
 unfold smallG at h
 split at h
 ·rename_i ps ss gl rows
  split at h
  ·rename_i p s l hp0 hs0 hl0
   obtain rfl := unPn_some hp0
   obtain rfl := unSs_some hs0
   obtain rfl := unsIn_some hl0
   simp only [Option.some.injEq] at h
   subst h
   refine ⟨Nat.le_of_ble_eq_true rfl, ?_⟩
   refine en ?_
   have v1 : ((m.push p.row).push s.row).var m.vars.length = some p.row := push_old push_var
   have v2 : ((m.push p.row).push s.row).var (m.push p.row).vars.length = some s.row := push_var
   have hA := above_push (cs := s.row) (above_push (cs := p.row) (above_self m))
   refine go0 ?_
   generalize (m.push p.row).push s.row = m1 at v1 v2 hA
   generalize (m.push p.row).vars.length = r2 at v2
   generalize m.vars.length = r1 at v1
   have l1 := vrPn v1
   have l2 := vrSs v2
   have l3 := lpPnSteps v1
   have c1 := lightP_eq p
   have c2 := lightS_eq s
   have k1 : (!true) = false := rfl
   have k2 : (!false) = true := rfl
   have fin : ∀ (e : Env) (b : Bool), Ev.get e 6 = .v (.bool b) → b = smallB p s l → Leaves Tryz.prog false Tryz.f6 m (.v (.bool (smallB p s l)), m) .ret e m1 := fun e b h1 h2 => by rw [← h2]; exact leaves_fin rfl h1 (above_fin hA)
   have hend : smallB p s l = (lightPB p && (lightSB s && (!(decide (p.steps > 300)) && (!(decide ((l.length : Int) > 60)) && !((List.range l.length).any (bigIn l)))))) := rfl
   cases h1 : lightPB p with
   | false =>
    rw [h1] at c1 hend
    refine go1 (jn @l1 (jn @t1 (jn @c1 @k2))) ?_
    refine runs_cond rfl (fun hc => ?_) (fun hc => by cases hc)
    refine go0 ?_
    exact fin _ _ rfl (by rw [hend]; rfl)
   | true =>
    rw [h1] at c1 hend
    cases h2 : lightSB s with
    | false =>
     rw [h2] at c2 hend
     refine go1 (jn @l1 (jn @t1 (jn @c1 (jn @k1 (jn @l2 (jn @t2 (jn @c2 @k2))))))) ?_
     refine runs_cond rfl (fun hc => ?_) (fun hc => by cases hc)
     refine go0 ?_
     exact fin _ _ rfl (by rw [hend]; rfl)
    | true =>
     rw [h2] at c2 hend
     cases h3 : decide (p.steps > 300) with
     | true =>
      rw [h3] at hend
      refine go1 (jn @l1 (jn @t1 (jn @c1 (jn @k1 (jn @l2 (jn @t2 (jn @c2 (jn @l3 @h3)))))))) ?_
      refine runs_cond rfl (fun hc => ?_) (fun hc => by cases hc)
      refine go0 ?_
      exact fin _ _ rfl (by rw [hend]; rfl)
     | false =>
      rw [h3] at hend
      cases h4 : decide ((l.length : Int) > 60) with
      | true =>
       rw [h4] at hend
       refine go1 (jn @l1 (jn @t1 (jn @c1 (jn @k1 (jn @l2 (jn @t2 (jn @c2 (jn @l3 (jn @h3 @h4))))))))) ?_
       refine runs_cond rfl (fun hc => ?_) (fun hc => by cases hc)
       refine go0 ?_
       exact fin _ _ rfl (by rw [hend]; rfl)
      | false =>
       rw [h4] at hend
       have hl60 := of_decide_eq_false h4
       simp only [Bool.not_false, Bool.true_and] at hend
       refine go1 (jn @l1 (jn @t1 (jn @c1 (jn @k1 (jn @l2 (jn @t2 (jn @c2 (jn @l3 (jn @h3 @h4))))))))) ?_
       refine runs_cond rfl (fun hc => by cases hc) (fun hc => ?_)
       refine go0 ?_
       refine runs_loop (fun k e m' => ∃ (i : Nat), i ≤ l.length ∧ ((List.range i).any (bigIn l)) = false ∧ m1 = m' ∧ k = l.length - i ∧ e = [(2, AV.lst gl 2 (rowsIn l)), (7, .v (.int .i64 (i : Int)))]) (k := l.length) ⟨0, Nat.zero_le _, rfl, rfl, rfl, rfl⟩ ?_
       rintro k e m' ⟨i, hi, hno, rfl, rfl, rfl⟩
       refine go0 ?_
       refine runs_cond rfl (fun hc => ?_) (fun hc => ?_)
       ·have hi1 : i < l.length := by have := of_decide_eq_true hc; omega
        have f1 := atIn (g := gl) (kk := .i64) hi1
        have r6 := next_i64 (i := i) (by omega)
        have hb : bigIn l i = (decide (((l.getD i in0).readings.length : Int) > 30) || decide (((l.getD i in0).weights.length : Int) > 30)) := rfl
        have big : bigIn l i = true → smallB p s l = false := fun hh => by rw [hend, range_any hi1 hh]; rfl
        have ok : bigIn l i = false → ((List.range (i + 1)).any (bigIn l)) = false := fun hh => by rw [List.range_succ, List.any_append, hno, List.any_cons, List.any_nil, hh]; rfl
        generalize l.getD i in0 = x at f1 hb
        cases q1 : decide ((x.readings.length : Int) > 30) with
        | true =>
         rw [q1] at hb
         refine go1 (jn @f1 @q1) ?_
         refine runs_cond rfl (fun hc => ?_) (fun hc => by cases hc)
         refine go0 ?_
         exact fin _ _ rfl (by rw [big (by rw [hb]; rfl)])
        | false =>
         rw [q1] at hb
         refine go1 (jn @f1 @q1) ?_
         refine runs_cond rfl (fun hc => ?_) (fun hc => ?_)
         ·refine go0 ?_
          exact fin _ _ rfl (by rw [big (by rw [hb, hc]; rfl)])
         ·refine go1 @r6 ?_
          exact ⟨l.length - (i + 1), by omega, i + 1, hi1, ok (by rw [hb, hc]; rfl), rfl, rfl, rfl⟩
       ·have hi1 : i = l.length := by have := of_decide_eq_false hc; omega
        subst hi1
        refine go0 ?_
        exact fin _ _ rfl (by rw [hend, hno]; rfl)
  ·cases h
 ·cases h
end
end Go.Proofs.YtmockbddhhmmeaaGreat.Ev
