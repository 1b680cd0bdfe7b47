/- A runner's step. -/
import Derived.Test.YtmockbddhhmmeaaGreatMbgkd13
namespace Go.Proofs.YtmockbddhhmmeaaGreat.Ev
open Go Go.Proofs
set_option maxRecDepth 10000
set_option maxHeartbeats 8000000
set_option linter.unusedVariables false
set_option linter.unusedSimpArgs false
noncomputable section
attribute [local irreducible] Next aW cF Ops bQ
attribute [local irreducible] bE dH eZ eC
attribute [local go_sem] cO bP Option.getD_some cJ aT aV iv kI pJ aB9 fA iK tF bCt bO9 bO0 List.cons_append bKu bHh bH1 aVs aUj tM aEy aWt zOu aKt
theorem aYw {m m' : Mem} {r : Nat} {cs : List AV} (h : Above m m') (hr : r < m.vars.length) : Above (bO m r cs) (bO m' r cs) := by
 obtain ⟨L, rfl⟩ := h
 refine ⟨L, ?_⟩
 unfold bO Mem.putv
 simp only [List.set_append_left _ _ hr]
theorem bOd {m m' : Mem} {r : Nat} {cs cs' : List AV} (h : m.var r = some cs) (hA : Above (bO m r cs') m') : bI m m' = bO m r cs' := aWq (ts := m.toks) h (.inr rfl) hA
theorem cDp (p : Pn) (s : Ss) (b : Bool) : ((Rn.mk b p s).row.drop 1).take 33 = p.row := rfl
theorem cD5 (p : Pn) (s : Ss) (b : Bool) : (Rn.mk b p s).row.drop 34 = s.row := rfl
theorem bRm {row : List AV} {p : Pn} {s : Ss} {b : Bool} (h0 : row.take 1 = [.v (.bool b)]) (h1 : (row.drop 1).take 33 = p.row) (h2 : row.drop 34 = s.row) : row = (Rn.mk b p s).row := by
 have e2 : row.drop 34 = (row.drop 1).drop 33 := by rw [List.drop_drop]
 have : row = row.take 1 ++ ((row.drop 1).take 33 ++ row.drop 34) := by rw [e2, List.take_append_drop, List.take_append_drop]
 rw [this, h0, h1, h2]
 rfl
open Classical in
def aK5 : List AV → Mem → Option (AV × Mem)
 | [.ptr r 0, .agg xs], m =>
  match m.var r, aL1 xs with
  | some row, some x =>
   match row.take 1, iH ((row.drop 1).take 33), sC (row.drop 34) with
   | [.v (.bool true)], some p, some s => if aJ9 p ∧ aJ7 s ∧ aH3 x then some (.tup [.agg (eY p s x).2.1.row, .v (.int .i64 (eY p s x).2.2)], if (eY p s x).2.2 = 0 then bO m r (Rn.mk true p (eY p s x).1).row else m) else none
   | _, _, _ => none
  | _, _ => none
 | _, _ => none
theorem bQq {m : Mem} {r : Nat} {p : Pn} {s : Ss} {x : In} (hv : m.var r = some (Rn.mk true p s).row) (h : aJ9 p ∧ aJ7 s ∧ aH3 x) : aK5 [.ptr r 0, .agg x.row] m = some (.tup [.agg (eY p s x).2.1.row, .v (.int .i64 (eY p s x).2.2)], if (eY p s x).2.2 = 0 then bO m r (Rn.mk true p (eY p s x).1).row else m) := by
 unfold aK5
 simp only [hv, sB, cDp, cD5, unPn_row, dZ]
 exact if_pos h
theorem bLr {p : Pn} {s : Ss} {x : In} (h : (eY p s x).2.2 ≠ 0) : (eY p s x).2.1 = ou0 := by
 unfold eY at h ⊢
 split
 ·rfl
 ·rename_i h1
  rw [if_neg h1] at h
  split
  ·rfl
  ·rename_i h2
   rw [if_neg h2] at h
   exact absurd rfl h
def sV : Nat → Option (List Nat) := fun
 | 0 => some [0, 3, 4]
 | 1 => some [0, 3, 4, 11]
 | 2 => some [4, 5]
 | 3 => some [0, 4, 6, 7, 8]
 | 4 => some [0, 4, 6, 7, 8, 28]
 | 5 => some [4, 5]
 | 6 => some [4, 7]
 | 7 => some [4, 5]
 | _ => none
attribute [go_sem] sV
def aOf : List (FuncId × (List AV → Mem → Option (AV × Mem))) := [(46, bM1), (47, aV2)]
theorem bNy : aO Tryz.prog 32 aK5 := by
 have hC := aI (P := Tryz.prog) (l := aOf) (aA bX4 (aA bUl aF))
 have t1 := taT aOf 46 rfl
 have t2 := taT aOf 47 rfl
 refine dJ Tryz.func32 rfl false rfl fun args m r h => ?_
 unfold aK5 at h
 split at h
 ·rename_i r0 xs
  split at h
  ·rename_i row x hv hx0
   obtain rfl := nE hx0
   split at h
   ·rename_i p s g0 g1 g2
    rw [bRm g0 (bZ g1) (dT g2)] at hv
    split at h
    ·rename_i hd
     simp only [Option.some.injEq] at h
     subst h
     clear g0 g1 g2
     refine ⟨nbT, fun φ wd => ?_⟩
     refine en ?_
     have v3 : ((m.push x.row).push dX).var m.vars.length = some x.row := aQ aJ
     have v4 : ((m.push x.row).push dX).var (m.push x.row).vars.length = some dX := aJ
     have v0 : ((m.push x.row).push dX).var r0 = some (Rn.mk true p s).row := aQ (aQ hv)
     have n1 := aMx (m := m) (x := x)
     have n2 := bH1 (m := m.push x.row)
     have hA := aG (cs := dX) (aG (cs := x.row) (aM m))
     have hr0 := (fM hv).1
     have hg4 : m.vars.length ≤ (m.push x.row).vars.length := by rw [cH]; omega
     have hn4 : r0 ≠ (m.push x.row).vars.length := by rw [cH]; omega
     refine xq ?_
     refine aB (kp := sV) mixed hC ?_
     refine go1 (jn @n1 @n2) ?_
     refine xq ?_
     generalize (m.push x.row).push dX = m2 at v3 v4 v0 hA
     generalize (m.push x.row).vars.length = r4 at v4 hg4 hn4
     generalize m.vars.length = r3 at v3
     have c1 := bYa v0
     refine aB (kp := sV) mixed hC ?_
     refine go1 (jn @t1 @c1) ?_
     refine xq ?_
     refine xcF rfl ?_
     have l1 := cAn v0
     have l2 := bWu v0
     have l3 := bYv v3
     have c2 := bTt hd
     have he := bLr (p := p) (s := s) (x := x)
     generalize eY p s x = Y at c2 he ⊢
     obtain ⟨S, O, E⟩ := Y
     dsimp only at c2 he ⊢
     refine xq ?_
     refine bN (l2 := sV 3) mixed hC (by kernel_rfl) ?_
     refine eJ (jn @l1 (jn @l2 (jn @l3 (jn @t2 @c2)))) ?_
     refine xq ?_
     have v6 : ((m2.push S.row).push O.row).var m2.vars.length = some S.row := aQ aJ
     have v7 : ((m2.push S.row).push O.row).var (m2.vars.length + 1) = some O.row := by
      have := aJ (m := m2.push S.row) (cs := O.row)
      rwa [cH] at this
     have u0 : ((m2.push S.row).push O.row).var r0 = some (Rn.mk true p s).row := aQ (aQ v0)
     have u4 : ((m2.push S.row).push O.row).var r4 = some dX := aQ (aQ v4)
     have hA5 := aG (cs := O.row) (aG (cs := S.row) hA)
     have hn47 : m2.vars.length + 1 ≠ r4 := by have := (fM v4).1; omega
     have hn07 : m2.vars.length + 1 ≠ r0 := by have := (fM v0).1; omega
     generalize (m2.push S.row).push O.row = m5 at v6 v7 u0 u4 hA5 ⊢
     generalize m2.vars.length + 1 = r7 at v7 hn47 hn07 ⊢
     generalize m2.vars.length = r6 at v6 ⊢
     refine aB (kp := sV) mixed hC ?_
     refine go0 ?_
     refine xq ?_
     refine cK rfl (fun hc => ?_) (fun hc => ?_)
     ·have hne : E ≠ 0 := by simpa using hc
      rw [if_neg hne, he hne]
      have st : aR Tryz.prog m5 65 (.ptr r4 0) (.agg dX) = some (bO m5 r4 dX) := aS u4 aEy rfl rfl (Nat.le_refl _) rfl rfl
      refine xq ?_
      refine aB (kp := sV) mixed hC ?_
      refine go1 (jn @bQ8 @st) ?_
      refine xq ?_
      exact aX (qI rfl (bY (off := 0) (bA u4) aEy bZz (Nat.le_refl _) rfl) rfl rfl (aC (bD hA5 hg4)))
     ·have hez : E = 0 := by simpa using hc
      rw [if_pos hez]
      have l6 := yH v6
      have st0 : aR Tryz.prog m5 46 (.ptr r0 34) (.agg S.row) = some (bO m5 r0 (Rn.mk true p S).row) := aS u0 tM rfl rfl nbT rfl rfl
      have w7 : (bO m5 r0 (Rn.mk true p S).row).var r7 = some O.row := cD v7 hn07
      have w4 : (bO m5 r0 (Rn.mk true p S).row).var r4 = some dX := cD u4 (fun h => hn4 h.symm)
      have hA6 := aYw (cs := (Rn.mk true p S).row) hA5 hr0
      refine xq ?_
      refine aB (kp := sV) mixed hC ?_
      refine go1 (jn @l6 @st0) ?_
      refine xq ?_
      generalize bO m5 r0 (Rn.mk true p S).row = m6 at w7 w4 hA6 ⊢
      have l7 := bLx (g := .no) w7
      have st4 : aR Tryz.prog m6 65 (.ptr r4 0) (.agg O.row) = some (bO m6 r4 O.row) := aS w4 aEy rfl rfl (Nat.le_refl _) rfl rfl
      refine aB (kp := sV) mixed hC ?_
      refine go1 (jn @l7 @st4) ?_
      refine xq ?_
      exact aX (qI rfl (bLx (g := .no) (bA w4)) rfl (by rw [hez]; rfl) (bOd hv (bD hA6 (by rw [bM2]; exact hg4))))
    ·cases h
   ·cases h
  ·cases h
 ·cases h
end
section
attribute [local irreducible] Next aW cF Ops bQ
theorem bB7 (b : Bool) (l : List Kt) (x : Kt) : (jE b l x).length = l.length + 1 := by
 have := aXi b l x
 unfold jE
 simp
 omega
theorem bCw {b : Bool} {l : List Kt} {x y : Kt} (h : y ∈ jE b l x) : y = x ∨ y ∈ l := by
 unfold jE at h
 simp only [List.mem_append, List.mem_cons] at h
 rcases h with h | rfl | h
 ·exact .inr (List.mem_of_mem_take h)
 ·exact .inl rfl
 ·exact .inr (List.mem_of_mem_drop h)
theorem bVy {cnt : Int} {b : Bool} {l : List Kt} {x : Kt} (hx : inI x.val) (hl : ∀ y ∈ l, inI y.val) : (xD cnt b l x).1.length ≤ l.length + 1 ∧ ∀ y ∈ (xD cnt b l x).1, inI y.val := by
 have h1 := bB7 b l x
 have h2 : ∀ y ∈ jE b l x, inI y.val := fun y hy => by
  rcases bCw hy with rfl | h
  ·exact hx
  ·exact hl y h
 unfold xD
 split
 ·exact ⟨by show (jE b l x).length ≤ _; omega, h2⟩
 ·refine ⟨?_, fun y hy => h2 y (List.mem_of_mem_take hy)⟩
  show (List.take _ _).length ≤ _
  rw [List.length_take]
  omega
theorem aW0 {w : Wt} {x : Int} {r : Ru} (hw : inI w.best) (hx : inI x) : inI (fX w x r).best := by
 unfold fX
 split
 ·exact hx
 ·exact hw
theorem bUx {c : Ct} {x : Int} {p : Pt} (hc : inI c.watch.best ∧ inI c.rest ∧ inI c.scale) (hx : inI x) (hf : inI p.Factor) (hcd : inI p.Cooldown) : inI (aIh c x p).1.watch.best ∧ inI (aIh c x p).1.rest ∧ inI (aIh c x p).1.scale := by
 have hw : inI (bCh c x p).best := aW0 hc.1 hx
 unfold aIh
 split
 ·rename_i h
  refine ⟨hw, ?_, hc.2.2⟩
  have := hc.2.1
  unfold inI at this ⊢
  constructor
  ·show _ ≤ c.rest - 1
   omega
  ·show c.rest - 1 ≤ _
   omega
 ·split
  ·exact ⟨hw, hc.2.1, hc.2.2⟩
  ·exact ⟨hw, hcd, aKp hc.2.2 hf⟩
theorem bU4 {a w : List Int} {d : Int} (hw : w.length ≤ 1000000 ∧ ∀ y ∈ w, inI y) : (aLm a w d).1.length ≤ 1000000 ∧ ∀ y ∈ (aLm a w d).1, inI y := by
 unfold aLm
 split
 ·exact ⟨Nat.zero_le _, fun y hy => by cases hy⟩
 ·split
  ·exact hw
  ·split
   ·exact ⟨Nat.zero_le _, fun y hy => by cases hy⟩
   ·refine ⟨by simp; exact hw.1, fun y hy => ?_⟩
    obtain ⟨i, _, rfl⟩ := List.mem_map.1 hy
    exact aXe
theorem bUe {s : Sm} {w : List Int} (hw : w.length ≤ 1000000) : (aUd s w).1.sums.length ≤ 1000000 := by
 unfold aUd
 split
 ·exact Nat.zero_le _
 ·split
  ·exact Nat.zero_le _
  ·split
   ·exact hw
   ·split
    ·exact Nat.zero_le _
    ·split
     ·rename_i L hL
      show L.length ≤ _
      rw [aHc hL]
      exact hw
     ·exact Nat.zero_le _
/-- The state of a turn, within its bounds; its list of kept steps is no longer than so many. -/
def tIn (k : Nat) (s : Ss) : Prop := (s.kept.length ≤ k ∧ ∀ y ∈ s.kept, inI y.val) ∧ (inI s.cut.watch.best ∧ inI s.cut.rest ∧ inI s.cut.scale) ∧ inI s.stop.best ∧ (s.ema.length ≤ 1000000 ∧ ∀ y ∈ s.ema, inI y) ∧ s.swa.sums.length ≤ 1000000
theorem aOg {k k' : Nat} {s : Ss} (h : tIn k s) (hk : k ≤ k') : tIn k' s := ⟨⟨Nat.le_trans h.1.1 hk, h.1.2⟩, h.2⟩
theorem bG5 {T : Tn} {k : Nat} (h : tIn k T.s) (hx : aH3 T.x) : tIn k T.emaT.s := by
 unfold Tn.emaT
 split
 ·exact ⟨h.1, h.2.1, h.2.2.1, bU4 ⟨hx.1.2, hx.2.2⟩, h.2.2.2.2⟩
 ·exact h
theorem bXy {T : Tn} {k : Nat} (h : tIn k T.s) (hx : aH3 T.x) : tIn k T.wts.1.s := by
 unfold Tn.wts
 split
 ·split
  ·exact h
  ·exact bG5 (T := (T.tell 4 T.s.swa.count).setSwa (bBj T).1) ⟨h.1, h.2.1, h.2.2.1, h.2.2.2.1, bUe hx.1.2⟩ hx
 ·exact bG5 h hx
theorem bN5 {T : Tn} {k : Nat} {x : Int} (h : tIn k T.s) (hx : inI x) : tIn (k + 1) (T.keeps x).s := by
 have hp := bVy (cnt := mx T.p.keep.Count 0) (b := T.p.keep.Max) (x := ⟨T.step, x⟩) hx h.1.2
 have : tIn (k + 1) (T.setKept (aTn T x).1).s := ⟨⟨Nat.le_trans hp.1 (by have := h.1.1; omega), hp.2⟩, h.2⟩
 unfold Tn.keeps Tn.keepsY
 split
 ·exact this
 ·split <;> exact this
theorem bVv {T : Tn} {k : Nat} {x : Int} (h : tIn k T.s) (hx : inI x) (hp : aJ9 T.p) : tIn k (T.cuts x).s := by
 have hc := bUx (p := T.p.plateau) h.2.1 hx hp.2.2.1 hp.2.2.2.2
 have : tIn k (T.setCut (aIh T.s.cut x T.p.plateau).1).s := ⟨h.1, hc, h.2.2⟩
 unfold Tn.cuts Tn.cutsY
 split <;> exact this
theorem bSl {T : Tn} {k : Nat} {x : Int} (h : tIn k T.s) (hx : inI x) : tIn k (T.stops x).s := by
 have hw : inI (fX T.s.stop x T.rule).best := aW0 h.2.2.1 hx
 have : tIn k (T.setStop (fX T.s.stop x T.rule)).s := ⟨h.1, h.2.1, hw, h.2.2.2⟩
 unfold Tn.stops Tn.stopsY
 split <;> exact this
theorem bVf {T : Tn} {k : Nat} (h : tIn k T.s) (hx : aH3 T.x) (hp : aJ9 T.p) : tIn (k + 1) T.look.s := by
 have h1 : tIn (k + 1) T.miss.look1.s := by
  unfold Tn.look1
  split
  ·rename_i hb
   exact bN5 (T := T.miss) h (aRf (T := T.miss) hx.2.1 hb)
  ·exact aOg (s := T.miss.s) h (Nat.le_succ k)
 obtain ⟨e1, e2, _, _⟩ := aMf T.miss
 have hx1 : T.miss.look1.x = T.x := e1
 have hp1 : T.miss.look1.p = T.p := e2
 have h2 : tIn (k + 1) T.miss.look1.look2.s := by
  unfold Tn.look2
  split
  ·rename_i hb
   exact bVv h1 (aRf (by rw [hx1]; exact hx.2.1) hb) (by rw [hp1]; exact hp)
  ·exact h1
 obtain ⟨f1, _, _⟩ := aMp T.miss.look1
 have hx2 : T.miss.look1.look2.x = T.x := f1.trans hx1
 unfold Tn.look Tn.look3
 split
 ·rename_i hb
  exact bSl h2 (aRf (by rw [hx2]; exact hx.2.1) hb)
 ·exact h2
theorem bXk {T : Tn} {k : Nat} (h : tIn k T.s) (hx : aH3 T.x) (hp : aJ9 T.p) : tIn (k + 1) T.run.s := by
 have h1 : tIn k T.begins.wts.1.s := bXy (T := T.begins) h hx
 obtain ⟨e1, e2, _⟩ := aNj T.begins
 have hx1 : T.begins.wts.1.x = T.x := e1
 have hp1 : T.begins.wts.1.p = T.p := e2
 have h2 : tIn (k + 1) T.begins.wts.1.run2.s := by
  unfold Tn.run2
  split
  ·exact bVf h1 (by rw [hx1]; exact hx) (by rw [hp1]; exact hp)
  ·exact aOg h1 (Nat.le_succ k)
 unfold Tn.run
 split
 ·unfold Tn.run3
  split
  ·exact h2
  ·split
   ·exact h2
   ·exact h2
 ·exact aOg (s := (T.begins.wts.1.stat 3).s) h1 (Nat.le_succ k)
theorem bUs {p : Pn} {s : Ss} (h : eF p s = true) : s.kept.length ≤ 16 := by
 unfold eF at h
 simp only [Bool.and_eq_true] at h
 obtain ⟨hpl, _, _, _, hk, _⟩ := h
 unfold aA0 at hk
 split at hk
 ·have := eq_of_beq hk
  omega
 ·rename_i hneg
  simp only [Bool.and_eq_true, Bool.not_eq_true', Bool.or_eq_false_iff, Bool.not_eq_false'] at hk
  have h2 := hk.1.2
  unfold tD at h2
  simp only [Bool.and_eq_true, decide_eq_true_eq] at h2
  have h3 := (dD hpl).2.2.2.2.2.2.2.2.2.2.1
  unfold sO at h3
  rw [if_neg (by omega)] at h3
  simp only [Bool.and_eq_true, dW] at h3
  omega
theorem bWb {p : Pn} {s : Ss} {x : In} (hp : aJ9 p) (hs : aJ7 s) (hx : aH3 x) (h : (eY p s x).2.2 = 0) : aJ7 (eY p s x).1 := by
 unfold eY at h ⊢
 split
 ·rename_i h1
  rw [if_pos h1] at h
  cases h
 ·rename_i h1
  rw [if_neg h1] at h
  split
  ·rename_i h2
   rw [if_pos h2] at h
   exact absurd h h2
  ·rename_i h2
   have hg := aPz (p := p) (s := s) (by simpa using h2)
   have hT : tIn 16 (gA p s x).s := ⟨⟨bUs hg.1, hs.1.2⟩, hs.2⟩
   have hr := bXk (T := gA p s x) hT hx hp
   exact ⟨⟨Nat.le_trans hr.1.1 (by decide), hr.1.2⟩, hr.2⟩
end
noncomputable section
attribute [local irreducible] Next aW cF Ops bQ
attribute [local irreducible] bE dH eZ eC
attribute [local go_sem] cO bP Option.getD_some cJ aT aV iv kI pJ aB9 fA iK tF dY iW bCt bO9 bO0 aZv List.cons_append bKu bHh bH1 aVs aUj bDj bX2 bYj bVk tM aEy aWt zOu zSs aKt kW bXs aMw
/-- So far, behind so many inputs: the state, the trace, an error. -/
def qE (p : Pn) (l : List In) (s : Ss) : Nat → Ss × List Ou × Int
 | 0 => (s, [], 0)
 | i + 1 => if (qE p l s i).2.2 ≠ 0 then qE p l s i else if (qE p l s i).1.status ≠ 0 then qE p l s i else
  if (eY p (qE p l s i).1 (l.getD i in0)).2.2 ≠ 0 then (ss0, [], (eY p (qE p l s i).1 (l.getD i in0)).2.2) else
  ((eY p (qE p l s i).1 (l.getD i in0)).1, (qE p l s i).2.1 ++ [(eY p (qE p l s i).1 (l.getD i in0)).2.1], 0)
theorem aRi {p : Pn} {l : List In} {s : Ss} {i : Nat} (h : (qE p l s i).2.2 ≠ 0 ∨ (qE p l s i).1.status ≠ 0) : ∀ n, i ≤ n → qE p l s n = qE p l s i := by
 intro n
 induction n with
 | zero => intro hn; rw [show i = 0 by omega]
 | succ n ih =>
  intro hn
  by_cases he : i = n + 1
  ·rw [he]
  ·have e := ih (by omega)
   rw [qE, e]
   split
   ·rfl
   ·rename_i h1
    rw [if_pos (h.resolve_left h1)]
def aCk (p : Pn) (s : Ss) (l : List In) : Ss × List Ou × Int := if eF p s = true then qE p l s l.length else (ss0, [], 1)
def bGp (p : Pn) (s : Ss) (l : List In) : Prop := aJ9 p ∧ aJ7 s ∧ l.length ≤ 1000000 ∧ ∀ x ∈ l, aH3 x
open Classical in
def aZh : List AV → Mem → Option (AV × Mem)
 | [.agg ps, .agg ss, .lst _ 2 rows], m =>
  match iH ps, sC ss, aAn rows with
  | some p, some s, some l => if bGp p s l then some (.tup [.lst .no 6 (kU (aCk p s l).2.1), .agg (aCk p s l).1.row, .v (.int .i64 (aCk p s l).2.2)], m) else none
  | _, _, _ => none
 | _, _ => none
theorem bS0 {p : Pn} {s : Ss} {l : List In} {g : Grow} (h : bGp p s l) (m : Mem) : aZh [.agg p.row, .agg s.row, .lst g 2 (iQ l)] m = some (.tup [.lst .no 6 (kU (aCk p s l).2.1), .agg (aCk p s l).1.row, .v (.int .i64 (aCk p s l).2.2)], m) := by
 simp only [aZh, unPn_row, dZ, unsIn_rowsIn]
 exact if_pos h
theorem cDn {m : Mem} {x : In} : aR Tryz.prog (m.push xC) 82 (.ptr m.vars.length 0) (.agg x.row) = some (m.push x.row) := by
 rw [eW (cs := x.row) rfl bKk (Nat.le_refl _) rfl]
 rfl
theorem cCq {m : Mem} {x : Ou} : aR Tryz.prog (m.push dX) 65 (.ptr m.vars.length 0) (.agg x.row) = some (m.push x.row) := by
 rw [eW (cs := x.row) rfl aEy (Nat.le_refl _) rfl]
 rfl
def gU : Nat → Option (List Nat) := fun
 | 0 => some [2, 3, 4, 7]
 | 1 => some [2, 7, 9, 10]
 | 2 => some [2, 7, 9, 10, 24]
 | 3 => some [6, 7, 8]
 | 4 => some [2, 7, 9, 11]
 | 5 => some [2, 7, 9, 11, 12]
 | 6 => some [7, 9, 11, 12, 29, 30, 31]
 | 7 => some [7, 9, 11, 12, 29, 30, 31, 32]
 | 8 => some [7, 9, 11, 12, 14, 29, 30, 31]
 | 9 => some [7, 9, 11, 12, 14, 29, 30, 31, 40]
 | 10 => some [7, 9, 11, 12, 15, 16, 29, 30, 31]
 | 11 => some [7, 9, 11, 12, 15, 16, 29, 30, 31, 48]
 | 12 => some [6, 7, 8]
 | 13 => some [7, 9, 11, 12, 29, 30, 31]
 | 14 => some [7, 9, 11, 12, 29, 30, 31]
 | 15 => some [6, 7, 8]
 | _ => none
attribute [go_sem] gU
def bG9 : List (FuncId × (List AV → Mem → Option (AV × Mem))) := [(32, aK5)]
theorem bUo : aO Tryz.prog 23 aZh := by
 have hC := aI (P := Tryz.prog) (l := bG9) (aA bNy aF)
 have t1 := taT bG9 32 rfl
 refine dJ Tryz.func23 rfl false rfl fun args m r h => ?_
 unfold aZh at h
 split at h
 ·rename_i ps ss gl rows
  split at h
  ·rename_i p s l hp0 hs0 hl0
   obtain rfl := bZ hp0
   obtain rfl := dT hs0
   obtain rfl := oA hl0
   split at h
   ·rename_i hd
    obtain ⟨hp, hs, hlen, hins⟩ := hd
    simp only [Option.some.injEq] at h
    subst h
    refine ⟨nbT, fun φ wd => ?_⟩
    refine en ?_
    have v3 : (((m.push p.row).push s.row).push cL).var m.vars.length = some p.row := aQ (aQ aJ)
    have v4 : (((m.push p.row).push s.row).push cL).var (m.push p.row).vars.length = some s.row := aQ aJ
    have v7 : (((m.push p.row).push s.row).push cL).var ((m.push p.row).push s.row).vars.length = some cL := aJ
    have hA := aG (cs := cL) (aG (cs := s.row) (aG (cs := p.row) (aM m)))
    have hg7 : m.vars.length ≤ ((m.push p.row).push s.row).vars.length := by rw [cH, cH]; omega
    refine xq ?_
    refine aB (kp := gU) mixed hC ?_
    refine go0 ?_
    refine xq ?_
    generalize ((m.push p.row).push s.row).push cL = m2 at v3 v4 v7 hA
    generalize ((m.push p.row).push s.row).vars.length = r7 at v7 hg7
    generalize (m.push p.row).vars.length = r4 at v4
    generalize m.vars.length = r3 at v3
    have l1 := qB v3
    have l2 := yH v4
    have z0 : ((0 : Int) != 0) = false := rfl
    have z1 : ((1 : Int) != 0) = true := rfl
    refine iF (l2 := gU 1) ?_
    refine aFu hC (jn @l1 @l2) ?_
    refine bX (aQb (x := .tmp 18) (y := .tmp 19) bSy rfl rfl (by decide) rfl rfl rfl rfl rfl ⟨p, s, rfl, hp.1, hs.1⟩ fun r mm F' hpost _ => ?_)
    obtain ⟨hm2, hcase⟩ := hpost p s rfl
    subst hm2
    rw [List.append_nil]
    unfold aCk
    rcases hcase with ⟨hok, b, rfl, rfl⟩ | ⟨hok, rfl, rfl⟩
    ·rw [if_pos hok]
     refine gL hC ?_
     refine xq ?_
     refine aB (kp := gU) mixed hC ?_
     refine go1 @z0 ?_
     refine xq ?_
     refine xcF rfl ?_
     refine xq ?_
     refine bV9 9 rfl ?_
     have v9 : (mm.push (Rn.mk true p s).row).var mm.vars.length = some (Rn.mk true p s).row := aJ
     have w7 := aQ (cs' := (Rn.mk true p s).row) v7
     have hA9 := aQf (aG (cs := (Rn.mk true p s).row) hA)
     have hg9 : m.vars.length ≤ mm.vars.length := uL hA
     have hn9 : mm.vars.length ≠ r7 := by have := (fM v7).1; omega
     generalize mm.push (Rn.mk true p s).row = m9 at v9 w7 hA9 ⊢
     generalize mm.vars.length = r9 at v9 hg9 hn9 ⊢
     refine aB (kp := gU) mixed hC ?_
     refine go0 ?_
     refine xq ?_
     refine aB (kp := gU) mixed hC ?_
     refine go0 ?_
     refine xq ?_
     refine aB (kp := gU) mixed hC ?_
     refine go0 ?_
     refine aRy ?_
     refine aH6 (fun e m' F => ∃ (S : Ss) (acc : List Ou) (g : Grow), qE p l s l.length = (S, acc, 0) ∧ pC m m' ∧ m'.var r9 = some (Rn.mk true p S).row ∧ m'.var r7 = some cL ∧ Ev.restr (some [7, 9, 12]) e = [(7, AV.ptr r7 0), (9, .ptr r9 0), (12, .lst g 6 (kU acc))] ∧ F = []) ?_ ?_
     ·refine bFr ?_
      refine wZ (fun k e m' F => ∃ (i : Nat) (S : Ss) (acc : List Ou) (g : Grow), i ≤ l.length ∧ qE p l s i = (S, acc, 0) ∧ acc.length ≤ i ∧ aJ7 S ∧ pC m m' ∧ aJv m m' g ∧ m'.var r9 = some (Rn.mk true p S).row ∧ m'.var r7 = some cL ∧ k = l.length - i ∧ F = [] ∧
       e = [(7, AV.ptr r7 0), (9, .ptr r9 0), (11, .fn (.func 32) [.ptr r9 0] []), (12, .lst g 6 (kU acc)), (29, .lst gl 2 (iQ l)), (30, .v (.int .i64 l.length)), (31, .v (.int .i64 (i : Int)))]) (k := l.length)
       ⟨0, s, [], .full, Nat.zero_le _, rfl, Nat.zero_le _, hs, hA9, .inl rfl, v9, w7, rfl, rfl, rfl⟩ ?_
      rintro k e m' F ⟨i, S, acc, g, hi, hgo, hacc, hS, hA', hg', u9, u7, rfl, rfl, rfl⟩
      refine xq ?_
      refine aB (kp := gU) mixed hC ?_
      refine go0 ?_
      refine xq ?_
      refine cK rfl (fun hc => ?_) (fun hc => ?_)
      ·have hi1 : i < l.length := by have := of_decide_eq_true hc; omega
       have f1 := bZ0 (g := gl) (kk := .i64) hi1
       have r6 := cP (i := i) (by omega)
       have hN : qE p l s (i + 1) = if S.status ≠ 0 then (S, acc, 0) else if (eY p S (l.getD i in0)).2.2 ≠ 0 then (ss0, [], (eY p S (l.getD i in0)).2.2) else ((eY p S (l.getD i in0)).1, acc ++ [(eY p S (l.getD i in0)).2.1], 0) := by
        rw [qE, hgo]
        rfl
       have hx := hins (l.getD i in0) (jI hi1)
       have hdom : aJ9 p ∧ aJ7 S ∧ aH3 (l.getD i in0) := ⟨hp, hS, hx⟩
       have cS := fun {mq : Mem} (hv : mq.var r9 = some (Rn.mk true p S).row) => bQq (x := l.getD i in0) hv hdom
       have hkeep : (eY p S (l.getD i in0)).2.2 = 0 → aJ7 (eY p S (l.getD i in0)).1 := bWb hp hS hx
       generalize l.getD i in0 = x at f1 hN cS hkeep
       have st := cDn (m := m') (x := x)
       have v14 : (m'.push x.row).var m'.vars.length = some x.row := aJ
       have y9 := aQ (cs' := x.row) u9
       have y7 := aQ (cs' := x.row) u7
       have hA14 := yQ (cs := x.row) hA'
       have hg14 := aLy (cs := x.row) hg'
       refine xq ?_
       refine aB (kp := gU) mixed hC ?_
       refine go1 (jn @f1 @st) ?_
       refine xq ?_
       generalize m'.push x.row = m3 at v14 y9 y7 hA14 hg14 ⊢
       generalize m'.vars.length = r14 at v14 ⊢
       have l3 := bAo y9
       refine aB (kp := gU) mixed hC ?_
       refine go1 @l3 ?_
       refine xq ?_
       refine cK rfl (fun hc => ?_) (fun hc => ?_)
       ·have hst : S.status ≠ 0 := by simpa using hc
        refine xq ?_
        refine ⟨S, acc, g, ?_, hA14, y9, y7, rfl, rfl⟩
        rw [aRi (i := i) (by rw [hgo]; exact .inr hst) _ hi, hgo]
       ·have hst : S.status = 0 := by simpa using hc
        rw [if_neg (by omega)] at hN
        have c2 := cS y9
        have l4 := bYv v14
        generalize eY p S x = Y at hN c2 hkeep
        obtain ⟨S2, O, E⟩ := Y
        dsimp only at hN c2 hkeep
        by_cases hE : E = 0
        ·subst hE
         rw [if_neg (by decide)] at hN
         rw [if_pos rfl] at c2
         have z9 : (bO m3 r9 (Rn.mk true p S2).row).var r9 = some (Rn.mk true p S2).row := bA y9
         have z7 : (bO m3 r9 (Rn.mk true p S2).row).var r7 = some cL := cD y7 (fun h => hn9 h.symm)
         have hA15 := iD (q := r9) (cs := (Rn.mk true p S2).row) hA14 hg9
         have hg15 := aLd (q := r9) (cs := (Rn.mk true p S2).row) hg14
         have st15 := cCq (m := bO m3 r9 (Rn.mk true p S2).row) (x := O)
         refine xq ?_
         refine aB (kp := gU) mixed hC ?_
         refine go1 (jn @l4 (jn @t1 (jn @c2 @st15))) ?_
         refine xq ?_
         generalize bO m3 r9 (Rn.mk true p S2).row = m4 at z9 z7 hA15 hg15 ⊢
         have v15 : (m4.push O.row).var m4.vars.length = some O.row := aJ
         have q9 := aQ (cs' := O.row) z9
         have q7 := aQ (cs' := O.row) z7
         have hA16 := yQ (cs := O.row) hA15
         have hg16 := aLy (cs := O.row) hg15
         generalize m4.push O.row = m5 at v15 q9 q7 hA16 hg16 ⊢
         generalize m4.vars.length = r15 at v15 ⊢
         refine aB (kp := gU) mixed hC ?_
         refine go1 @z0 ?_
         refine xq ?_
         refine xcF rfl ?_
         have l5 := bLx (g := .no) v15
         have mk := cBt (x := O)
         obtain ⟨g2, m6, a1, hg6, hA6, hv6, hl6⟩ := aSe bW2 (g2 := .full) (xs := kU acc) (ys := kU [O]) hg16 hA16 (by have h1 := xF acc; have h2 := xF [O]; unfold lim; simp only [List.length_cons, List.length_nil] at h2; omega)
         rw [bBf] at a1
         refine xq ?_
         refine aB (kp := gU) mixed hC ?_
         refine go1 (jn @l5 (jn @mk @a1)) ?_
         refine xq ?_
         refine aB (kp := gU) mixed hC ?_
         refine go1 @r6 ?_
         refine xq ?_
         exact ⟨l.length - (i + 1), by omega, i + 1, S2, acc ++ [O], g2, hi1, hN, by simp; omega, hkeep rfl, hA6, hg6, by rw [hv6]; exact q9, by rw [hv6]; exact q7, rfl, rfl, rfl⟩
        ·rw [if_pos hE] at hN
         rw [if_neg hE] at c2
         have zE : (E != 0) = true := by simpa using hE
         have st15 := cCq (m := m3) (x := O)
         have q7 := aQ (cs' := O.row) y7
         have hA16 := yQ (cs := O.row) hA14
         refine xq ?_
         refine aB (kp := gU) mixed hC ?_
         refine go1 (jn @l4 (jn @t1 (jn @c2 @st15))) ?_
         refine xq ?_
         generalize m3.push O.row = m5 at q7 hA16 ⊢
         refine aB (kp := gU) mixed hC ?_
         refine go1 @zE ?_
         refine xq ?_
         refine xcT rfl ?_
         have st7 : aR Tryz.prog m5 46 (.ptr r7 0) (.agg cL) = some (bO m5 r7 cL) := aS q7 tM rfl rfl (Nat.le_refl _) rfl rfl
         refine xq ?_
         refine aB (kp := gU) mixed hC ?_
         refine go1 @st7 ?_
         refine xq ?_
         have hfin : qE p l s l.length = (ss0, [], E) := by rw [aRi (i := i + 1) (by rw [hN]; exact .inl hE) _ hi1, hN]
         rw [hfin]
         exact aX (lB rfl rfl (bY (off := 0) (bA q7) tM bPi (Nat.le_refl _) rfl) rfl rfl (rP (iD hA16 hg7)))
      ·have hi1 : i = l.length := by have := of_decide_eq_false hc; omega
       subst hi1
       refine xq ?_
       exact ⟨S, acc, g, hgo, hA', u9, u7, rfl, rfl⟩
     ·rintro e m' F ⟨S, acc, g, hgo, hA', u9, u7, he, rfl⟩
      refine aD3 (some [7, 9, 12]) ?_
      rw [he, hgo]
      have l6 := bWu u9
      have st7 : aR Tryz.prog m' 46 (.ptr r7 0) (.agg S.row) = some (bO m' r7 S.row) := aS u7 tM rfl rfl (Nat.le_refl _) rfl rfl
      refine xq ?_
      refine bN (l2 := gU 15) mixed hC (by kernel_rfl) ?_
      refine eJ (jn @l6 @st7) ?_
      refine xq ?_
      exact aX (lB rfl rfl (yH (bA u7)) rfl rfl (rP (iD hA' hg7)))
    ·rw [if_neg (by rw [hok]; decide)]
     have st : aR Tryz.prog mm 46 (.ptr r7 0) (.agg cL) = some (bO mm r7 cL) := aS v7 tM rfl rfl (Nat.le_refl _) rfl rfl
     refine gL hC ?_
     refine xq ?_
     refine aB (kp := gU) mixed hC ?_
     refine go1 @z1 ?_
     refine xq ?_
     refine xcT rfl ?_
     refine xq ?_
     refine aB (kp := gU) mixed hC ?_
     refine go1 @st ?_
     refine xq ?_
     exact aX (lB rfl rfl (bY (off := 0) (bA v7) tM bPi (Nat.le_refl _) rfl) rfl rfl (aC (bD hA hg7)))
   ·cases h
  ·cases h
 ·cases h
end
noncomputable section
attribute [local irreducible] Next aW cF Ops bQ
attribute [local irreducible] bE dH eZ eC
attribute [local go_sem] cO bP Option.getD_some cJ aT aV iv kI pJ aB9 fA iK tF dY iW List.cons_append bKu bHh bH1 aVs aUj bDj bX2 bYj bVk tM aEy aWt zOu zSs aKt kW bXs aMw cAb cCz bIa
def aUs (p : Pn) (l : List In) : Prop := aJ9 p ∧ l.length ≤ 1000000 ∧ ∀ x ∈ l, aH3 x
def pW (p : Pn) (l : List In) : Ss × List Ou × Int := aCk p zB l
theorem bYg : aJ7 zB := ⟨⟨Nat.zero_le _, fun y hy => by cases hy⟩, ⟨by decide, by decide, by decide⟩, by decide, ⟨Nat.zero_le _, fun y hy => by cases hy⟩, Nat.zero_le _⟩
open Classical in
def bJw : List AV → Mem → Option (AV × Mem)
 | [.agg ps, .lst _ 2 rows], m =>
  match iH ps, aAn rows with
  | some p, some l => if aUs p l then some (.tup [.lst .no 6 (kU (pW p l).2.1), .agg (pW p l).1.row, .v (.int .i64 (pW p l).2.2)], m) else none
  | _, _ => none
 | _, _ => none
theorem bNu {p : Pn} {l : List In} {g : Grow} (h : aUs p l) (m : Mem) : bJw [.agg p.row, .lst g 2 (iQ l)] m = some (.tup [.lst .no 6 (kU (pW p l).2.1), .agg (pW p l).1.row, .v (.int .i64 (pW p l).2.2)], m) := by
 simp only [bJw, unPn_row, unsIn_rowsIn]
 exact if_pos h
def bMj : Nat → Option (List Nat) := fun
 | 0 => some [1, 2, 5]
 | 1 => some [4, 5, 6]
 | _ => none
attribute [go_sem] bMj
def bDq : List (FuncId × (List AV → Mem → Option (AV × Mem))) := [(24, aVq), (23, aZh)]
theorem bRr : aO Tryz.prog 8 bJw := by
 have hC := aI (P := Tryz.prog) (l := bDq) (aA bOh (aA bUo aF))
 have t1 := taT bDq 24 rfl
 have t2 := taT bDq 23 rfl
 refine dJ Tryz.func8 rfl false rfl fun args m r h => ?_
 unfold bJw at h
 split at h
 ·rename_i ps gl rows
  split at h
  ·rename_i p l hp0 hl0
   obtain rfl := bZ hp0
   obtain rfl := oA hl0
   split at h
   ·rename_i hd
    simp only [Option.some.injEq] at h
    subst h
    refine ⟨nbT, fun φ wd => ?_⟩
    refine en ?_
    have v2 : ((m.push p.row).push cL).var m.vars.length = some p.row := aQ aJ
    have v5 : ((m.push p.row).push cL).var (m.push p.row).vars.length = some cL := aJ
    have hA := aG (cs := cL) (aG (cs := p.row) (aM m))
    have hg5 : m.vars.length ≤ (m.push p.row).vars.length := by rw [cH]; omega
    refine xq ?_
    refine aB (kp := bMj) mixed hC ?_
    refine go0 ?_
    refine xq ?_
    generalize (m.push p.row).push cL = m2 at v2 v5 hA
    generalize (m.push p.row).vars.length = r5 at v5 hg5
    generalize m.vars.length = r2 at v2
    have l1 := qB v2
    have c1 := bOt
    have c2 := bS0 (p := p) (s := zB) (l := l) (g := .no) ⟨hd.1, bYg, hd.2⟩
    rw [show aCk p zB l = pW p l from rfl] at c2
    generalize pW p l = Y at c2 ⊢
    have st : aR Tryz.prog m2 46 (.ptr r5 0) (.agg Y.1.row) = some (bO m2 r5 Y.1.row) := aS v5 tM rfl rfl (Nat.le_refl _) rfl rfl
    refine bN (l2 := bMj 1) mixed hC (by kernel_rfl) ?_
    refine eJ (jn @l1 (jn @t1 (jn @c1 (jn @t2 (jn @c2 @st))))) ?_
    refine xq ?_
    exact aX (lB rfl rfl (yH (bA v5)) rfl rfl (aC (bD hA hg5)))
   ·cases h
  ·cases h
 ·cases h
/-! ### the plain example -/
def plT (n : Int) : List Sg := [⟨0, n, 0, n, ⟨1, 8, 0, 0⟩, 0, 0⟩]
def mH (n : Int) : Pn := ⟨n, 1, 1, 1, 1, [⟨0, n⟩], [[false]], [⟨0, 0, plT n⟩, ⟨0, 1, plT n⟩, ⟨0, 2, plT n⟩], tp0, pt0, kp0, em0, -1, -1, -1, 0, 0⟩
def uW : Pn := { mH 9 with stopAt := 0, stop := ⟨true, ⟨#[]⟩, false, 1, 0, false⟩ }
def aCa (x w : Int) : In := ⟨[⟨true, x⟩], [w]⟩
def aI2 : List In := [aCa 5 1, aCa 4 1, aCa 4 1, aCa 3 1]
theorem bRu : (pW uW aI2).2.2 = 0 ∧ (pW uW aI2).2.1.length = 3 ∧ (pW uW aI2).1.status = 2 ∧ (pW uW aI2).1.ended = 2 ∧ (pW uW aI2).1.stop.best = 4 := by
 refine ⟨?_, ?_, ?_, ?_, ?_⟩ <;> decide +kernel
end
noncomputable section
attribute [local irreducible] Next aW cF Ops bQ
attribute [local irreducible] bE dH eZ eC
attribute [local go_sem] cO bP Option.getD_some cJ aT aV iv kI pJ aB9 fA iK tF dY iW List.cons_append bKu bHh bH1 aVs aUj bDj bX2 bYj bVk tM aEy aWt zOu zSs aKt kW bXs aMw cAb cCz cCe bIa cBl cCg sE vK nF aBc aNy aVl cBc cA9
theorem cBm {a b : Int} : cN Tryz.prog 71 [(0, .v (.int .i64 a)), (1, .v (.int .i64 b))] = some (.agg (Cv.mk a b 0 0).row) := by kernel_rfl
attribute [local go_sem] cBm
theorem cBf {a b : Int} {c : Cv} : cN Tryz.prog 73 [(1, .v (.int .i64 a)), (3, .v (.int .i64 b)), (4, .agg c.row)] = some (.agg (Sg.mk 0 a 0 b c 0 0).row) := by kernel_rfl
attribute [local go_sem] cBf
theorem cAq {a : Int} : cN Tryz.prog 94 [(1, .v (.int .i64 a))] = some (.agg (Sp.mk 0 a).row) := by kernel_rfl
attribute [local go_sem] cAq
theorem cCw {b : Bool} : bG Tryz.prog 62 1 [(0, .v (.bool b))] = some (.lst .full 1 (eA [b])) := by kernel_rfl
attribute [local go_sem] cCw
theorem cCh {g : Grow} {b : List Bool} : bG Tryz.prog 23 1 [(0, .lst g 1 (eA b))] = some (.lst .full 1 (jD [b])) := by kernel_rfl
attribute [local go_sem] cCh
theorem cCl {g : Grow} {l : List Sg} : cN Tryz.prog 68 [(2, .lst g 10 (eO l))] = some (.agg [.v (.int .i64 0), .v (.int .i64 0), .lst g 10 (eO l)]) := by kernel_rfl
attribute [local go_sem] cCl
theorem cAt {g : Grow} {l : List Sg} {a : Int} : cN Tryz.prog 68 [(1, .v (.int .i64 a)), (2, .lst g 10 (eO l))] = some (.agg [.v (.int .i64 0), .v (.int .i64 a), .lst g 10 (eO l)]) := by kernel_rfl
attribute [local go_sem] cAt
theorem cBw {g1 g2 g3 : Grow} {a b c : Int} {l1 l2 l3 : List Sg} : bG Tryz.prog 24 3 [(0, .agg [.v (.int .i64 0), .v (.int .i64 a), .lst g1 10 (eO l1)]), (1, .agg [.v (.int .i64 0), .v (.int .i64 b), .lst g2 10 (eO l2)]), (2, .agg [.v (.int .i64 0), .v (.int .i64 c), .lst g3 10 (eO l3)])] = some (.lst .full 3 (jM [⟨0, a, l1⟩, ⟨0, b, l2⟩, ⟨0, c, l3⟩])) := by kernel_rfl
attribute [local go_sem] cBw
def bOv (n : Int) : List AV := [iv n, iv 1, iv 1, iv 1, iv 1, .lst .full 2 (gZ [⟨0, n⟩]), .lst .full 1 (jD [[false]]), .lst .full 3 (jM [⟨0, 0, plT n⟩, ⟨0, 1, plT n⟩, ⟨0, 2, plT n⟩])] ++ (tp0.row ++ (pt0.row ++ (kp0.row ++ (em0.row ++ [iv (-1), iv (-1), iv (-1), iv 0, iv 0]))))
theorem bZs {n : Int} : eO [Sg.mk 0 n 0 n (Cv.mk 1 8 0 0) 0 0] = eO (plT n) := rfl
attribute [local go_sem] bZs
theorem cE1 {n : Int} : cN Tryz.prog 34 [(0, .v (.int .i64 n)), (3, .v (.int .i64 1)), (2, .v (.int .i64 1)), (1, .v (.int .i64 1)), (4, .v (.int .i64 1)), (5, .lst .full 2 (gZ [⟨0, n⟩])), (6, .lst .full 1 (jD [[false]])), (7, .lst .full 3 (jM [⟨0, 0, plT n⟩, ⟨0, 1, plT n⟩, ⟨0, 2, plT n⟩])), (12, .v (.int .i64 (-1))), (13, .v (.int .i64 (-1))), (14, .v (.int .i64 (-1)))] = some (.agg (bOv n)) := by kernel_rfl
attribute [local go_sem] cE1
def aUz : List AV → Mem → Option (AV × Mem)
 | [.v (.int .i64 n)], m => some (.agg (mH n).row, m)
 | _, _ => none
theorem bM4 (n : Int) (m : Mem) : aUz [.v (.int .i64 n)] m = some (.agg (mH n).row, m) := rfl
def bFd : Nat → Option (List Nat) := fun
 | 0 => some [0, 2]
 | 1 => some [0, 2, 3]
 | 2 => some [2]
 | _ => none
attribute [go_sem] bFd
theorem bMv : aO Tryz.prog 21 aUz := by
 have hC := aI (P := Tryz.prog) (l := []) aF
 refine aP mixed hC Tryz.func21 rfl bFd false rfl fun args m r h => ?_
 unfold aUz at h
 split at h
 ·rename_i n
  simp only [Option.some.injEq] at h
  subst h
  refine ⟨nbT, ?_⟩
  refine en ?_
  have v2 : (m.push wX).var m.vars.length = some wX := aJ
  have nz := cCe (m := m)
  have hA := aG (cs := wX) (aM m)
  have hg := Nat.le_refl m.vars.length
  refine go0 ?_
  generalize m.push wX = m2 at v2 hA
  generalize hr2 : m.vars.length = r2 at v2 ⊢
  have st : aR Tryz.prog m2 34 (.ptr r2 0) (.agg (bOv n)) = some (bO m2 r2 (bOv n)) := aS v2 bIa rfl rfl nbT rfl rfl
  refine go1 @st ?_
  exact eK rfl (bY (off := 0) (bA v2) bIa cAi nbT rfl) rfl (aC (bD hA (Nat.le_of_eq hr2)))
 ·cases h
def bF9 : List AV → Mem → Option (AV × Mem)
 | [.v (.int .i64 x), .v (.int .i64 w)], m => some (.agg (aCa x w).row, m)
 | _, _ => none
theorem bUv (x w : Int) (m : Mem) : bF9 [.v (.int .i64 x), .v (.int .i64 w)] m = some (.agg (aCa x w).row, m) := rfl
theorem cAe {b : Bool} {x : Int} : cN Tryz.prog 89 [(0, .v (.bool b)), (1, .v (.int .i64 x))] = some (.agg (Rd.mk b x).row) := by kernel_rfl
attribute [local go_sem] cAe
theorem cAd {g g2 : Grow} {l : List Rd} {w : Int} : cN Tryz.prog 82 [(0, .lst g 2 (gO l)), (1, .lst g2 1 [[.v (.int .i64 w)]])] = some (.agg [.lst g 2 (gO l), .lst g2 1 [[.v (.int .i64 w)]]]) := by kernel_rfl
attribute [local go_sem] cAd
def bR9 : Nat → Option (List Nat) := fun
 | 0 => some [0, 1, 4]
 | 1 => some [4]
 | _ => none
attribute [go_sem] bR9
theorem bUf : aO Tryz.prog 22 bF9 := by
 have hC := aI (P := Tryz.prog) (l := []) aF
 refine aP mixed hC Tryz.func22 rfl bR9 false rfl fun args m r h => ?_
 unfold bF9 at h
 split at h
 ·rename_i x w
  simp only [Option.some.injEq] at h
  subst h
  refine ⟨nbT, ?_⟩
  refine en ?_
  have v2 : (m.push xC).var m.vars.length = some xC := aJ
  have nz := bVk (m := m)
  have hA := aG (cs := xC) (aM m)
  refine go0 ?_
  generalize m.push xC = m2 at v2 hA
  generalize hr2 : m.vars.length = r2 at v2 ⊢
  have st : aR Tryz.prog m2 82 (.ptr r2 0) (.agg [.lst .full 2 (gO [⟨true, x⟩]), .lst .full 1 [[.v (.int .i64 w)]]]) = some (bO m2 r2 [.lst .full 2 (gO [⟨true, x⟩]), .lst .full 1 [[.v (.int .i64 w)]]]) := aS v2 bKk rfl rfl (Nat.le_refl _) rfl rfl
  refine go1 @st ?_
  exact eK rfl (bY (off := 0) (bA v2) bKk cAr (Nat.le_refl _) rfl) rfl (aC (bD hA (Nat.le_of_eq hr2)))
 ·cases h
/-! ### stopped -/
theorem cAs {b : Bool} {a : Int} : cN Tryz.prog 26 [(0, .v (.bool b)), (3, .v (.int .i64 a))] = some (.agg (Tp.mk b ⟨#[]⟩ false a 0 false).row) := by kernel_rfl
attribute [local go_sem] cAs
theorem cCn {a b c d : In} : bG Tryz.prog 35 4 [(0, .agg a.row), (1, .agg b.row), (2, .agg c.row), (3, .agg d.row)] = some (.lst .full 2 (iQ [a, b, c, d])) := by kernel_rfl
attribute [local go_sem] cCn
theorem bZ7 : cA Tryz.prog 26 = some 6 := by kernel_rfl
theorem cE5 {m : Mem} {x : Pn} : aR Tryz.prog (m.push wX) 34 (.ptr m.vars.length 0) (.agg x.row) = some (m.push x.row) := by
 rw [eW (cs := x.row) rfl bIa nbT rfl]
 rfl
theorem bMp : aUs uW aI2 := by
 refine ⟨⟨⟨by decide, by decide, by decide, ?_⟩, by decide, by decide, by decide, by decide⟩, by decide, ?_⟩
 ·intro t ht
  simp only [uW, mH, List.mem_cons, List.not_mem_nil, or_false] at ht
  rcases ht with rfl | rfl | rfl <;> decide
 ·intro x hx
  simp only [aI2, List.mem_cons, List.not_mem_nil, or_false] at hx
  rcases hx with rfl | rfl | rfl | rfl <;> exact ⟨⟨by decide, by decide⟩, by decide, by decide⟩
def qL : Nat → Option (List Nat) := fun
 | 0 => some []
 | 1 => some [1]
 | 2 => some [1]
 | 3 => some [2, 3, 4]
 | 4 => some [0]
 | _ => none
attribute [go_sem] qL
def xS : List (FuncId × (List AV → Mem → Option (AV × Mem))) := [(21, aUz), (22, bF9), (8, bJw)]
theorem bAu : aO Tryz.prog 7 bUg := by
 have hC := aI (P := Tryz.prog) (l := xS) (aA bMv (aA bUf (aA bRr aF)))
 have t1 := taT xS 21 rfl
 have t2 := taT xS 22 rfl
 have t3 := taT xS 8 rfl
 refine dJ Tryz.func7 rfl false rfl fun args m r h => ?_
 unfold bUg at h
 split at h
 ·simp only [Option.some.injEq] at h
  subst h
  refine ⟨nbT, fun φ wd => ?_⟩
  refine en ?_
  have c1 := bM4 9
  have st1 := cE5 (m := m) (x := mH 9)
  have v1 : (m.push (mH 9).row).var m.vars.length = some (mH 9).row := aJ
  have hA := aG (cs := (mH 9).row) (aM m)
  refine xq ?_
  refine aB (kp := qL) mixed hC ?_
  refine go0 ?_
  refine xq ?_
  refine aB (kp := qL) mixed hC ?_
  refine go1 (jn @t1 (jn @c1 @st1)) ?_
  refine xq ?_
  generalize m.push (mH 9).row = m1 at v1 hA
  generalize hr1 : m.vars.length = r1 at v1 ⊢
  have st2 : aR Tryz.prog m1 3 (.ptr r1 28) (.v (.int .i64 0)) = some (bO m1 r1 ({ mH 9 with stopAt := 0 } : Pn).row) := aS v1 bP rfl rfl nbT rfl rfl
  have v2 : (bO m1 r1 ({ mH 9 with stopAt := 0 } : Pn).row).var r1 = some ({ mH 9 with stopAt := 0 } : Pn).row := bA v1
  have st3 : aR Tryz.prog (bO m1 r1 ({ mH 9 with stopAt := 0 } : Pn).row) 26 (.ptr r1 8) (.agg (Tp.mk true ⟨#[]⟩ false 1 0 false).row) = some (bO (bO m1 r1 ({ mH 9 with stopAt := 0 } : Pn).row) r1 uW.row) := aS v2 bZ7 rfl rfl nbT rfl rfl
  rw [aBk] at st3
  have v3 : (bO m1 r1 uW.row).var r1 = some uW.row := bA v1
  have hA3 := bD (q := r1) (cs := uW.row) hA (Nat.le_of_eq hr1)
  refine aB (kp := qL) mixed hC ?_
  refine go1 (jn @st2 @st3) ?_
  refine xq ?_
  generalize bO m1 r1 uW.row = m3 at v3 hA3 ⊢
  have l1 := qB v3
  have c2 := fun x w => bUv x w
  have c3 := bNu (g := .no) bMp
  obtain ⟨e1, e2, e3, e4, e5⟩ := bRu
  unfold aI2 at c3 e1 e2 e3 e4 e5
  generalize pW uW [aCa 5 1, aCa 4 1, aCa 4 1, aCa 3 1] = Y at c3 e1 e2 e3 e4 e5
  have v4 : (m3.push Y.1.row).var m3.vars.length = some Y.1.row := aJ
  have hA4 := aG (cs := Y.1.row) hA3
  refine bN (l2 := qL 3) mixed hC (by kernel_rfl) ?_
  refine eJ (jn @l1 (jn @t2 (jn @c2 (jn @t3 @c3)))) ?_
  refine xq ?_
  generalize m3.push Y.1.row = m4 at v4 hA4 ⊢
  generalize m3.vars.length = r4 at v4 ⊢
  have k1 := rY v4
  have k2 := aHv v4
  have k3 := aUv v4
  rw [e3] at k1
  rw [e4] at k2
  rw [e5] at k3
  have q1 : (Y.2.2 == 0) = true := by rw [e1]; rfl
  have q2 : (((kU Y.2.1).length : Int) == 3) = true := by rw [xF, e2]; rfl
  have q3 : ((2 : Int) == 2) = true := rfl
  have q4 : ((4 : Int) == 4) = true := rfl
  refine aB (kp := qL) mixed hC ?_
  refine go1 (jn @k1 (jn @k2 (jn @k3 (jn @q1 (jn @q2 (jn @q3 @q4)))))) ?_
  refine xq ?_
  exact aX (aE rfl rfl (aC hA4))
 ·cases h
end
noncomputable section
attribute [local irreducible] Next aW cF Ops bQ
attribute [local irreducible] bE dH eZ eC
attribute [local go_sem] cO bP Option.getD_some cJ aT aV iv kI pJ fA iK dY iW List.cons_append rJ kP vN lK vK zC lL aGt uQ aAo yJ aS9 aT2 aAa xK kV qX kO gR cV dN kW xI bP7 bNc bBa aGx aEe aWm aXv
def liA (p : Pn) (i : Nat) : Bool := decide (((p.tracks.getD i tk0).segs.length : Int) > 60)
def liB (p : Pn) (i : Nat) : Bool := decide (((p.frozen.getD i []).length : Int) > 60)
def liC (p : Pn) : Bool := decide ((p.tracks.length : Int) ≤ 30) && (decide ((p.frozen.length : Int) ≤ 20) && (decide ((p.spans.length : Int) ≤ 20) && decide (IntKind.i64.wrap (IntKind.i64.wrap ((p.stop.Metric.size : Int) + (p.plateau.Metric.size : Int)) + (p.keep.Metric.size : Int)) ≤ 100)))
def iO (p : Pn) : Bool := !((List.range (min p.tracks.length 31)).any (liA p)) && (!((List.range (min p.frozen.length 21)).any (liB p)) && liC p)
def aGw : List AV → Mem → Option (AV × Mem)
 | [.agg ps], m =>
  match iH ps with
  | some p => some (.v (.bool (iO p)), m)
  | none => none
 | _, _ => none
theorem bKc (p : Pn) (m : Mem) : aGw [.agg p.row] m = some (.v (.bool (iO p)), m) := by
 simp only [aGw, unPn_row]
def aZj : Nat → Option (List Nat) := fun
 | 0 => some [1]
 | 1 => some [1, 3]
 | 2 => some [1, 3, 13]
 | 3 => some [1, 3]
 | 4 => some [1, 3, 23]
 | 5 => some [2]
 | 6 => some [1, 4]
 | 7 => some [1, 4, 32]
 | 8 => some [1, 4]
 | 9 => some [1, 4, 41]
 | 10 => some [2]
 | 11 => some [2]
 | _ => none
attribute [go_sem] aZj
theorem bIr : aO Tryz.prog 19 aGw := by
 have hC := aI (P := Tryz.prog) (l := []) aF
 refine aP mixed hC Tryz.func19 rfl aZj false rfl fun args m r h => ?_
 unfold aGw at h
 split at h
 ·rename_i ps
  split at h
  ·rename_i p hp0
   obtain rfl := bZ hp0
   simp only [Option.some.injEq] at h
   subst h
   refine ⟨nbT, ?_⟩
   refine en ?_
   have v1 : (m.push p.row).var m.vars.length = some p.row := aJ
   have hA := aG (cs := p.row) (aM m)
   refine go0 ?_
   generalize m.push p.row = m1 at v1 hA
   generalize m.vars.length = r1 at v1
   have l1 := wB v1
   have l2 := wE v1
   have l3 := uG v1
   have l4 := zM v1
   have l5 := aG3 v1
   have l6 := zW v1
   have fin : ∀ (e : Env) (b : Bool), Ev.get e 2 = .v (.bool b) → b = iO p → cZ Tryz.prog false Tryz.f19 m (.v (.bool (iO p)), m) .ret e m1 := fun e b h1 h2 => by rw [← h2]; exact aE rfl h1 (aC hA)
   have bad1 : ∀ {i}, i < min p.tracks.length 31 → liA p i = true → iO p = false := fun {i} hi hh => by
    unfold iO
    rw [aA3 hi hh]
    rfl
   have bad2 : ∀ {i}, i < min p.frozen.length 21 → liB p i = true → iO p = false := fun {i} hi hh => by
    unfold iO
    rw [aA3 hi hh]
    simp
   refine cE (fun k e m' => ∃ (i : Nat), i ≤ min p.tracks.length 31 ∧ ((List.range i).any (liA p)) = false ∧ m1 = m' ∧ k = min p.tracks.length 31 - i ∧ e = [(1, AV.ptr r1 0), (3, .v (.int .i64 (i : Int)))]) (k := min p.tracks.length 31) ⟨0, Nat.zero_le _, rfl, rfl, rfl, rfl⟩ ?_
   rintro k e m' ⟨i, hi, hno, rfl, rfl, rfl⟩
   by_cases hi1 : i < min p.tracks.length 31
   ·have k1 : decide ((i : Int) < (p.tracks.length : Int)) = true := decide_eq_true (by omega)
    have k2 : decide ((i : Int) ≤ 30) = true := decide_eq_true (by omega)
    have f1 := bX0 (g := .no) (kk := .i64) (l := p.tracks) (i := i) (by omega)
    have hb : liA p i = decide (((p.tracks.getD i tk0).segs.length : Int) > 60) := rfl
    have r6 := cP (i := i) (by omega)
    generalize p.tracks.getD i tk0 = x at f1 hb
    refine go1 (jn @l1 (jn @k1 @k2)) ?_
    refine rcT rfl ?_
    refine go1 (jn @l1 @f1) ?_
    refine aH rfl (fun hc => ?_) (fun hc => ?_)
    ·refine go0 ?_
     exact fin _ _ rfl (bad1 hi1 (hb.trans hc)).symm
    ·refine go1 @r6 ?_
     exact ⟨min p.tracks.length 31 - (i + 1), by omega, i + 1, hi1, by rw [List.range_succ, List.any_append, hno, List.any_cons, List.any_nil, hb, hc]; rfl, rfl, rfl, rfl⟩
   ·have he : i = min p.tracks.length 31 := by omega
    repeat refine dI ?_
    refine uM [(1, AV.ptr r1 0), (3, .v (.int .i64 (i : Int))), (13, .v (.bool false))] m1 ?_ ?_
    ·by_cases h9 : i < p.tracks.length
     ·have k1 : decide ((i : Int) < (p.tracks.length : Int)) = true := decide_eq_true (by omega)
      have k2 : decide ((i : Int) ≤ 30) = false := decide_eq_false (by omega)
      refine go1 (jn @l1 (jn @k1 @k2)) ?_
      exact ⟨rfl, rfl, rfl⟩
     ·have k1 : decide ((i : Int) < (p.tracks.length : Int)) = false := decide_eq_false (by omega)
      refine go1 (jn @l1 @k1) ?_
      exact ⟨rfl, rfl, rfl⟩
    have hno1 : ((List.range (min p.tracks.length 31)).any (liA p)) = false := by rw [← he]; exact hno
    refine go0 ?_
    refine rcF rfl ?_
    refine go0 ?_
    refine cE (fun k e m' => ∃ (i : Nat), i ≤ min p.frozen.length 21 ∧ ((List.range i).any (liB p)) = false ∧ m1 = m' ∧ k = min p.frozen.length 21 - i ∧ e = [(1, AV.ptr r1 0), (4, .v (.int .i64 (i : Int)))]) (k := min p.frozen.length 21) ⟨0, Nat.zero_le _, rfl, rfl, rfl, rfl⟩ ?_
    rintro k e m' ⟨i, hi, hno, rfl, rfl, rfl⟩
    by_cases hi1 : i < min p.frozen.length 21
    ·have k1 : decide ((i : Int) < (p.frozen.length : Int)) = true := decide_eq_true (by omega)
     have k2 : decide ((i : Int) ≤ 20) = true := decide_eq_true (by omega)
     have f1 := bK4 (g := .no) (kk := .i64) (l := p.frozen) (i := i) (by omega)
     have hb : liB p i = decide (((p.frozen.getD i []).length : Int) > 60) := rfl
     have r6 := cP (i := i) (by omega)
     generalize p.frozen.getD i [] = x at f1 hb
     refine go1 (jn @l2 (jn @k1 @k2)) ?_
     refine rcT rfl ?_
     refine go1 (jn @l2 @f1) ?_
     refine aH rfl (fun hc => ?_) (fun hc => ?_)
     ·refine go0 ?_
      exact fin _ _ rfl (bad2 hi1 (hb.trans hc)).symm
     ·refine go1 @r6 ?_
      exact ⟨min p.frozen.length 21 - (i + 1), by omega, i + 1, hi1, by rw [List.range_succ, List.any_append, hno, List.any_cons, List.any_nil, hb, hc]; rfl, rfl, rfl, rfl⟩
    ·have he : i = min p.frozen.length 21 := by omega
     repeat refine dI ?_
     refine uM [(1, AV.ptr r1 0), (4, .v (.int .i64 (i : Int))), (32, .v (.bool false))] m1 ?_ ?_
     ·by_cases h9 : i < p.frozen.length
      ·have k1 : decide ((i : Int) < (p.frozen.length : Int)) = true := decide_eq_true (by omega)
       have k2 : decide ((i : Int) ≤ 20) = false := decide_eq_false (by omega)
       refine go1 (jn @l2 (jn @k1 @k2)) ?_
       exact ⟨rfl, rfl, rfl⟩
      ·have k1 : decide ((i : Int) < (p.frozen.length : Int)) = false := decide_eq_false (by omega)
       refine go1 (jn @l2 @k1) ?_
       exact ⟨rfl, rfl, rfl⟩
     have hno2 : ((List.range (min p.frozen.length 21)).any (liB p)) = false := by rw [← he]; exact hno
     have hend : iO p = liC p := by unfold iO; rw [hno1, hno2]; simp
     unfold liC at hend
     refine go0 ?_
     refine rcF rfl ?_
     cases h1 : decide ((p.tracks.length : Int) ≤ 30) with
     | false =>
      refine go1 (jn @l1 @h1) ?_
      exact fin _ _ rfl (by rw [hend, h1]; rfl)
     | true =>
      cases h2 : decide ((p.frozen.length : Int) ≤ 20) with
      | false =>
       refine go1 (jn @l1 (jn @l2 (jn @h1 @h2))) ?_
       exact fin _ _ rfl (by rw [hend, h1, h2]; rfl)
      | true =>
       cases h3 : decide ((p.spans.length : Int) ≤ 20) with
       | false =>
        refine go1 (jn @l1 (jn @l2 (jn @l3 (jn @h1 (jn @h2 @h3))))) ?_
        exact fin _ _ rfl (by rw [hend, h1, h2, h3]; rfl)
       | true =>
        refine go1 (jn @l1 (jn @l2 (jn @l3 (jn @l4 (jn @l5 (jn @l6 (jn @h1 (jn @h2 @h3)))))))) ?_
        exact fin _ _ rfl (by rw [hend, h1, h2, h3]; rfl)
  ·cases h
 ·cases h
def aBi (s : Ss) : Bool := decide ((s.kept.length : Int) ≤ 30) && (decide ((s.ema.length : Int) ≤ 30) && decide ((s.swa.sums.length : Int) ≤ 30))
def aE9 : List AV → Mem → Option (AV × Mem)
 | [.agg ss], m =>
  match sC ss with
  | some s => some (.v (.bool (aBi s)), m)
  | none => none
 | _, _ => none
theorem bK5 (s : Ss) (m : Mem) : aE9 [.agg s.row] m = some (.v (.bool (aBi s)), m) := by
 simp only [aE9, dZ]
def aYc : Nat → Option (List Nat) := fun
 | 0 => some [1]
 | 1 => some [2]
 | _ => none
attribute [go_sem] aYc
theorem bJr : aO Tryz.prog 20 aE9 := by
 have hC := aI (P := Tryz.prog) (l := []) aF
 refine aP mixed hC Tryz.func20 rfl aYc false rfl fun args m r h => ?_
 unfold aE9 at h
 split at h
 ·rename_i ss
  split at h
  ·rename_i s hs0
   obtain rfl := dT hs0
   simp only [Option.some.injEq] at h
   subst h
   refine ⟨nbT, ?_⟩
   refine en ?_
   have v1 : (m.push s.row).var m.vars.length = some s.row := aJ
   have hA := aG (cs := s.row) (aM m)
   refine go0 ?_
   generalize m.push s.row = m1 at v1 hA
   generalize m.vars.length = r1 at v1
   have l1 := aZd v1
   have l2 := bFe v1
   have l3 := aJ3 v1
   unfold aBi
   cases h1 : decide ((s.kept.length : Int) ≤ 30) with
   | false =>
    refine go1 (jn @l1 @h1) ?_
    exact aE rfl rfl (aC hA)
   | true =>
    cases h2 : decide ((s.ema.length : Int) ≤ 30) with
    | false =>
     refine go1 (jn @l1 (jn @l2 (jn @h1 @h2))) ?_
     exact aE rfl rfl (aC hA)
    | true =>
     refine go1 (jn @l1 (jn @l2 (jn @l3 (jn @h1 @h2)))) ?_
     exact aE rfl rfl (aC hA)
  ·cases h
 ·cases h
/-! ### Small -/
def aI9 (l : List In) (i : Nat) : Bool := decide (((l.getD i in0).readings.length : Int) > 30) || decide (((l.getD i in0).weights.length : Int) > 30)
def tL (p : Pn) (s : Ss) (l : List In) : Bool := iO p && (aBi s && (!(decide (p.steps > 300)) && (!(decide ((l.length : Int) > 60)) && !((List.range l.length).any (aI9 l)))))
def aLn : List AV → Mem → Option (AV × Mem)
 | [.agg ps, .agg ss, .lst _ 2 rows], m =>
  match iH ps, sC ss, aAn rows with
  | some p, some s, some l => some (.v (.bool (tL p s l)), m)
  | _, _, _ => none
 | _, _ => none
theorem bRl (p : Pn) (s : Ss) (l : List In) (g : Grow) (m : Mem) : aLn [.agg p.row, .agg s.row, .lst g 2 (iQ l)] m = some (.v (.bool (tL p s l)), m) := by
 simp only [aLn, unPn_row, dZ, unsIn_rowsIn]
def bFj : Nat → Option (List Nat) := fun
 | 0 => some [2, 3, 4]
 | 1 => some [2, 25]
 | 2 => some [6]
 | 3 => some [2, 7]
 | 4 => some [2, 7, 29]
 | 5 => some [2, 7]
 | 6 => some [2, 7, 47]
 | 7 => some [6]
 | 8 => some [6]
 | _ => none
attribute [go_sem] bFj
def wQ : List (FuncId × (List AV → Mem → Option (AV × Mem))) := [(19, aGw), (20, aE9)]
theorem bQ3 : aO Tryz.prog 6 aLn := by
 have hC := aI (P := Tryz.prog) (l := wQ) (aA bIr (aA bJr aF))
 have t1 := taT wQ 19 rfl
 have t2 := taT wQ 20 rfl
 refine aP mixed hC Tryz.func6 rfl bFj false rfl fun args m r h => ?_
 unfold aLn at h
 split at h
 ·rename_i ps ss gl rows
  split at h
  ·rename_i p s l hp0 hs0 hl0
   obtain rfl := bZ hp0
   obtain rfl := dT hs0
   obtain rfl := oA hl0
   simp only [Option.some.injEq] at h
   subst h
   refine ⟨nbT, ?_⟩
   refine en ?_
   have v1 : ((m.push p.row).push s.row).var m.vars.length = some p.row := aQ aJ
   have v2 : ((m.push p.row).push s.row).var (m.push p.row).vars.length = some s.row := aJ
   have hA := aG (cs := s.row) (aG (cs := p.row) (aM m))
   refine go0 ?_
   generalize (m.push p.row).push s.row = m1 at v1 v2 hA
   generalize (m.push p.row).vars.length = r2 at v2
   generalize m.vars.length = r1 at v1
   have l1 := qB v1
   have l2 := yH v2
   have l3 := lD v1
   have c1 := bKc p
   have c2 := bK5 s
   have k1 : (!true) = false := rfl
   have k2 : (!false) = true := rfl
   have fin : ∀ (e : Env) (b : Bool), Ev.get e 6 = .v (.bool b) → b = tL p s l → cZ Tryz.prog false Tryz.f6 m (.v (.bool (tL p s l)), m) .ret e m1 := fun e b h1 h2 => by rw [← h2]; exact aE rfl h1 (aC hA)
   have hend : tL p s l = (iO p && (aBi s && (!(decide (p.steps > 300)) && (!(decide ((l.length : Int) > 60)) && !((List.range l.length).any (aI9 l)))))) := rfl
   cases h1 : iO p with
   | false =>
    rw [h1] at c1 hend
    refine go1 (jn @l1 (jn @t1 (jn @c1 @k2))) ?_
    refine rcT rfl ?_
    refine go0 ?_
    exact fin _ _ rfl (by rw [hend]; rfl)
   | true =>
    rw [h1] at c1 hend
    cases h2 : aBi s with
    | false =>
     rw [h2] at c2 hend
     refine go1 (jn @l1 (jn @t1 (jn @c1 (jn @k1 (jn @l2 (jn @t2 (jn @c2 @k2))))))) ?_
     refine rcT rfl ?_
     refine go0 ?_
     exact fin _ _ rfl (by rw [hend]; rfl)
    | true =>
     rw [h2] at c2 hend
     cases h3 : decide (p.steps > 300) with
     | true =>
      rw [h3] at hend
      refine go1 (jn @l1 (jn @t1 (jn @c1 (jn @k1 (jn @l2 (jn @t2 (jn @c2 (jn @l3 @h3)))))))) ?_
      refine rcT rfl ?_
      refine go0 ?_
      exact fin _ _ rfl (by rw [hend]; rfl)
     | false =>
      rw [h3] at hend
      cases h4 : decide ((l.length : Int) > 60) with
      | true =>
       rw [h4] at hend
       refine go1 (jn @l1 (jn @t1 (jn @c1 (jn @k1 (jn @l2 (jn @t2 (jn @c2 (jn @l3 (jn @h3 @h4))))))))) ?_
       refine rcT rfl ?_
       refine go0 ?_
       exact fin _ _ rfl (by rw [hend]; rfl)
      | false =>
       rw [h4] at hend
       have hl60 := of_decide_eq_false h4
       simp only [Bool.not_false, Bool.true_and] at hend
       refine go1 (jn @l1 (jn @t1 (jn @c1 (jn @k1 (jn @l2 (jn @t2 (jn @c2 (jn @l3 (jn @h3 @h4))))))))) ?_
       refine rcF rfl ?_
       refine go0 ?_
       refine cE (fun k e m' => ∃ (i : Nat), i ≤ l.length ∧ ((List.range i).any (aI9 l)) = false ∧ m1 = m' ∧ k = l.length - i ∧ e = [(2, AV.lst gl 2 (iQ l)), (7, .v (.int .i64 (i : Int)))]) (k := l.length) ⟨0, Nat.zero_le _, rfl, rfl, rfl, rfl⟩ ?_
       rintro k e m' ⟨i, hi, hno, rfl, rfl, rfl⟩
       refine go0 ?_
       refine aH rfl (fun hc => ?_) (fun hc => ?_)
       ·have hi1 : i < l.length := by have := of_decide_eq_true hc; omega
        have f1 := bZ0 (g := gl) (kk := .i64) hi1
        have r6 := cP (i := i) (by omega)
        have hb : aI9 l i = (decide (((l.getD i in0).readings.length : Int) > 30) || decide (((l.getD i in0).weights.length : Int) > 30)) := rfl
        have big : aI9 l i = true → tL p s l = false := fun hh => by rw [hend, aA3 hi1 hh]; rfl
        have ok : aI9 l i = false → ((List.range (i + 1)).any (aI9 l)) = false := fun hh => by rw [List.range_succ, List.any_append, hno, List.any_cons, List.any_nil, hh]; rfl
        generalize l.getD i in0 = x at f1 hb
        cases q1 : decide ((x.readings.length : Int) > 30) with
        | true =>
         rw [q1] at hb
         refine go1 (jn @f1 @q1) ?_
         refine rcT rfl ?_
         refine go0 ?_
         exact fin _ _ rfl (by rw [big (by rw [hb]; rfl)])
        | false =>
         rw [q1] at hb
         refine go1 (jn @f1 @q1) ?_
         refine aH rfl (fun hc => ?_) (fun hc => ?_)
         ·refine go0 ?_
          exact fin _ _ rfl (by rw [big (by rw [hb, hc]; rfl)])
         ·refine go1 @r6 ?_
          exact ⟨l.length - (i + 1), by omega, i + 1, hi1, ok (by rw [hb, hc]; rfl), rfl, rfl, rfl⟩
       ·have hi1 : i = l.length := by have := of_decide_eq_false hc; omega
        subst hi1
        refine go0 ?_
        exact fin _ _ rfl (by rw [hend, hno]; rfl)
  ·cases h
 ·cases h
end
end Go.Proofs.YtmockbddhhmmeaaGreat.Ev
