/- Steps that are kept: put, checked. -/
import Derived.Test.YtmockbddhhmmeaaGreatMbgkd11
import Derived.Test.YtmockbddhhmmeaaGreatMa8
import Derived.Test.YtmockbddhhmmeaaGreatMbgkd8
namespace Go.Proofs.YtmockbddhhmmeaaGreat.Ev
open Go Go.Proofs
set_option maxRecDepth 10000
set_option maxHeartbeats 8000000
set_option linter.unusedVariables false
set_option linter.unusedSimpArgs false
noncomputable section
attribute [local irreducible] Next aW cF Ops bQ
attribute [local irreducible] bE dH eZ eC
attribute [local go_sem] cO bP Option.getD_some cJ aT aV iv aCc oD pF aUt cV bGh aKg aWe aH9 bBs bPx aY3 List.cons_append zF aKq aIi
theorem bV6 {cnt : Int} {b : Bool} {g : Grow} {l : List Kt} {x : Kt} (h : aNr l x) (m : Mem) : aV8 [.agg (bM cnt b), .lst g 2 (bR l), .agg x.row] m = some (.tup [.lst .no 2 (bR (xD cnt b l x).1), .agg (xD cnt b l x).2.1.row, .v (.bool (xD cnt b l x).2.2)], m) := by
 unfold bM aBw iv
 simp only [aV8, iP, vE]
 exact if_pos h
open Classical in
def aAd : List AV → Mem → Option (AV × Mem)
 | [.lst _ 2 rows, .agg xs, .v (.int .i64 cnt), .v (.bool b)], m =>
  match xZ rows, aNa xs with
  | some l, some x => if aNr l x then some (.tup [.lst .no 2 (bR (xD (mx cnt 0) b l x).1), .agg (xD (mx cnt 0) b l x).2.1.row, .v (.bool (xD (mx cnt 0) b l x).2.2)], m) else none
  | _, _ => none
 | _, _ => none
theorem bD6 {cnt : Int} {b : Bool} {g : Grow} {l : List Kt} {x : Kt} (h : aNr l x) (m : Mem) : aAd [.lst g 2 (bR l), .agg x.row, .v (.int .i64 cnt), .v (.bool b)] m = some (.tup [.lst .no 2 (bR (xD (mx cnt 0) b l x).1), .agg (xD (mx cnt 0) b l x).2.1.row, .v (.bool (xD (mx cnt 0) b l x).2.2)], m) := by
 simp only [aAd, iP, vE]
 exact if_pos h
def aHf : Nat → Option (List Nat) := fun
 | 0 => some [0, 2, 3, 5, 9]
 | 1 => some [8, 9, 10]
 | _ => none
attribute [go_sem] aHf
def aC4 : List (FuncId × (List AV → Mem → Option (AV × Mem))) := [(108, aLr), (156, aV8)]
theorem bBw : aO Tryz.prog 139 aAd := by
 have hC := aI (P := Tryz.prog) (l := aC4) (aA aZ1 (aA bUw aF))
 have t1 := taT aC4 108 rfl
 have t2 := taT aC4 156 rfl
 refine dJ Tryz.func139 rfl false rfl fun args m r h => ?_
 unfold aAd at h
 split at h
 ·rename_i g rows xs cnt b
  split at h
  ·rename_i l x hl0 hx0
   obtain rfl := kY hl0
   obtain rfl := lO hx0
   split at h
   ·rename_i hd
    simp only [Option.some.injEq] at h
    subst h
    refine ⟨nbT, fun φ wd => ?_⟩
    refine en ?_
    have v5 : ((m.push x.row).push gB).var m.vars.length = some x.row := aQ aJ
    have v9 : ((m.push x.row).push gB).var (m.push x.row).vars.length = some gB := aJ
    have n1 := pF (m := m) (x := x)
    have n2 := aY3 (m := m.push x.row)
    have hA := aG (cs := gB) (aG (cs := x.row) (aM m))
    have hge : m.vars.length ≤ (m.push x.row).vars.length := by rw [cH]; omega
    refine xq ?_
    refine aB (kp := aHf) mixed hC ?_
    refine go1 (jn @n1 @n2) ?_
    refine xq ?_
    generalize (m.push x.row).push gB = m2 at v5 v9 hA
    generalize (m.push x.row).vars.length = r9 at v9 hge
    generalize m.vars.length = r5 at v5
    have l5 := aUe v5
    have c1 := aXp cnt b
    have c2 := fun mm => bV6 (cnt := mx cnt 0) (b := b) (g := .no) hd mm
    have rr : ∀ {n : Int}, List.map eR (bM n b) = bM n b := rfl
    generalize xD (mx cnt 0) b l x = Y at c2
    have st : aR Tryz.prog m2 54 (.ptr r9 0) (.agg Y.2.1.row) = some (bO m2 r9 Y.2.1.row) := aS v9 nO rfl rfl (Nat.le_refl _) rfl rfl
    refine bN (l2 := aHf 1) mixed hC (by kernel_rfl) ?_
    refine eJ (jn @t1 (jn @c1 (jn @t2 (jn @c2 (jn @l5 @st))))) ?_
    refine xq ?_
    exact aX (lB rfl rfl (aUe (bA v9)) rfl rfl (aC (bD hA hge)))
   ·cases h
  ·cases h
 ·cases h
end
noncomputable section
attribute [local irreducible] Next aW cF Ops bQ
attribute [local irreducible] bE dH eZ eC
attribute [local go_sem] cO bP Option.getD_some cJ aT aV iv aN2 aNd aLf rG nU kN aCh aJd aLa aJt aQi zX aGk aQ2 aWp aQ8 aFj aRh aEr aAp aFz sY List.cons_append aCc oD bBs bPx aY3 nO zF yO aBl bRa bQ2 bBo aYu aQa aLo vS aB9 dN aT3
theorem bQk {a c : Bool} {b : Int} : cN Tryz.prog 57 [(0, .v (.bool a)), (1, .v (.int .i64 b)), (2, .v (.bool c))] = some (.agg (Ru.mk a b c).row) := by kernel_rfl
attribute [local go_sem] bQk
theorem TAt.app {m0 m : Mem} {r : Nat} {T0 T : Tn} {g0 g : Grow} {f : Tn → Tn} (h : TAt m0 r T0 g0 T g m) (hf : ∃ l, (f T).events = T.events ++ l) : TAt m0 r T0 g0 (f T) (fI ((f T).events.length - T.events.length) g m.toks).1 (putT m r (f T) ((f T).events.length - T.events.length) g) := by
 obtain ⟨l, hl⟩ := hf
 exact h.put (l := l) hl (by rw [hl, List.length_append]; omega)
/-! ### missing -/
theorem bUq {a b c : Int} : bG Tryz.prog 42 3 [(0, .v (.int .i64 a)), (1, .v (.int .i64 b)), (2, .v (.int .i64 c))] = some (.lst .full 1 (cG [a, b, c])) := by kernel_rfl
attribute [local go_sem] bUq
def rR (p : Pn) (v : Int) : Bool := [p.keepAt, p.cutAt, p.stopAt].any (vO v)
def lU (T : Tn) (i : Nat) : List Evt := (((jN T.x.readings).take i).filter (rR T.p)).map fun v => ⟨T.step, 6, v⟩
def Tn.miss (T : Tn) : Tn := T.addE (lU T (jN T.x.readings).length)
def aTv (T : Tn) : Prop := T.x.readings.length ≤ 1000 ∧ T.events.length ≤ 10000
def aTo : List AV → Mem → Option (AV × Mem)
 | [.ptr r 0], m => tA r m aTv Tn.miss fun _ => .tup []
 | _, _ => none
theorem bP2 {m0 m : Mem} {r : Nat} {T0 T : Tn} {g0 g : Grow} (h : TAt m0 r T0 g0 T g m) (hd : aTv T) : aTo [.ptr r 0] m = some (.tup [], putT m r T.miss (T.miss.events.length - T.events.length) g) :=
 kF (dom := aTv) (f := Tn.miss) (res := fun _ => .tup []) h hd
theorem bV8 (T : Tn) : ∃ l, T.miss.events = T.events ++ l := ⟨_, rfl⟩
theorem aVu {T : Tn} {i : Nat} (hi : i < (jN T.x.readings).length) : lU T (i + 1) = lU T i ++ if rR T.p ((jN T.x.readings).getD i 0) = true then [⟨T.step, 6, (jN T.x.readings).getD i 0⟩] else [] := by
 unfold lU
 have e : (jN T.x.readings)[i] = (jN T.x.readings).getD i 0 := by simp [List.getD, List.getElem?_eq_getElem hi]
 rw [List.take_add_one, List.getElem?_eq_getElem hi, List.filter_append, List.map_append, e]
 generalize (jN T.x.readings).getD i 0 = v
 split
 ·rename_i h; simp [h]
 ·rename_i h; simp [h]
theorem aC6 (T : Tn) (i : Nat) : (lU T i).length ≤ i := by
 unfold lU
 rw [List.length_map]
 exact Nat.le_trans (List.length_filter_le _ _) (by rw [List.length_take]; omega)
def aVm : Nat → Option (List Nat) := fun
 | 0 => some [0, 2]
 | 1 => some [0, 2, 25, 26, 27]
 | 2 => some [0, 2, 25, 26, 27, 28]
 | 3 => some [0, 2, 4, 25, 26, 27]
 | 4 => some [0, 2, 4, 25, 26, 27, 33]
 | 5 => some [0, 2, 25, 26, 27]
 | 6 => some [0, 2, 25, 26, 27]
 | _ => none
attribute [go_sem] aVm
def pN : List (FuncId × (List AV → Mem → Option (AV × Mem))) := [(102, yL), (137, bAd), (138, aWv)]
theorem bNg : aO Tryz.prog 119 aTo := by
 have hC := aI (P := Tryz.prog) (l := pN) (aA xO (aA bVn (aA bS7 aF)))
 have t1 := taT pN 102 rfl
 have t2 := taT pN 137 rfl
 have t3 := taT pN 138 rfl
 refine aP mixed hC Tryz.func119 rfl aVm false rfl fun args m r h => ?_
 unfold aTo at h
 split at h
 ·rename_i r0
  obtain ⟨T, g, hT, ⟨hd1, hd2⟩, rfl⟩ := gM h
  refine ⟨nbT, ?_⟩
  refine en ?_
  have l1 := aJ5 hT.hv
  have l2 := aOi hT.hv
  have l3 := aI0 hT.hv
  have l4 := bE6 hT.hv
  have c1 := bU3 (x := T.x) (by omega)
  repeat refine dI ?_
  refine cU (kp := aVm) (by kernel_rfl) (by kernel_rfl) ?_
  have hlen : (jN T.x.readings).length ≤ 1000 := Nat.le_trans (rK T.x.readings _) hd1
  have hE : ∀ {i}, i < (jN T.x.readings).length → lU T (i + 1) = lU T i ++ if rR T.p ((jN T.x.readings).getD i 0) = true then [⟨T.step, 6, (jN T.x.readings).getD i 0⟩] else [] := fun {i} hi => aVu hi
  have hend : T.miss = T.addE (lU T (jN T.x.readings).length) := rfl
  have cw := fun v m => bUr (g := .full) (l := [T.p.keepAt, T.p.cutAt, T.p.stopAt]) (by simp) v m
  have hw : ∀ v, [T.p.keepAt, T.p.cutAt, T.p.stopAt].any (vO v) = rR T.p v := fun v => rfl
  simp only [hw] at cw
  generalize jN T.x.readings = L at hlen hE hend c1
  refine go1 (jn @l1 (jn @l2 (jn @l3 (jn @l4 (jn @t2 @c1))))) ?_
  refine cE (fun k e m' => ∃ (i : Nat) (gi : Grow), i ≤ L.length ∧ TAt m r0 T g (T.addE (lU T i)) gi m' ∧ k = L.length - i ∧
   e = [(0, AV.ptr r0 0), (2, .lst .full 1 (cG [T.p.keepAt, T.p.cutAt, T.p.stopAt])), (25, .lst .no 1 (cG L)), (26, .v (.int .i64 L.length)), (27, .v (.int .i64 (i : Int)))]) (k := L.length)
   ⟨0, g, Nat.zero_le _, by rw [show lU T 0 = [] from rfl, uD]; exact hT, rfl, rfl⟩ ?_
  rintro k e m' ⟨i, gi, hi, hTi, rfl, rfl⟩
  refine go0 ?_
  refine aH rfl (fun hc => ?_) (fun hc => ?_)
  ·have hi1 : i < L.length := by have := of_decide_eq_true hc; omega
   have f1 := aC5 (g := .no) (kk := .i64) hi1
   have r6 := cP (i := i) (by omega)
   have hS := hE hi1
   have hl6 := aC6 T i
   generalize L.getD i 0 = v at f1 hS
   have cv := cw v m'
   refine go1 (jn @f1 (jn @t3 @cv)) ?_
   cases hb : rR T.p v with
   | false =>
    rw [hb, if_neg (by decide), List.append_nil] at hS
    refine aH rfl (fun hc => by have hc2 : rR T.p v = true := hc; rw [hb] at hc2; cases hc2) (fun hc => ?_)
    refine go1 @r6 ?_
    exact ⟨L.length - (i + 1), by omega, i + 1, gi, hi1, by rw [hS]; exact hTi, rfl, rfl⟩
   | true =>
    rw [hb, if_pos rfl] at hS
    have hev : (T.addE (lU T i)).events.length < mY := by
     unfold Tn.addE mY
     simp only [List.length_append]
     omega
    have ct := oJ hTi hev 6 v
    have hT2 := hTi.tell 6 v
    rw [uI, ← hS] at ct hT2
    refine aH rfl (fun hc => ?_) (fun hc => by have hc2 : rR T.p v = false := hc; rw [hb] at hc2; cases hc2)
    refine go1 (jn @t1 (jn @ct @r6)) ?_
    exact ⟨L.length - (i + 1), by omega, i + 1, _, hi1, hT2, rfl, rfl⟩
  ·have hi1 : i = L.length := by have := of_decide_eq_false hc; omega
   subst hi1
   refine go0 ?_
   exact dK (f := Tn.miss) rfl (by rw [hend]; exact hTi)
 ·cases h
/-! ### keeps -/
def Tn.setKept (T : Tn) (l : List Kt) : Tn := { T with s := { T.s with kept := l } }
def aTn (T : Tn) (x : Int) : List Kt × Kt × Bool := xD (mx T.p.keep.Count 0) T.p.keep.Max T.s.kept ⟨T.step, x⟩
def Tn.keepsY (T : Tn) (Y : List Kt × Kt × Bool) : Tn :=
 if (Y.2.2 && (Y.2.1.step == T.step)) = true then T.setKept Y.1 else if Y.2.2 = true then ((T.setKept Y.1).tell 7 T.step).tell 8 Y.2.1.step else (T.setKept Y.1).tell 7 T.step
def Tn.keeps (T : Tn) (x : Int) : Tn := T.keepsY (aTn T x)
def aL2 (T : Tn) (x : Int) : Prop := aNr T.s.kept ⟨T.step, x⟩ ∧ T.events.length ≤ 20000
def aUy : List AV → Mem → Option (AV × Mem)
 | [.ptr r 0, .v (.int .i64 x)], m => tA r m (fun T => aL2 T x) (fun T => T.keeps x) fun _ => .tup []
 | _, _ => none
theorem bM9 {m0 m : Mem} {r : Nat} {T0 T : Tn} {g0 g : Grow} {x : Int} (h : TAt m0 r T0 g0 T g m) (hd : aL2 T x) : aUy [.ptr r 0, .v (.int .i64 x)] m = some (.tup [], putT m r (T.keeps x) ((T.keeps x).events.length - T.events.length) g) :=
 kF (dom := fun T => aL2 T x) (f := fun T => T.keeps x) (res := fun _ => .tup []) h hd
theorem aZ9 (T : Tn) (x : Int) : ∃ l, (T.keeps x).events = T.events ++ l ∧ l.length ≤ 2 := by
 unfold Tn.keeps Tn.keepsY
 split
 ·exact ⟨[], (List.append_nil _).symm, Nat.zero_le _⟩
 ·split
  ·exact ⟨[⟨T.step, 7, T.step⟩, ⟨T.step, 8, (aTn T x).2.1.step⟩], by unfold Tn.tell Tn.setKept; simp, Nat.le_refl _⟩
  ·exact ⟨[⟨T.step, 7, T.step⟩], rfl, by simp⟩
theorem bW8 {a b : Int} : cN Tryz.prog 54 [(0, .v (.int .i64 a)), (1, .v (.int .i64 b))] = some (.agg (Kt.mk a b).row) := by kernel_rfl
attribute [local go_sem] bW8
theorem cB4 : cA Tryz.prog 41 = some 1 := by kernel_rfl
def oI : Nat → Option (List Nat) := fun
 | 0 => some [0, 4, 5, 6]
 | 1 => some [0, 5, 6]
 | 2 => some [0, 5, 6, 49]
 | 3 => some [0, 5, 6]
 | 4 => some [0, 5, 56]
 | 5 => some []
 | _ => none
attribute [go_sem] oI
def aLg : List (FuncId × (List AV → Mem → Option (AV × Mem))) := [(102, yL), (139, aAd)]
theorem bRb : aO Tryz.prog 121 aUy := by
 have hC := aI (P := Tryz.prog) (l := aLg) (aA xO (aA bBw aF))
 have t1 := taT aLg 102 rfl
 have t2 := taT aLg 139 rfl
 refine dJ Tryz.func121 rfl false rfl fun args m r h => ?_
 unfold aUy at h
 split at h
 ·rename_i r0 x
  obtain ⟨T, g, hT, ⟨hd1, hd2⟩, rfl⟩ := gM h
  refine ⟨nbT, fun φ wd => ?_⟩
  refine en ?_
  have l1 := bKx hT.hv
  have l2 := oS hT.hv
  have l3 := aMt hT.hv
  have l4 := aVe hT.hv
  have c2 := bD6 (cnt := T.p.keep.Count) (b := T.p.keep.Max) (g := .no) hd1
  have hk : T.keeps x = T.keepsY (aTn T x) := rfl
  rw [show xD (mx T.p.keep.Count 0) T.p.keep.Max T.s.kept ⟨T.step, x⟩ = aTn T x from rfl] at c2
  generalize aTn T x = Y at c2 hk
  obtain ⟨L, G, B⟩ := Y
  have v5 : (m.push G.row).var m.vars.length = some G.row := aJ
  have hT5 := hT.push (cs := G.row)
  refine xq ?_
  refine bN (l2 := oI 0) mixed hC (by kernel_rfl) ?_
  refine eJ (jn @l1 (jn @l2 (jn @l3 (jn @l4 (jn @t2 @c2))))) ?_
  refine xq ?_
  have hr5 : m.vars.length ≠ r0 := by have := hT.lt; omega
  generalize m.push G.row = m5 at v5 hT5
  generalize m.vars.length = r5 at v5 hr5
  have st1 : aR Tryz.prog m5 41 (.ptr r0 44) (.lst .no 2 (bR L)) = some (bO m5 r0 ((T.setKept L).rowG g)) := aS hT5.hv cB4 rfl rfl nbT rfl rfl
  have hT6 := hT5.set (T2 := T.setKept L) rfl
  have v6 : (bO m5 r0 ((T.setKept L).rowG g)).var r5 = some G.row := cD v5 hr5
  refine aB (kp := oI) mixed hC ?_
  refine go1 @st1 ?_
  refine xq ?_
  generalize bO m5 r0 ((T.setKept L).rowG g) = m6 at hT6 v6
  have l5 := aF8 v6
  have l6 := oS hT6.hv
  have l6' : aL Tryz.prog m6 3 (.ptr r0 50) = some (.v (.int .i64 T.step)) := l6
  have hev : (T.setKept L).events.length < mY := by
   show T.events.length < 1000000
   omega
  have c7 := oJ hT6 hev 7 T.step
  have hT7 := hT6.tell 7 T.step
  unfold Tn.keepsY at hk
  dsimp only at hk
  cases B with
  | false =>
   rw [Bool.false_and, if_neg (by decide), if_neg (by decide)] at hk
   refine bN (l2 := oI 2) mixed hC (by kernel_rfl) ?_
   refine cC8 ?_
   refine xq ?_
   refine xcF rfl ?_
   refine xq ?_
   refine aB (kp := oI) mixed hC ?_
   refine go1 (jn @l6' (jn @t1 @c7)) ?_
   refine xq ?_
   refine aB (kp := oI) mixed hC ?_
   refine go0 ?_
   refine xq ?_
   refine xcF rfl ?_
   refine xq ?_
   exact dK (f := fun T => T.keeps x) rfl (by rw [hk]; exact hT7)
  | true =>
   rw [Bool.true_and] at hk
   refine bN (l2 := oI 2) mixed hC (by kernel_rfl) ?_
   refine eJ (jn @l5 @l6') ?_
   refine xq ?_
   refine cK rfl (fun hc => ?_) (fun hc => ?_)
   ·rw [if_pos hc] at hk
    refine xq ?_
    exact oU (f := fun T => T.keeps x) rfl (by rw [hk]; exact hT6)
   ·rw [if_neg (by rw [hc]; decide), if_pos rfl] at hk
    refine xq ?_
    refine aB (kp := oI) mixed hC ?_
    refine go1 (jn @l6' (jn @t1 @c7)) ?_
    refine xq ?_
    have v7 : (putT m6 r0 ((T.setKept L).tell 7 T.step) 1 g).var r5 = some G.row := by rw [qR hr5]; exact v6
    generalize putT m6 r0 ((T.setKept L).tell 7 T.step) 1 g = m7 at hT7 v7
    generalize (fI 1 g m6.toks).1 = g7 at hT7
    have l7 := aF8 v7
    have hev8 : ((T.setKept L).tell 7 T.step).events.length < mY := by
     unfold Tn.tell Tn.setKept mY
     simp only [List.length_append, List.length_cons, List.length_nil]
     omega
    have c8 := oJ hT7 hev8 8 G.step
    have hT8 := hT7.tell 8 G.step
    refine aB (kp := oI) mixed hC ?_
    refine go0 ?_
    refine xq ?_
    refine xcT rfl ?_
    refine xq ?_
    refine aB (kp := oI) mixed hC ?_
    refine go1 (jn @l7 (jn @t1 @c8)) ?_
    refine xq ?_
    exact dK (f := fun T => T.keeps x) rfl (by rw [hk]; exact hT8)
 ·cases h
end
noncomputable section
attribute [local irreducible] Next aW cF Ops bQ
attribute [local irreducible] bE dH eZ eC
attribute [local go_sem] cO bP Option.getD_some cJ aT aV iv aN2 aNd aLf rG nU kN aCh aJd aLa aJt aQi zX aGk aQ2 aWp aQ8 aFj aRh aEr aAp aFz sY List.cons_append yO aBl bRa bQ2 bBo aYu aQa aLo vS bQk aB9
/-! ### cuts -/
def Tn.setCut (T : Tn) (c : Ct) : Tn := { T with s := { T.s with cut := c } }
def Tn.cutsY (T : Tn) (Y : Ct × Bool) : Tn := if Y.2 = true then (T.setCut Y.1).tell 9 0 else T.setCut Y.1
def Tn.cuts (T : Tn) (x : Int) : Tn := T.cutsY (aIh T.s.cut x T.p.plateau)
def aT6 (T : Tn) (x : Int) : Prop := aNq T.s.cut x T.p.plateau ∧ T.events.length ≤ 30000
def bF5 : List AV → Mem → Option (AV × Mem)
 | [.ptr r 0, .v (.int .i64 x)], m => tA r m (fun T => aT6 T x) (fun T => T.cuts x) fun _ => .tup []
 | _, _ => none
theorem bTv {m0 m : Mem} {r : Nat} {T0 T : Tn} {g0 g : Grow} {x : Int} (h : TAt m0 r T0 g0 T g m) (hd : aT6 T x) : bF5 [.ptr r 0, .v (.int .i64 x)] m = some (.tup [], putT m r (T.cuts x) ((T.cuts x).events.length - T.events.length) g) :=
 kF (dom := fun T => aT6 T x) (f := fun T => T.cuts x) (res := fun _ => .tup []) h hd
theorem bFw (T : Tn) (x : Int) : ∃ l, (T.cuts x).events = T.events ++ l ∧ l.length ≤ 1 := by
 unfold Tn.cuts Tn.cutsY
 split
 ·exact ⟨[⟨T.step, 9, 0⟩], rfl, Nat.le_refl _⟩
 ·exact ⟨[], (List.append_nil _).symm, Nat.zero_le _⟩
def aL5 : Nat → Option (List Nat) := fun
 | 0 => some [0, 4, 5]
 | 1 => some [0, 5]
 | 2 => some [0, 26]
 | 3 => some []
 | _ => none
attribute [go_sem] aL5
def aVf : List (FuncId × (List AV → Mem → Option (AV × Mem))) := [(102, yL), (140, bRv)]
theorem bV3 : aO Tryz.prog 122 bF5 := by
 have hC := aI (P := Tryz.prog) (l := aVf) (aA xO (aA bYt aF))
 have t1 := taT aVf 102 rfl
 have t2 := taT aVf 140 rfl
 refine dJ Tryz.func122 rfl false rfl fun args m r h => ?_
 unfold bF5 at h
 split at h
 ·rename_i r0 x
  obtain ⟨T, g, hT, ⟨hd1, hd2⟩, rfl⟩ := gM h
  refine ⟨nbT, fun φ wd => ?_⟩
  refine en ?_
  have l1 := bN2 hT.hv
  have l2 := aUi hT.hv
  have c2 := bZ2 hd1
  have hk : T.cuts x = T.cutsY (aIh T.s.cut x T.p.plateau) := rfl
  generalize aIh T.s.cut x T.p.plateau = Y at c2 hk
  obtain ⟨C, B⟩ := Y
  have v4 : (m.push C.row).var m.vars.length = some C.row := aJ
  have hT4 := hT.push (cs := C.row)
  refine xq ?_
  refine bN (l2 := aL5 0) mixed hC (by kernel_rfl) ?_
  refine eJ (jn @l1 (jn @l2 (jn @t2 @c2))) ?_
  refine xq ?_
  have hr4 : m.vars.length ≠ r0 := by have := hT.lt; omega
  generalize m.push C.row = m4 at v4 hT4
  generalize m.vars.length = r4 at v4 hr4
  have l4 := aZn v4
  have st1 : aR Tryz.prog m4 40 (.ptr r0 39) (.agg C.row) = some (bO m4 r0 ((T.setCut C).rowG g)) := aS hT4.hv aYu rfl rfl nbT rfl rfl
  have hT6 := hT4.set (T2 := T.setCut C) rfl
  refine aB (kp := aL5) mixed hC ?_
  refine go1 (jn @l4 @st1) ?_
  refine xq ?_
  generalize bO m4 r0 ((T.setCut C).rowG g) = m6 at hT6
  have hev : (T.setCut C).events.length < mY := by
   show T.events.length < 1000000
   omega
  have c7 := oJ hT6 hev 9 0
  have hT7 := hT6.tell 9 0
  unfold Tn.cutsY at hk
  dsimp only at hk
  refine aB (kp := aL5) mixed hC ?_
  refine go0 ?_
  refine xq ?_
  cases B with
  | false =>
   rw [if_neg (by decide)] at hk
   refine xcF rfl ?_
   refine xq ?_
   exact dK (f := fun T => T.cuts x) rfl (by rw [hk]; exact hT6)
  | true =>
   rw [if_pos rfl] at hk
   refine xcT rfl ?_
   refine xq ?_
   refine aB (kp := aL5) mixed hC ?_
   refine go1 (jn @t1 @c7) ?_
   refine xq ?_
   exact dK (f := fun T => T.cuts x) rfl (by rw [hk]; exact hT7)
 ·cases h
/-! ### stops -/
def Tn.setStop (T : Tn) (w : Wt) : Tn := { T with s := { T.s with stop := w } }
def Tn.rule (T : Tn) : Ru := ⟨T.p.stop.Max, T.p.stop.Delta, T.p.stop.Rel⟩
def Tn.stopsY (T : Tn) (w : Wt) : Tn := if aF4 w T.p.stop.Patience = true then ((T.setStop w).tell 10 0).stat 2 else T.setStop w
def Tn.stops (T : Tn) (x : Int) : Tn := T.stopsY (fX T.s.stop x T.rule)
def aLu (T : Tn) (x : Int) : Prop := aBm T.s.stop x T.rule ∧ T.events.length ≤ 40000
def aVp : List AV → Mem → Option (AV × Mem)
 | [.ptr r 0, .v (.int .i64 x)], m => tA r m (fun T => aLu T x) (fun T => T.stops x) fun _ => .tup []
 | _, _ => none
theorem bSi {m0 m : Mem} {r : Nat} {T0 T : Tn} {g0 g : Grow} {x : Int} (h : TAt m0 r T0 g0 T g m) (hd : aLu T x) : aVp [.ptr r 0, .v (.int .i64 x)] m = some (.tup [], putT m r (T.stops x) ((T.stops x).events.length - T.events.length) g) :=
 kF (dom := fun T => aLu T x) (f := fun T => T.stops x) (res := fun _ => .tup []) h hd
theorem aZ3 (T : Tn) (x : Int) : ∃ l, (T.stops x).events = T.events ++ l ∧ l.length ≤ 1 := by
 unfold Tn.stops Tn.stopsY
 split
 ·exact ⟨[⟨T.step, 10, 0⟩], rfl, Nat.le_refl _⟩
 ·exact ⟨[], (List.append_nil _).symm, Nat.zero_le _⟩
def aGv : Nat → Option (List Nat) := fun
 | 0 => some [0]
 | 1 => some [0, 45]
 | 2 => some [0]
 | 3 => some []
 | _ => none
attribute [go_sem] aGv
def aAf : List (FuncId × (List AV → Mem → Option (AV × Mem))) := [(102, yL), (100, bRg), (141, aRj), (81, bCl)]
theorem bOe : aO Tryz.prog 123 aVp := by
 have hC := aI (P := Tryz.prog) (l := aAf) (aA xO (aA bPt (aA aWw (aA bEd aF))))
 have t1 := taT aAf 102 rfl
 have t2 := taT aAf 100 rfl
 have t3 := taT aAf 141 rfl
 have t4 := taT aAf 81 rfl
 refine dJ Tryz.func123 rfl false rfl fun args m r h => ?_
 unfold aVp at h
 split at h
 ·rename_i r0 x
  obtain ⟨T, g, hT, ⟨hd1, hd2⟩, rfl⟩ := gM h
  refine ⟨nbT, fun φ wd => ?_⟩
  refine en ?_
  have l1 := aQl hT.hv
  have l2 := aTg hT.hv
  have l3 := aLw hT.hv
  have l4 := aTk hT.hv
  have c2 := bHg hd1
  unfold Tn.rule at c2
  have hk : T.stops x = T.stopsY (fX T.s.stop x ⟨T.p.stop.Max, T.p.stop.Delta, T.p.stop.Rel⟩) := rfl
  generalize fX T.s.stop x ⟨T.p.stop.Max, T.p.stop.Delta, T.p.stop.Rel⟩ = W at c2 hk
  have st1 : aR Tryz.prog m 38 (.ptr r0 36) (.agg W.row) = some (bO m r0 ((T.setStop W).rowG g)) := aS hT.hv bQm rfl rfl nbT rfl rfl
  have hT6 := hT.set (T2 := T.setStop W) rfl
  refine xq ?_
  refine bN (l2 := aGv 0) mixed hC (by kernel_rfl) ?_
  refine eJ (jn @l1 (jn @l2 (jn @l3 (jn @l4 (jn @t3 (jn @c2 @st1)))))) ?_
  refine xq ?_
  rw [show m.putv r0 ((T.setStop W).rowG g) = bO m r0 ((T.setStop W).rowG g) from rfl]
  generalize bO m r0 ((T.setStop W).rowG g) = m6 at hT6 ⊢
  have l5 := aQl hT6.hv
  have l5' : aL Tryz.prog m6 38 (.ptr r0 36) = some (.agg W.row) := l5
  have l6 : aL Tryz.prog m6 3 (.ptr r0 11) = some (.v (.int .i64 T.p.stop.Patience)) := aGg (x := T.setStop W) hT6.hv
  have c4 := bCr W T.p.stop.Patience
  unfold Tn.stopsY at hk
  have hev : (T.setStop W).events.length < mY := by
   show T.events.length < 1000000
   omega
  have c7 := oJ hT6 hev 10 0
  have hT7 := hT6.tell 10 0
  have c8 := bA6 hT7 2
  have hT8 := hT7.stat 2
  refine bN (l2 := aGv 1) mixed hC (by kernel_rfl) ?_
  refine eJ (jn @l5' (jn @l6 (jn @t4 @c4))) ?_
  refine xq ?_
  refine cK rfl (fun hc => ?_) (fun hc => ?_)
  ·rw [if_pos hc] at hk
   refine xq ?_
   refine aB (kp := aGv) mixed hC ?_
   refine go1 (jn @t1 @c7) ?_
   refine xq ?_
   refine aB (kp := aGv) mixed hC ?_
   refine go1 (jn @t2 @c8) ?_
   refine xq ?_
   exact dK (f := fun T => T.stops x) rfl (by rw [hk]; exact hT8)
  ·rw [if_neg (by rw [hc]; decide)] at hk
   refine xq ?_
   exact dK (f := fun T => T.stops x) rfl (by rw [hk]; exact hT6)
 ·cases h
/-! ### look -/
def rdP (T : Tn) (a : Int) : Int × Bool := nA T.x a
def Tn.look1 (T : Tn) : Tn := if (rdP T T.p.keepAt).2 = true then T.keeps (rdP T T.p.keepAt).1 else T
def Tn.look2 (T : Tn) : Tn := if (rdP T T.p.cutAt).2 = true then T.cuts (rdP T T.p.cutAt).1 else T
def Tn.look3 (T : Tn) : Tn := if (rdP T T.p.stopAt).2 = true then T.stops (rdP T T.p.stopAt).1 else T
def Tn.look (T : Tn) : Tn := T.miss.look1.look2.look3
theorem aW7 (T : Tn) : ∃ l, T.look1.events = T.events ++ l ∧ l.length ≤ 2 := by
 unfold Tn.look1
 split
 ·exact aZ9 T _
 ·exact ⟨[], (List.append_nil _).symm, Nat.zero_le _⟩
theorem aZz (T : Tn) : ∃ l, T.look2.events = T.events ++ l ∧ l.length ≤ 1 := by
 unfold Tn.look2
 split
 ·exact bFw T _
 ·exact ⟨[], (List.append_nil _).symm, Nat.zero_le _⟩
theorem bRz (T : Tn) : ∃ l, T.look3.events = T.events ++ l ∧ l.length ≤ 1 := by
 unfold Tn.look3
 split
 ·exact aZ3 T _
 ·exact ⟨[], (List.append_nil _).symm, Nat.zero_le _⟩
theorem aUp (T : Tn) : ∃ l, T.look.events = T.events ++ l ∧ l.length ≤ (jN T.x.readings).length + 4 := by
 obtain ⟨l3, e3, n3⟩ := bRz T.miss.look1.look2
 obtain ⟨l2, e2, n2⟩ := aZz T.miss.look1
 obtain ⟨l1, e1, n1⟩ := aW7 T.miss
 refine ⟨lU T (jN T.x.readings).length ++ (l1 ++ (l2 ++ l3)), ?_, ?_⟩
 ·unfold Tn.look
  rw [e3, e2, e1]
  show ((T.events ++ _) ++ _) ++ _ ++ _ = _
  simp
 ·have := aC6 T (jN T.x.readings).length
  simp only [List.length_append]
  omega
/-- What a turn must be like to look. -/
def aUh (T : Tn) : Prop := (T.x.readings.length ≤ 1000 ∧ T.events.length ≤ 10000) ∧ (T.s.kept.length ≤ 1000000 ∧ ∀ y ∈ T.s.kept, inI y.val) ∧ (inI T.s.cut.watch.best ∧ inI T.p.plateau.Delta ∧ inI T.s.cut.rest ∧ inI T.s.cut.scale ∧ inI T.p.plateau.Factor) ∧ (inI T.s.stop.best ∧ inI T.p.stop.Delta) ∧ ∀ y ∈ T.x.readings, inI y.val
def bGf : List AV → Mem → Option (AV × Mem)
 | [.ptr r 0], m => tA r m aUh Tn.look fun _ => .tup []
 | _, _ => none
theorem bU1 {m0 m : Mem} {r : Nat} {T0 T : Tn} {g0 g : Grow} (h : TAt m0 r T0 g0 T g m) (hd : aUh T) : bGf [.ptr r 0] m = some (.tup [], putT m r T.look (T.look.events.length - T.events.length) g) :=
 kF (dom := aUh) (f := Tn.look) (res := fun _ => .tup []) h hd
theorem bDt (T : Tn) (x : Int) : (T.keeps x).x = T.x ∧ (T.keeps x).p = T.p ∧ (T.keeps x).s.cut = T.s.cut ∧ (T.keeps x).s.stop = T.s.stop := by
 unfold Tn.keeps Tn.keepsY
 split
 ·exact ⟨rfl, rfl, rfl, rfl⟩
 ·split
  ·exact ⟨rfl, rfl, rfl, rfl⟩
  ·exact ⟨rfl, rfl, rfl, rfl⟩
theorem bHr (T : Tn) (x : Int) : (T.cuts x).x = T.x ∧ (T.cuts x).p = T.p ∧ (T.cuts x).s.stop = T.s.stop := by
 unfold Tn.cuts Tn.cutsY
 split <;> exact ⟨rfl, rfl, rfl⟩
theorem aMf (T : Tn) : T.look1.x = T.x ∧ T.look1.p = T.p ∧ T.look1.s.cut = T.s.cut ∧ T.look1.s.stop = T.s.stop := by
 unfold Tn.look1
 split
 ·exact bDt T _
 ·exact ⟨rfl, rfl, rfl, rfl⟩
theorem aMp (T : Tn) : T.look2.x = T.x ∧ T.look2.p = T.p ∧ T.look2.s.stop = T.s.stop := by
 unfold Tn.look2
 split
 ·exact bHr T _
 ·exact ⟨rfl, rfl, rfl⟩
theorem aRf {T : Tn} {a : Int} (h : ∀ y ∈ T.x.readings, inI y.val) (hb : (rdP T a).2 = true) : inI (rdP T a).1 := by
 unfold rdP nA at hb ⊢
 split at hb
 ·cases hb
 ·rename_i h1
  rw [if_neg h1]
  split at hb
  ·rename_i h2
   rw [if_pos h2]
   exact h _ (jI (by omega))
  ·cases hb
def qZ : Nat → Option (List Nat) := fun
 | 0 => some [0]
 | 1 => some [0, 2, 3]
 | 2 => some [0, 2, 23]
 | 3 => some [0]
 | 4 => some [0, 4, 5]
 | 5 => some [0, 4, 40]
 | 6 => some [0]
 | 7 => some [0, 6, 7]
 | 8 => some [0, 6, 57]
 | 9 => some []
 | _ => none
attribute [go_sem] qZ
def aBv : List (FuncId × (List AV → Mem → Option (AV × Mem))) := [(119, aTo), (120, aW6), (121, aUy), (122, bF5), (123, aVp)]
theorem bUk : aO Tryz.prog 101 bGf := by
 have hC := aI (P := Tryz.prog) (l := aBv) (aA bNg (aA bUc (aA bRb (aA bV3 (aA bOe aF)))))
 have t1 := taT aBv 119 rfl
 have t2 := taT aBv 120 rfl
 have t3 := taT aBv 121 rfl
 have t4 := taT aBv 122 rfl
 have t5 := taT aBv 123 rfl
 refine dJ Tryz.func101 rfl false rfl fun args m r h => ?_
 unfold bGf at h
 split at h
 ·rename_i r0
  obtain ⟨T, g, hT, ⟨hd1, ⟨hk1, hk2⟩, ⟨hc1, hc2, hc3, hc4, hc5⟩, ⟨hs1, hs2⟩, hr⟩, rfl⟩ := gM h
  refine ⟨nbT, fun φ wd => ?_⟩
  refine en ?_
  have hend : T.look = T.miss.look1.look2.look3 := rfl
  have c1 := bP2 hT hd1
  have hT1 := hT.app (f := Tn.miss) (bV8 T)
  have hl1 : T.miss.events.length ≤ 11000 := by
   have := aC6 T (jN T.x.readings).length
   have h2 := rK T.x.readings T.x.readings.length
   show (T.events ++ lU T (jN T.x.readings).length).length ≤ _
   rw [List.length_append]
   unfold jN at this ⊢
   omega
  have e1 : T.miss.x = T.x ∧ T.miss.p = T.p ∧ T.miss.s = T.s ∧ T.miss.step = T.step := ⟨rfl, rfl, rfl, rfl⟩
  refine xq ?_
  refine aB (kp := qZ) mixed hC ?_
  refine go1 (jn @t1 @c1) ?_
  refine xq ?_
  generalize putT m r0 T.miss (T.miss.events.length - T.events.length) g = m1 at hT1
  generalize (fI (T.miss.events.length - T.events.length) g m.toks).1 = g1 at hT1
  generalize T.miss = T1 at hT1 hl1 e1 hend
  obtain ⟨e1x, e1p, e1s, e1t⟩ := e1
  -- keeps
  have a1 := bE6 hT1.hv
  have a2 := aJ5 hT1.hv
  have b1 := aUm (x := T1.x) (by rw [e1x]; omega) T1.p.keepAt
  rw [show nA T1.x T1.p.keepAt = rdP T1 T1.p.keepAt from rfl] at b1
  refine bN (l2 := qZ 1) mixed hC (by kernel_rfl) ?_
  refine eJ (jn @a1 (jn @a2 (jn @t2 @b1))) ?_
  refine xq ?_
  refine aB (kp := qZ) mixed hC ?_
  refine go0 ?_
  refine xq ?_
  refine aH6 (fun e m' F => ∃ g2, TAt m r0 T g T1.look1 g2 m' ∧ Ev.get e 0 = AV.ptr r0 0 ∧ F = []) ?_ ?_
  ·cases hb : (rdP T1 T1.p.keepAt).2 with
   | false =>
    refine cK rfl (fun hc => by first | (cases hc; done) | (rw [hb] at hc; cases hc)) (fun hc => ?_)
    refine xq ?_
    exact ⟨g1, by unfold Tn.look1; rw [if_neg (by rw [hb]; decide)]; exact hT1, rfl, rfl⟩
   | true =>
    have hin := aRf (T := T1) (by rw [e1x]; exact hr) hb
    have ck := bM9 (x := (rdP T1 T1.p.keepAt).1) hT1 ⟨⟨by rw [e1s]; exact hk1, hin, by rw [e1s]; exact hk2⟩, by omega⟩
    have hT2 := hT1.app (f := fun T => T.keeps (rdP T1 T1.p.keepAt).1) (by obtain ⟨l, hl, _⟩ := aZ9 T1 (rdP T1 T1.p.keepAt).1; exact ⟨l, hl⟩)
    refine cK rfl (fun hc => ?_) (fun hc => by first | (cases hc; done) | (rw [hb] at hc; cases hc))
    refine xq ?_
    refine aB (kp := qZ) mixed hC ?_
    refine go1 (jn @t3 @ck) ?_
    refine xq ?_
    exact ⟨_, by rw [show T1.look1 = T1.keeps (rdP T1 T1.p.keepAt).1 by unfold Tn.look1; rw [if_pos hb]]; exact hT2, rfl, rfl⟩
  rintro e m2 F ⟨g2, hT2, he, rfl⟩
  refine aD3 (some [0]) ?_
  rw [show Ev.restr (some [0]) e = [(0, AV.ptr r0 0)] by simp only [Ev.restr, List.map_cons, List.map_nil, he]]
  obtain ⟨l2, hl2, n2⟩ := aW7 T1
  have hl2' : T1.look1.events.length ≤ 11002 := by rw [hl2, List.length_append]; omega
  obtain ⟨e2x, e2p, e2c, e2s⟩ := aMf T1
  rw [e1x] at e2x
  rw [e1p] at e2p
  rw [e1s] at e2c e2s
  clear a1 a2 b1 hT1 c1 he hl2
  generalize T1.look1 = T2 at hT2 hend hl2' e2x e2p e2c e2s
  -- cuts
  have a1 := bE6 hT2.hv
  have a2 := aOi hT2.hv
  have b1 := aUm (x := T2.x) (by rw [e2x]; omega) T2.p.cutAt
  rw [show nA T2.x T2.p.cutAt = rdP T2 T2.p.cutAt from rfl] at b1
  refine xq ?_
  refine bN (l2 := qZ 4) mixed hC (by kernel_rfl) ?_
  refine eJ (jn @a1 (jn @a2 (jn @t2 @b1))) ?_
  refine xq ?_
  refine aB (kp := qZ) mixed hC ?_
  refine go0 ?_
  refine xq ?_
  refine aH6 (fun e m' F => ∃ g3, TAt m r0 T g T2.look2 g3 m' ∧ Ev.get e 0 = AV.ptr r0 0 ∧ F = []) ?_ ?_
  ·cases hb : (rdP T2 T2.p.cutAt).2 with
   | false =>
    refine cK rfl (fun hc => by first | (cases hc; done) | (rw [hb] at hc; cases hc)) (fun hc => ?_)
    refine xq ?_
    exact ⟨g2, by unfold Tn.look2; rw [if_neg (by rw [hb]; decide)]; exact hT2, rfl, rfl⟩
   | true =>
    have hin := aRf (T := T2) (by rw [e2x]; exact hr) hb
    have ck := bTv (x := (rdP T2 T2.p.cutAt).1) hT2 ⟨⟨⟨hin, by rw [e2c]; exact hc1, by show inI T2.p.plateau.Delta; rw [e2p]; exact hc2⟩, by rw [e2c]; exact hc3, by rw [e2c]; exact hc4, by rw [e2p]; exact hc5⟩, by omega⟩
    have hT3 := hT2.app (f := fun T => T.cuts (rdP T2 T2.p.cutAt).1) (by obtain ⟨l, hl, _⟩ := bFw T2 (rdP T2 T2.p.cutAt).1; exact ⟨l, hl⟩)
    refine cK rfl (fun hc => ?_) (fun hc => by first | (cases hc; done) | (rw [hb] at hc; cases hc))
    refine xq ?_
    refine aB (kp := qZ) mixed hC ?_
    refine go1 (jn @t4 @ck) ?_
    refine xq ?_
    exact ⟨_, by rw [show T2.look2 = T2.cuts (rdP T2 T2.p.cutAt).1 by unfold Tn.look2; rw [if_pos hb]]; exact hT3, rfl, rfl⟩
  rintro e m3 F ⟨g3, hT3, he, rfl⟩
  refine aD3 (some [0]) ?_
  rw [show Ev.restr (some [0]) e = [(0, AV.ptr r0 0)] by simp only [Ev.restr, List.map_cons, List.map_nil, he]]
  obtain ⟨l3, hl3, n3⟩ := aZz T2
  have hl3' : T2.look2.events.length ≤ 11003 := by rw [hl3, List.length_append]; omega
  obtain ⟨e3x, e3p, e3s⟩ := aMp T2
  rw [e2x] at e3x
  rw [e2p] at e3p
  rw [e2s] at e3s
  clear a1 a2 b1 hT2 he hl3
  generalize T2.look2 = T3 at hT3 hend hl3' e3x e3p e3s
  -- stops
  have a1 := bE6 hT3.hv
  have a2 := aI0 hT3.hv
  have b1 := aUm (x := T3.x) (by rw [e3x]; omega) T3.p.stopAt
  rw [show nA T3.x T3.p.stopAt = rdP T3 T3.p.stopAt from rfl] at b1
  refine xq ?_
  refine bN (l2 := qZ 7) mixed hC (by kernel_rfl) ?_
  refine eJ (jn @a1 (jn @a2 (jn @t2 @b1))) ?_
  refine xq ?_
  refine aB (kp := qZ) mixed hC ?_
  refine go0 ?_
  refine xq ?_
  cases hb : (rdP T3 T3.p.stopAt).2 with
  | false =>
   refine cK rfl (fun hc => by first | (cases hc; done) | (rw [hb] at hc; cases hc)) (fun hc => ?_)
   refine xq ?_
   exact dK (f := Tn.look) rfl (by rw [hend, show T3.look3 = T3 by unfold Tn.look3; rw [if_neg (by rw [hb]; decide)]]; exact hT3)
  | true =>
   have hin := aRf (T := T3) (by rw [e3x]; exact hr) hb
   have ck := bSi (x := (rdP T3 T3.p.stopAt).1) hT3 ⟨⟨hin, by rw [e3s]; exact hs1, by unfold Tn.rule; rw [e3p]; exact hs2⟩, by omega⟩
   have hT4 := hT3.app (f := fun T => T.stops (rdP T3 T3.p.stopAt).1) (by obtain ⟨l, hl, _⟩ := aZ3 T3 (rdP T3 T3.p.stopAt).1; exact ⟨l, hl⟩)
   refine cK rfl (fun hc => ?_) (fun hc => by first | (cases hc; done) | (rw [hb] at hc; cases hc))
   refine xq ?_
   refine aB (kp := qZ) mixed hC ?_
   refine go1 (jn @t5 @ck) ?_
   refine xq ?_
   exact dK (f := Tn.look) rfl (by rw [hend, show T3.look3 = T3.stops (rdP T3 T3.p.stopAt).1 by unfold Tn.look3; rw [if_pos hb]]; exact hT4)
 ·cases h
end
noncomputable section
attribute [local irreducible] Next aW cF Ops bQ
attribute [local irreducible] bE dH eZ eC
attribute [local go_sem] cO bP Option.getD_some cJ aT aV iv aN2 aNd aLf rG nU kN bJs bBq yV List.cons_append
def lX (T : Tn) : Bool := decide (T.p.eval > 0) && ((IntKind.i64.wrap (T.step + 1)).tmod T.p.eval == 0)
def Tn.run2 (T : Tn) : Tn := if lX T = true then T.look else T
def Tn.run3 (T : Tn) : Tn := if (T.step != IntKind.i64.wrap (T.p.steps - 1)) = true then T else if ((T.tell 11 0).s.status == 0) = true then (T.tell 11 0).stat 1 else T.tell 11 0
def Tn.run (T : Tn) : Tn := if T.begins.wts.2 = true then T.begins.wts.1.run2.run3 else T.begins.wts.1.stat 3
def aM9 (T : Tn) : Prop := aTj T ∧ (T.s.swa.sums.length ≤ 1000000 ∧ T.x.weights.length ≤ 1000000) ∧ aL6 T.s.ema T.x.weights ∧ T.x.readings.length ≤ 1000 ∧ (T.s.kept.length ≤ 1000000 ∧ ∀ y ∈ T.s.kept, inI y.val) ∧ (inI T.s.cut.watch.best ∧ inI T.p.plateau.Delta ∧ inI T.s.cut.rest ∧ inI T.s.cut.scale ∧ inI T.p.plateau.Factor) ∧ (inI T.s.stop.best ∧ inI T.p.stop.Delta) ∧ ∀ y ∈ T.x.readings, inI y.val
theorem aNj (T : Tn) : T.wts.1.x = T.x ∧ T.wts.1.p = T.p ∧ T.wts.1.s.kept = T.s.kept ∧ T.wts.1.s.cut = T.s.cut ∧ T.wts.1.s.stop = T.s.stop ∧ T.wts.1.step = T.step := by
 have he : ∀ U : Tn, U.emaT.x = U.x ∧ U.emaT.p = U.p ∧ U.emaT.s.kept = U.s.kept ∧ U.emaT.s.cut = U.s.cut ∧ U.emaT.s.stop = U.s.stop ∧ U.emaT.step = U.step := fun U => by
  unfold Tn.emaT
  split <;> exact ⟨rfl, rfl, rfl, rfl, rfl, rfl⟩
 unfold Tn.wts
 split
 ·split
  ·exact ⟨rfl, rfl, rfl, rfl, rfl, rfl⟩
  ·exact he _
 ·exact he T
theorem bSu {T : Tn} (h : frN T ≤ 8) : (yI T).length ≤ 17 := by
 have h1 := uV T false (frN T)
 have h2 := uV T true (frN T)
 unfold yI
 split
 ·show (([_] ++ _) ++ _ : List Evt).length ≤ 17
  simp only [List.length_append, List.length_cons, List.length_nil]
  omega
 ·exact Nat.zero_le _
theorem bVc (T : Tn) : ∃ l, T.run2.events = T.events ++ l := by
 unfold Tn.run2
 split
 ·obtain ⟨l, h, _⟩ := aUp T
  exact ⟨l, h⟩
 ·exact ⟨[], (List.append_nil _).symm⟩
theorem bTk (T : Tn) : ∃ l, T.run3.events = T.events ++ l := by
 unfold Tn.run3
 split
 ·exact ⟨[], (List.append_nil _).symm⟩
 ·split
  ·exact ⟨[⟨T.step, 11, 0⟩], rfl⟩
  ·exact ⟨[⟨T.step, 11, 0⟩], rfl⟩
theorem bY4 (T : Tn) : ∃ l, T.run.events = T.events ++ l := by
 obtain ⟨l1, h1, _⟩ := aC3 T.begins
 unfold Tn.run
 split
 ·obtain ⟨l2, h2⟩ := bVc T.begins.wts.1
  obtain ⟨l3, h3⟩ := bTk T.begins.wts.1.run2
  exact ⟨yI T ++ (l1 ++ (l2 ++ l3)), by rw [h3, h2, h1]; show ((T.events ++ yI T) ++ l1) ++ l2 ++ l3 = _; simp⟩
 ·exact ⟨yI T ++ l1, by show T.begins.wts.1.events = _; rw [h1]; show (T.events ++ yI T) ++ l1 = _; simp⟩
def bTu : List AV → Mem → Option (AV × Mem)
 | [.ptr r 0], m => tA r m aM9 Tn.run fun _ => .tup []
 | _, _ => none
theorem bXt {m0 m : Mem} {r : Nat} {T0 T : Tn} {g0 g : Grow} (h : TAt m0 r T0 g0 T g m) (hd : aM9 T) : bTu [.ptr r 0] m = some (.tup [], putT m r T.run (T.run.events.length - T.events.length) g) :=
 kF (dom := aM9) (f := Tn.run) (res := fun _ => .tup []) h hd
def zR : Nat → Option (List Nat) := fun
 | 0 => some [0]
 | 1 => some [0, 6]
 | 2 => some []
 | 3 => some [0, 28]
 | 4 => some [0]
 | 5 => some [0, 41]
 | 6 => some [0]
 | 7 => some [0, 49]
 | 8 => some []
 | _ => none
attribute [go_sem] zR
def aHa : List (FuncId × (List AV → Mem → Option (AV × Mem))) := [(98, aK2), (99, bUb), (100, bRg), (101, bGf), (102, yL)]
theorem bWh : aO Tryz.prog 70 bTu := by
 have hC := aI (P := Tryz.prog) (l := aHa) (aA bKp (aA bZ3 (aA bPt (aA bUk (aA xO aF)))))
 have t1 := taT aHa 98 rfl
 have t2 := taT aHa 99 rfl
 have t3 := taT aHa 100 rfl
 have t4 := taT aHa 101 rfl
 have t5 := taT aHa 102 rfl
 refine dJ Tryz.func70 rfl false rfl fun args m r h => ?_
 unfold bTu at h
 split at h
 ·rename_i r0
  obtain ⟨T, g, hT, ⟨hb, hw1, hw2, hx, hk, hcu, hs, hr⟩, rfl⟩ := gM h
  refine ⟨nbT, fun φ wd => ?_⟩
  refine en ?_
  have hend : T.run = if T.begins.wts.2 = true then T.begins.wts.1.run2.run3 else T.begins.wts.1.stat 3 := rfl
  have hfr : frN T ≤ 8 := by
   obtain ⟨⟨p0, p1, p2, p3⟩, q1, q2, q3⟩ := hb
   have := q1 T.phase.toNat (by omega)
   unfold frN
   omega
  have hbl := bSu hfr
  have hl1 : T.begins.events.length ≤ 1017 := by
   show (T.events ++ yI T).length ≤ _
   rw [List.length_append]
   have := hb.2.2.2
   omega
  have c1 := bH6 hT hb
  have hT1 := hT.addE (yI T)
  rw [show T.addE (yI T) = T.begins from rfl] at hT1
  refine xq ?_
  refine aB (kp := zR) mixed hC ?_
  refine go1 (jn @t1 @c1) ?_
  refine xq ?_
  generalize putT m r0 T.begins (yI T).length g = m1 at hT1
  generalize (fI (yI T).length g m.toks).1 = g1 at hT1
  have e1 : T.begins.x = T.x ∧ T.begins.p = T.p ∧ T.begins.s = T.s ∧ T.begins.step = T.step := ⟨rfl, rfl, rfl, rfl⟩
  generalize T.begins = T1 at hT1 hl1 e1 hend
  obtain ⟨e1x, e1p, e1s, e1t⟩ := e1
  have c2 := bZe hT1 ⟨by rw [e1s, e1x]; exact hw1, by rw [e1s, e1x]; exact hw2, by unfold mY; omega⟩
  have hT2 := hT1.wts
  have hl2 : T1.wts.1.events.length ≤ 1018 := by
   obtain ⟨l, hl, hn⟩ := aC3 T1
   rw [hl, List.length_append]
   omega
  refine aB (kp := zR) mixed hC ?_
  refine go1 (jn @t2 @c2) ?_
  refine xq ?_
  generalize putT m1 r0 T1.wts.1 (T1.wts.1.events.length - T1.events.length) g1 = m2 at hT2
  generalize (fI (T1.wts.1.events.length - T1.events.length) g1 m1.toks).1 = g2 at hT2
  have e2 := aNj T1
  rw [e1x, e1p, e1s, e1t] at e2
  clear c1 c2 hT1
  generalize T1.wts = Y at hT2 hl2 e2 hend
  obtain ⟨T2, B⟩ := Y
  dsimp only at hT2 hl2 e2 hend
  obtain ⟨e2x, e2p, e2k, e2c, e2s, e2t⟩ := e2
  cases B with
  | false =>
   rw [if_neg (by decide)] at hend
   have c3 := bA6 hT2 3
   have hT3 := hT2.stat 3
   refine xcT rfl ?_
   refine xq ?_
   refine aB (kp := zR) mixed hC ?_
   refine go1 (jn @t3 @c3) ?_
   refine xq ?_
   exact oU (f := Tn.run) rfl (by rw [hend]; exact hT3)
  | true =>
   rw [if_pos rfl] at hend
   refine xcF rfl ?_
   have l1 := bHl hT2.hv
   have l2 := oS hT2.hv
   refine xq ?_
   refine aH6 (fun e m' F => Ev.restr (some [0, 28]) e = [(0, AV.ptr r0 0), (28, .v (.bool (lX T2)))] ∧ m' = m2 ∧ F = []) ?_ ?_
   ·unfold lX
    cases h1 : decide (T2.p.eval > 0) with
    | false =>
     refine bN (l2 := zR 3) mixed hC (by kernel_rfl) ?_
     refine eJ (jn @l1 @h1) ?_
     refine xq ?_
     exact ⟨rfl, rfl, rfl⟩
    | true =>
     have hz : (T2.p.eval = 0) = False := eq_false (by have := of_decide_eq_true h1; omega)
     refine bN (l2 := zR 3) mixed hC (by kernel_rfl) ?_
     refine eJ (jn @l1 (jn @l2 (jn @h1 @hz))) ?_
     refine xq ?_
     exact ⟨rfl, rfl, rfl⟩
   rintro e m' F ⟨he, rfl, rfl⟩
   refine aD3 (some [0, 28]) ?_
   rw [he]
   refine xq ?_
   refine aH6 (fun e m' F => ∃ g3, TAt m r0 T g T2.run2 g3 m' ∧ Ev.get e 0 = AV.ptr r0 0 ∧ F = []) ?_ ?_
   ·cases hb : lX T2 with
    | false =>
     refine cK rfl (fun hc => by first | (cases hc; done) | (rw [hb] at hc; cases hc)) (fun hc => ?_)
     refine xq ?_
     exact ⟨g2, by unfold Tn.run2; rw [if_neg (by rw [hb]; decide)]; exact hT2, rfl, rfl⟩
    | true =>
     have ck := bU1 hT2 ⟨⟨by rw [e2x]; exact hx, by omega⟩, by rw [e2k]; exact hk, ⟨by rw [e2c]; exact hcu.1, by rw [e2p]; exact hcu.2.1, by rw [e2c]; exact hcu.2.2.1, by rw [e2c]; exact hcu.2.2.2.1, by rw [e2p]; exact hcu.2.2.2.2⟩, ⟨by rw [e2s]; exact hs.1, by rw [e2p]; exact hs.2⟩, by rw [e2x]; exact hr⟩
     have hT3 := hT2.app (f := Tn.look) (by obtain ⟨l, hl, _⟩ := aUp T2; exact ⟨l, hl⟩)
     refine cK rfl (fun hc => ?_) (fun hc => by first | (cases hc; done) | (rw [hb] at hc; cases hc))
     refine xq ?_
     refine aB (kp := zR) mixed hC ?_
     refine go1 (jn @t4 @ck) ?_
     refine xq ?_
     exact ⟨_, by rw [show T2.run2 = T2.look by unfold Tn.run2; rw [if_pos hb]]; exact hT3, rfl, rfl⟩
   rintro e m3 F ⟨g3, hT3, he2, rfl⟩
   refine aD3 (some [0]) ?_
   rw [show Ev.restr (some [0]) e = [(0, AV.ptr r0 0)] by simp only [Ev.restr, List.map_cons, List.map_nil, he2]]
   have hl3 : T2.run2.events.length ≤ 1000 + 3000 := by
    unfold Tn.run2
    split
    ·obtain ⟨l, hl, hn⟩ := aUp T2
     have := rK T2.x.readings T2.x.readings.length
     unfold jN at hn
     rw [e2x] at this hn
     rw [hl, List.length_append]
     omega
    ·omega
   clear l1 l2 hT2 he2 he
   generalize T2.run2 = T3 at hT3 hend hl3
   have l1 := oS hT3.hv
   have l2 := bEe hT3.hv
   have c5 := oJ hT3 (by unfold mY; omega) 11 0
   have hT5 := hT3.tell 11 0
   unfold Tn.run3 at hend
   refine xq ?_
   refine bN (l2 := zR 5) mixed hC (by kernel_rfl) ?_
   refine eJ (jn @l1 @l2) ?_
   refine xq ?_
   refine cK rfl (fun hc => ?_) (fun hc => ?_)
   ·rw [if_pos hc] at hend
    refine xq ?_
    exact oU (f := Tn.run) rfl (by rw [hend]; exact hT3)
   ·rw [if_neg (by rw [hc]; decide)] at hend
    refine xq ?_
    refine aB (kp := zR) mixed hC ?_
    refine go1 (jn @t5 @c5) ?_
    refine xq ?_
    generalize putT m3 r0 (T3.tell 11 0) 1 g3 = m5 at hT5
    generalize (fI 1 g3 m3.toks).1 = g5 at hT5
    have l3 := aJu hT5.hv
    have c6 := bA6 hT5 1
    have hT6 := hT5.stat 1
    refine aB (kp := zR) mixed hC ?_
    refine go1 @l3 ?_
    refine xq ?_
    refine cK rfl (fun hc => ?_) (fun hc => ?_)
    ·rw [if_pos hc] at hend
     refine xq ?_
     refine aB (kp := zR) mixed hC ?_
     refine go1 (jn @t3 @c6) ?_
     refine xq ?_
     exact dK (f := Tn.run) rfl (by rw [hend]; exact hT6)
    ·rw [if_neg (by rw [hc]; decide)] at hend
     refine xq ?_
     exact dK (f := Tn.run) rfl (by rw [hend]; exact hT5)
 ·cases h
end
end Go.Proofs.YtmockbddhhmmeaaGreat.Ev
