/- Steps that are kept: put, checked. -/
import Derived.Test.YtmockbddhhmmeaaGreatMbmkl11
import Derived.Test.YtmockbddhhmmeaaGreatMa8
import Derived.Test.YtmockbddhhmmeaaGreatMbmkl8
namespace Go.Proofs.YtmockbddhhmmeaaGreat.Ev
open Go Go.Proofs
set_option maxRecDepth 10000
set_option maxHeartbeats 8000000
set_option linter.unusedVariables false
set_option linter.unusedSimpArgs false
noncomputable section
attribute [local irreducible] Next Inside Runs Ops table
attribute [local irreducible] XRuns XOps XLin XAny
attribute [local go_sem] szStr szInt Option.getD_some isNil evMinMax evFoldI iv mapKt cellsKt newKt ldKt rowsKt_len mapSf cellsSf newSf fpSfCount zrKt zoKt znKt List.cons_append fpKtStep fpKtVal fpSfAhead
theorem putS_eq {cnt : Int} {b : Bool} {g : Grow} {l : List Kt} {x : Kt} (h : putDom l x) (m : Mem) : putSG [.agg (shelfRow cnt b), .lst g 2 (rowsKt l), .agg x.row] m = some (.tup [.lst .no 2 (rowsKt (putV cnt b l x).1), .agg (putV cnt b l x).2.1.row, .v (.bool (putV cnt b l x).2.2)], m) := by
 unfold shelfRow aheadFn iv
 simp only [putSG, unsKt_rowsKt, unKt_row]
 exact if_pos h
open Classical in
def bestPutG : List AV → Mem → Option (AV × Mem)
 | [.lst _ 2 rows, .agg xs, .v (.int .i64 cnt), .v (.bool b)], m =>
  match unsKt rows, unKt xs with
  | some l, some x => if putDom l x then some (.tup [.lst .no 2 (rowsKt (putV (mx cnt 0) b l x).1), .agg (putV (mx cnt 0) b l x).2.1.row, .v (.bool (putV (mx cnt 0) b l x).2.2)], m) else none
  | _, _ => none
 | _, _ => none
theorem bestPut_eq {cnt : Int} {b : Bool} {g : Grow} {l : List Kt} {x : Kt} (h : putDom l x) (m : Mem) : bestPutG [.lst g 2 (rowsKt l), .agg x.row, .v (.int .i64 cnt), .v (.bool b)] m = some (.tup [.lst .no 2 (rowsKt (putV (mx cnt 0) b l x).1), .agg (putV (mx cnt 0) b l x).2.1.row, .v (.bool (putV (mx cnt 0) b l x).2.2)], m) := by
 simp only [bestPutG, unsKt_rowsKt, unKt_row]
 exact if_pos h
def kpBestPut : Nat → Option (List Nat) := fun
 | 0 => some [0, 2, 3, 5, 9]
 | 1 => some [8, 9, 10]
 | _ => none
attribute [go_sem] kpBestPut
def tabBestPut : List (FuncId × (List AV → Mem → Option (AV × Mem))) := [(108, shelfG), (156, putSG)]
theorem bestPut_ok : FunOk Tryz.prog 139 bestPutG := by
 have hC := table_ok (P := Tryz.prog) (l := tabBestPut) (table_more shelf_ok (table_more putS_ok table_nil))
 have t1 := fun args mm => table_at (l := tabBestPut) (f := 108) (args := args) (m := mm) rfl
 have t2 := fun args mm => table_at (l := tabBestPut) (f := 156) (args := args) (m := mm) rfl
 refine fun_okX Tryz.func139 rfl false rfl fun args m r h => ?_
 unfold bestPutG at h
 split at h
 ·rename_i g rows xs cnt b
  split at h
  ·rename_i l x hl0 hx0
   obtain rfl := unsKt_some hl0
   obtain rfl := unKt_some hx0
   split at h
   ·rename_i hd
    simp only [Option.some.injEq] at h
    subst h
    refine ⟨Nat.le_of_ble_eq_true rfl, fun φ wd => ?_⟩
    refine en ?_
    have v5 : ((m.push x.row).push zeroKt).var m.vars.length = some x.row := push_old push_var
    have v9 : ((m.push x.row).push zeroKt).var (m.push x.row).vars.length = some zeroKt := push_var
    have n1 := newKt (m := m) (x := x)
    have n2 := znKt (m := m.push x.row)
    have hA := above_push (cs := zeroKt) (above_push (cs := x.row) (above_self m))
    have hge : m.vars.length ≤ (m.push x.row).vars.length := by rw [push_len]; omega
    refine xq ?_
    refine x_region (kp := kpBestPut) mixed hC ?_
    refine go1 (jn @n1 @n2) ?_
    refine xq ?_
    generalize (m.push x.row).push zeroKt = m2 at v5 v9 hA
    generalize (m.push x.row).vars.length = r9 at v9 hge
    generalize m.vars.length = r5 at v5
    have l5 := vrKt v5
    have c1 := shelf_eq cnt b
    have c2 := fun mm => putS_eq (cnt := mx cnt 0) (b := b) (g := .no) hd mm
    have rr : ∀ {n : Int}, List.map argCell (shelfRow n b) = shelfRow n b := rfl
    generalize putV (mx cnt 0) b l x = Y at c2
    have st : evStore Tryz.prog m2 54 (.ptr r9 0) (.agg Y.2.1.row) = some (setv m2 r9 Y.2.1.row) := store_part v9 szKt rfl rfl (Nat.le_refl _) rfl rfl
    refine x_walk0 (l2 := kpBestPut 1) mixed hC (by kernel_rfl) ?_
    refine gof1 (jn @t1 (jn @c1 (jn @t2 (jn @c2 (jn @l5 @st))))) ?_
    refine xq ?_
    exact x_leaves (leaves_tct rfl rfl (vrKt (setv_var v9)) rfl rfl (above_fin (above_setv hA hge)))
   ·cases h
  ·cases h
 ·cases h
end
noncomputable section
attribute [local irreducible] Next Inside Runs Ops table
attribute [local irreducible] XRuns XOps XLin XAny
attribute [local go_sem] szStr szInt Option.getD_some isNil evMinMax evFoldI iv fpTnP fpTnS fpTnX fpTnStep fpTnPhase fpTnEvents fpTnXReadings fpTnPStopAt fpTnPCutAt fpTnPKeepAt fpTnPKeep fpTnPKeepCount fpTnPKeepMax fpTnSKept fpTnSCut fpTnSStop fpTnPPlateau fpTnPStop fpTnPStopMax fpTnPStopDelta fpTnPStopRel fpTnPStopPatience List.cons_append mapKt cellsKt zrKt zoKt znKt szKt fpKtStep mapCt cellsCt zrCt zoCt znCt szCt mapPt mapWt mapRu mapIn rowsI_len loadInt
theorem mkRu3 {a c : Bool} {b : Int} : evBuild Tryz.prog 57 [(0, .v (.bool a)), (1, .v (.int .i64 b)), (2, .v (.bool c))] = some (.agg (Ru.mk a b c).row) := by kernel_rfl
attribute [local go_sem] mkRu3
theorem TAt.app {m0 m : Mem} {r : Nat} {T0 T : Tn} {g0 g : Grow} {f : Tn → Tn} (h : TAt m0 r T0 g0 T g m) (hf : ∃ l, (f T).events = T.events ++ l) : TAt m0 r T0 g0 (f T) (growN ((f T).events.length - T.events.length) g m.toks).1 (putT m r (f T) ((f T).events.length - T.events.length) g) := by
 obtain ⟨l, hl⟩ := hf
 exact h.put (l := l) hl (by rw [hl, List.length_append]; omega)
/-! ### missing -/
theorem mkInts3 {a b c : Int} : evBuildSlice Tryz.prog 42 3 [(0, .v (.int .i64 a)), (1, .v (.int .i64 b)), (2, .v (.int .i64 c))] = some (.lst .full 1 (rowsI [a, b, c])) := by kernel_rfl
attribute [local go_sem] mkInts3
def watchedB (p : Pn) (v : Int) : Bool := [p.keepAt, p.cutAt, p.stopAt].any (intAt v)
def missEv (T : Tn) (i : Nat) : List Evt := (((missL T.x.readings).take i).filter (watchedB T.p)).map fun v => ⟨T.step, 6, v⟩
def Tn.miss (T : Tn) : Tn := T.addE (missEv T (missL T.x.readings).length)
def missDom (T : Tn) : Prop := T.x.readings.length ≤ 1000 ∧ T.events.length ≤ 10000
def missTG : List AV → Mem → Option (AV × Mem)
 | [.ptr r 0], m => turnM r m missDom Tn.miss fun _ => .tup []
 | _, _ => none
theorem missT_eq {m0 m : Mem} {r : Nat} {T0 T : Tn} {g0 g : Grow} (h : TAt m0 r T0 g0 T g m) (hd : missDom T) : missTG [.ptr r 0] m = some (.tup [], putT m r T.miss (T.miss.events.length - T.events.length) g) :=
 turnM_eq (dom := missDom) (f := Tn.miss) (res := fun _ => .tup []) h hd
theorem miss_ev (T : Tn) : ∃ l, T.miss.events = T.events ++ l := ⟨_, rfl⟩
theorem missEv_next {T : Tn} {i : Nat} (hi : i < (missL T.x.readings).length) : missEv T (i + 1) = missEv T i ++ if watchedB T.p ((missL T.x.readings).getD i 0) = true then [⟨T.step, 6, (missL T.x.readings).getD i 0⟩] else [] := by
 unfold missEv
 have e : (missL T.x.readings)[i] = (missL T.x.readings).getD i 0 := by simp [List.getD, List.getElem?_eq_getElem hi]
 rw [List.take_add_one, List.getElem?_eq_getElem hi, List.filter_append, List.map_append, e]
 generalize (missL T.x.readings).getD i 0 = v
 split
 ·rename_i h; simp [h]
 ·rename_i h; simp [h]
theorem missEv_len (T : Tn) (i : Nat) : (missEv T i).length ≤ i := by
 unfold missEv
 rw [List.length_map]
 exact Nat.le_trans (List.length_filter_le _ _) (by rw [List.length_take]; omega)
def kpMissT : Nat → Option (List Nat) := fun
 | 0 => some [0, 2]
 | 1 => some [0, 2, 25, 26, 27]
 | 2 => some [0, 2, 25, 26, 27, 28]
 | 3 => some [0, 2, 4, 25, 26, 27]
 | 4 => some [0, 2, 4, 25, 26, 27, 33]
 | 5 => some [0, 2, 25, 26, 27]
 | 6 => some [0, 2, 25, 26, 27]
 | _ => none
attribute [go_sem] kpMissT
def tab_missT_ok : List (FuncId × (List AV → Mem → Option (AV × Mem))) := [(102, tellG), (137, missG), (138, contG)]
theorem missT_ok : FunOk Tryz.prog 119 missTG := by
 have hC := table_ok (P := Tryz.prog) (l := tab_missT_ok) (table_more tell_ok (table_more miss_ok (table_more cont_ok table_nil)))
 have t1 := fun args mm => table_at (l := tab_missT_ok) (f := 102) (args := args) (m := mm) rfl
 have t2 := fun args mm => table_at (l := tab_missT_ok) (f := 137) (args := args) (m := mm) rfl
 have t3 := fun args mm => table_at (l := tab_missT_ok) (f := 138) (args := args) (m := mm) rfl
 refine fun_ok mixed hC Tryz.func119 rfl kpMissT false rfl fun args m r h => ?_
 unfold missTG at h
 split at h
 ·rename_i r0
  obtain ⟨T, g, hT, ⟨hd1, hd2⟩, rfl⟩ := turnM_some h
  refine ⟨Nat.le_of_ble_eq_true rfl, ?_⟩
  refine en ?_
  have l1 := lpTnPKeepAt hT.hv
  have l2 := lpTnPCutAt hT.hv
  have l3 := lpTnPStopAt hT.hv
  have l4 := lpTnX hT.hv
  have c1 := miss_eq (x := T.x) (by omega)
  repeat refine runs_seq ?_
  refine runs_ops_drawn_tight (kp := kpMissT) (by kernel_rfl) (by kernel_rfl) ?_
  have hlen : (missL T.x.readings).length ≤ 1000 := Nat.le_trans (missTo_len T.x.readings _) hd1
  have hE : ∀ {i}, i < (missL T.x.readings).length → missEv T (i + 1) = missEv T i ++ if watchedB T.p ((missL T.x.readings).getD i 0) = true then [⟨T.step, 6, (missL T.x.readings).getD i 0⟩] else [] := fun {i} hi => missEv_next hi
  have hend : T.miss = T.addE (missEv T (missL T.x.readings).length) := rfl
  have cw := fun v m => cont_eq (g := .full) (l := [T.p.keepAt, T.p.cutAt, T.p.stopAt]) (by simp) v m
  have hw : ∀ v, [T.p.keepAt, T.p.cutAt, T.p.stopAt].any (intAt v) = watchedB T.p v := fun v => rfl
  simp only [hw] at cw
  generalize missL T.x.readings = L at hlen hE hend c1
  refine go1 (jn @l1 (jn @l2 (jn @l3 (jn @l4 (jn @t2 @c1))))) ?_
  refine runs_loop (fun k e m' => ∃ (i : Nat) (gi : Grow), i ≤ L.length ∧ TAt m r0 T g (T.addE (missEv T i)) gi m' ∧ k = L.length - i ∧
   e = [(0, AV.ptr r0 0), (2, .lst .full 1 (rowsI [T.p.keepAt, T.p.cutAt, T.p.stopAt])), (25, .lst .no 1 (rowsI L)), (26, .v (.int .i64 L.length)), (27, .v (.int .i64 (i : Int)))]) (k := L.length)
   ⟨0, g, Nat.zero_le _, by rw [show missEv T 0 = [] from rfl, addE_nil]; exact hT, rfl, rfl⟩ ?_
  rintro k e m' ⟨i, gi, hi, hTi, rfl, rfl⟩
  refine go0 ?_
  refine runs_cond rfl (fun hc => ?_) (fun hc => ?_)
  ·have hi1 : i < L.length := by have := of_decide_eq_true hc; omega
   have f1 := atInts (g := .no) (kk := .i64) hi1
   have r6 := next_i64 (i := i) (by omega)
   have hS := hE hi1
   have hl6 := missEv_len T i
   generalize L.getD i 0 = v at f1 hS
   have cv := cw v m'
   refine go1 (jn @f1 (jn @t3 @cv)) ?_
   cases hb : watchedB T.p v with
   | false =>
    rw [hb, if_neg (by decide), List.append_nil] at hS
    refine runs_cond rfl (fun hc => by have hc2 : watchedB T.p v = true := hc; rw [hb] at hc2; cases hc2) (fun hc => ?_)
    refine go1 @r6 ?_
    exact ⟨L.length - (i + 1), by omega, i + 1, gi, hi1, by rw [hS]; exact hTi, rfl, rfl⟩
   | true =>
    rw [hb, if_pos rfl] at hS
    have hev : (T.addE (missEv T i)).events.length < evLim := by
     unfold Tn.addE evLim
     simp only [List.length_append]
     omega
    have ct := tell_eq hTi hev 6 v
    have hT2 := hTi.tell 6 v
    rw [addE_tell, ← hS] at ct hT2
    refine runs_cond rfl (fun hc => ?_) (fun hc => by have hc2 : watchedB T.p v = false := hc; rw [hb] at hc2; cases hc2)
    refine go1 (jn @t1 (jn @ct @r6)) ?_
    exact ⟨L.length - (i + 1), by omega, i + 1, _, hi1, hT2, rfl, rfl⟩
  ·have hi1 : i = L.length := by have := of_decide_eq_false hc; omega
   subst hi1
   refine go0 ?_
   exact leaves_turnN (f := Tn.miss) rfl (by rw [hend]; exact hTi)
 ·cases h
/-! ### keeps -/
def Tn.setKept (T : Tn) (l : List Kt) : Tn := { T with s := { T.s with kept := l } }
def kPut (T : Tn) (x : Int) : List Kt × Kt × Bool := putV (mx T.p.keep.Count 0) T.p.keep.Max T.s.kept ⟨T.step, x⟩
def Tn.keepsY (T : Tn) (Y : List Kt × Kt × Bool) : Tn :=
 if (Y.2.2 && (Y.2.1.step == T.step)) = true then T.setKept Y.1 else if Y.2.2 = true then ((T.setKept Y.1).tell 7 T.step).tell 8 Y.2.1.step else (T.setKept Y.1).tell 7 T.step
def Tn.keeps (T : Tn) (x : Int) : Tn := T.keepsY (kPut T x)
def keepsDom (T : Tn) (x : Int) : Prop := putDom T.s.kept ⟨T.step, x⟩ ∧ T.events.length ≤ 20000
def keepsG : List AV → Mem → Option (AV × Mem)
 | [.ptr r 0, .v (.int .i64 x)], m => turnM r m (fun T => keepsDom T x) (fun T => T.keeps x) fun _ => .tup []
 | _, _ => none
theorem keeps_eq {m0 m : Mem} {r : Nat} {T0 T : Tn} {g0 g : Grow} {x : Int} (h : TAt m0 r T0 g0 T g m) (hd : keepsDom T x) : keepsG [.ptr r 0, .v (.int .i64 x)] m = some (.tup [], putT m r (T.keeps x) ((T.keeps x).events.length - T.events.length) g) :=
 turnM_eq (dom := fun T => keepsDom T x) (f := fun T => T.keeps x) (res := fun _ => .tup []) h hd
theorem keeps_ev (T : Tn) (x : Int) : ∃ l, (T.keeps x).events = T.events ++ l ∧ l.length ≤ 2 := by
 unfold Tn.keeps Tn.keepsY
 split
 ·exact ⟨[], (List.append_nil _).symm, Nat.zero_le _⟩
 ·split
  ·exact ⟨[⟨T.step, 7, T.step⟩, ⟨T.step, 8, (kPut T x).2.1.step⟩], by unfold Tn.tell Tn.setKept; simp, Nat.le_refl _⟩
  ·exact ⟨[⟨T.step, 7, T.step⟩], rfl, by simp⟩
theorem mkKt2 {a b : Int} : evBuild Tryz.prog 54 [(0, .v (.int .i64 a)), (1, .v (.int .i64 b))] = some (.agg (Kt.mk a b).row) := by kernel_rfl
attribute [local go_sem] mkKt2
theorem szKts : tSize Tryz.prog 41 = some 1 := by kernel_rfl
def kpKeeps : Nat → Option (List Nat) := fun
 | 0 => some [0, 4, 5, 6]
 | 1 => some [0, 5, 6]
 | 2 => some [0, 5, 6, 49]
 | 3 => some [0, 5, 6]
 | 4 => some [0, 5, 56]
 | 5 => some []
 | _ => none
attribute [go_sem] kpKeeps
def tabKeeps : List (FuncId × (List AV → Mem → Option (AV × Mem))) := [(102, tellG), (139, bestPutG)]
theorem keeps_ok : FunOk Tryz.prog 121 keepsG := by
 have hC := table_ok (P := Tryz.prog) (l := tabKeeps) (table_more tell_ok (table_more bestPut_ok table_nil))
 have t1 := fun args mm => table_at (l := tabKeeps) (f := 102) (args := args) (m := mm) rfl
 have t2 := fun args mm => table_at (l := tabKeeps) (f := 139) (args := args) (m := mm) rfl
 refine fun_okX Tryz.func121 rfl false rfl fun args m r h => ?_
 unfold keepsG at h
 split at h
 ·rename_i r0 x
  obtain ⟨T, g, hT, ⟨hd1, hd2⟩, rfl⟩ := turnM_some h
  refine ⟨Nat.le_of_ble_eq_true rfl, fun φ wd => ?_⟩
  refine en ?_
  have l1 := lpTnSKept hT.hv
  have l2 := lpTnStep hT.hv
  have l3 := lpTnPKeepCount hT.hv
  have l4 := lpTnPKeepMax hT.hv
  have c2 := bestPut_eq (cnt := T.p.keep.Count) (b := T.p.keep.Max) (g := .no) hd1
  have hk : T.keeps x = T.keepsY (kPut T x) := rfl
  rw [show putV (mx T.p.keep.Count 0) T.p.keep.Max T.s.kept ⟨T.step, x⟩ = kPut T x from rfl] at c2
  generalize kPut T x = Y at c2 hk
  obtain ⟨L, G, B⟩ := Y
  have v5 : (m.push G.row).var m.vars.length = some G.row := push_var
  have hT5 := hT.push (cs := G.row)
  refine xq ?_
  refine x_walk0 (l2 := kpKeeps 0) mixed hC (by kernel_rfl) ?_
  refine gof1 (jn @l1 (jn @l2 (jn @l3 (jn @l4 (jn @t2 @c2))))) ?_
  refine xq ?_
  have hr5 : m.vars.length ≠ r0 := by have := hT.lt; omega
  generalize m.push G.row = m5 at v5 hT5
  generalize m.vars.length = r5 at v5 hr5
  have st1 : evStore Tryz.prog m5 41 (.ptr r0 44) (.lst .no 2 (rowsKt L)) = some (setv m5 r0 ((T.setKept L).rowG g)) := store_part hT5.hv szKts rfl rfl (Nat.le_of_ble_eq_true rfl) rfl rfl
  have hT6 := hT5.set (T2 := T.setKept L) rfl
  have v6 : (setv m5 r0 ((T.setKept L).rowG g)).var r5 = some G.row := setv_other v5 hr5
  refine x_region (kp := kpKeeps) mixed hC ?_
  refine go1 @st1 ?_
  refine xq ?_
  generalize setv m5 r0 ((T.setKept L).rowG g) = m6 at hT6 v6
  have l5 := lpKtStep v6
  have l6 := lpTnStep hT6.hv
  have l6' : evLoad Tryz.prog m6 3 (.ptr r0 50) = some (.v (.int .i64 T.step)) := l6
  have hev : (T.setKept L).events.length < evLim := by
   show T.events.length < 1000000
   omega
  have c7 := tell_eq hT6 hev 7 T.step
  have hT7 := hT6.tell 7 T.step
  unfold Tn.keepsY at hk
  dsimp only at hk
  cases B with
  | false =>
   rw [Bool.false_and, if_neg (by decide), if_neg (by decide)] at hk
   refine x_walk0 (l2 := kpKeeps 2) mixed hC (by kernel_rfl) ?_
   refine gof0 ?_
   refine xq ?_
   refine x_cond rfl (fun hc => by cases hc) (fun hc => ?_)
   refine xq ?_
   refine x_region (kp := kpKeeps) mixed hC ?_
   refine go1 (jn @l6' (jn @t1 @c7)) ?_
   refine xq ?_
   refine x_region (kp := kpKeeps) mixed hC ?_
   refine go0 ?_
   refine xq ?_
   refine x_cond rfl (fun hc => by cases hc) (fun hc => ?_)
   refine xq ?_
   exact leaves_turnN (f := fun T => T.keeps x) rfl (by rw [hk]; exact hT7)
  | true =>
   rw [Bool.true_and] at hk
   refine x_walk0 (l2 := kpKeeps 2) mixed hC (by kernel_rfl) ?_
   refine gof1 (jn @l5 @l6') ?_
   refine xq ?_
   refine x_cond rfl (fun hc => ?_) (fun hc => ?_)
   ·rw [if_pos hc] at hk
    refine xq ?_
    exact leaves_turn (f := fun T => T.keeps x) rfl (by rw [hk]; exact hT6)
   ·rw [if_neg (by rw [hc]; decide), if_pos rfl] at hk
    refine xq ?_
    refine x_region (kp := kpKeeps) mixed hC ?_
    refine go1 (jn @l6' (jn @t1 @c7)) ?_
    refine xq ?_
    have v7 : (putT m6 r0 ((T.setKept L).tell 7 T.step) 1 g).var r5 = some G.row := by rw [putT_other hr5]; exact v6
    generalize putT m6 r0 ((T.setKept L).tell 7 T.step) 1 g = m7 at hT7 v7
    generalize (growN 1 g m6.toks).1 = g7 at hT7
    have l7 := lpKtStep v7
    have hev8 : ((T.setKept L).tell 7 T.step).events.length < evLim := by
     unfold Tn.tell Tn.setKept evLim
     simp only [List.length_append, List.length_cons, List.length_nil]
     omega
    have c8 := tell_eq hT7 hev8 8 G.step
    have hT8 := hT7.tell 8 G.step
    refine x_region (kp := kpKeeps) mixed hC ?_
    refine go0 ?_
    refine xq ?_
    refine x_cond rfl (fun hc => ?_) (fun hc => by cases hc)
    refine xq ?_
    refine x_region (kp := kpKeeps) mixed hC ?_
    refine go1 (jn @l7 (jn @t1 @c8)) ?_
    refine xq ?_
    exact leaves_turnN (f := fun T => T.keeps x) rfl (by rw [hk]; exact hT8)
 ·cases h
end
noncomputable section
attribute [local irreducible] Next Inside Runs Ops table
attribute [local irreducible] XRuns XOps XLin XAny
attribute [local go_sem] szStr szInt Option.getD_some isNil evMinMax evFoldI iv fpTnP fpTnS fpTnX fpTnStep fpTnPhase fpTnEvents fpTnXReadings fpTnPStopAt fpTnPCutAt fpTnPKeepAt fpTnPKeep fpTnPKeepCount fpTnPKeepMax fpTnSKept fpTnSCut fpTnSStop fpTnPPlateau fpTnPStop fpTnPStopMax fpTnPStopDelta fpTnPStopRel fpTnPStopPatience List.cons_append mapCt cellsCt zrCt zoCt znCt szCt mapPt mapWt mapRu mkRu3 mapIn
/-! ### cuts -/
def Tn.setCut (T : Tn) (c : Ct) : Tn := { T with s := { T.s with cut := c } }
def Tn.cutsY (T : Tn) (Y : Ct × Bool) : Tn := if Y.2 = true then (T.setCut Y.1).tell 9 0 else T.setCut Y.1
def Tn.cuts (T : Tn) (x : Int) : Tn := T.cutsY (cutV T.s.cut x T.p.plateau)
def cutsDom (T : Tn) (x : Int) : Prop := cutDom T.s.cut x T.p.plateau ∧ T.events.length ≤ 30000
def cutsG : List AV → Mem → Option (AV × Mem)
 | [.ptr r 0, .v (.int .i64 x)], m => turnM r m (fun T => cutsDom T x) (fun T => T.cuts x) fun _ => .tup []
 | _, _ => none
theorem cuts_eq {m0 m : Mem} {r : Nat} {T0 T : Tn} {g0 g : Grow} {x : Int} (h : TAt m0 r T0 g0 T g m) (hd : cutsDom T x) : cutsG [.ptr r 0, .v (.int .i64 x)] m = some (.tup [], putT m r (T.cuts x) ((T.cuts x).events.length - T.events.length) g) :=
 turnM_eq (dom := fun T => cutsDom T x) (f := fun T => T.cuts x) (res := fun _ => .tup []) h hd
theorem cuts_ev (T : Tn) (x : Int) : ∃ l, (T.cuts x).events = T.events ++ l ∧ l.length ≤ 1 := by
 unfold Tn.cuts Tn.cutsY
 split
 ·exact ⟨[⟨T.step, 9, 0⟩], rfl, Nat.le_refl _⟩
 ·exact ⟨[], (List.append_nil _).symm, Nat.zero_le _⟩
def kpCuts : Nat → Option (List Nat) := fun
 | 0 => some [0, 4, 5]
 | 1 => some [0, 5]
 | 2 => some [0, 26]
 | 3 => some []
 | _ => none
attribute [go_sem] kpCuts
def tabCuts : List (FuncId × (List AV → Mem → Option (AV × Mem))) := [(102, tellG), (140, cutG)]
theorem cuts_ok : FunOk Tryz.prog 122 cutsG := by
 have hC := table_ok (P := Tryz.prog) (l := tabCuts) (table_more tell_ok (table_more cut_ok table_nil))
 have t1 := fun args mm => table_at (l := tabCuts) (f := 102) (args := args) (m := mm) rfl
 have t2 := fun args mm => table_at (l := tabCuts) (f := 140) (args := args) (m := mm) rfl
 refine fun_okX Tryz.func122 rfl false rfl fun args m r h => ?_
 unfold cutsG at h
 split at h
 ·rename_i r0 x
  obtain ⟨T, g, hT, ⟨hd1, hd2⟩, rfl⟩ := turnM_some h
  refine ⟨Nat.le_of_ble_eq_true rfl, fun φ wd => ?_⟩
  refine en ?_
  have l1 := lpTnSCut hT.hv
  have l2 := lpTnPPlateau hT.hv
  have c2 := cut_eq hd1
  have hk : T.cuts x = T.cutsY (cutV T.s.cut x T.p.plateau) := rfl
  generalize cutV T.s.cut x T.p.plateau = Y at c2 hk
  obtain ⟨C, B⟩ := Y
  have v4 : (m.push C.row).var m.vars.length = some C.row := push_var
  have hT4 := hT.push (cs := C.row)
  refine xq ?_
  refine x_walk0 (l2 := kpCuts 0) mixed hC (by kernel_rfl) ?_
  refine gof1 (jn @l1 (jn @l2 (jn @t2 @c2))) ?_
  refine xq ?_
  have hr4 : m.vars.length ≠ r0 := by have := hT.lt; omega
  generalize m.push C.row = m4 at v4 hT4
  generalize m.vars.length = r4 at v4 hr4
  have l4 := vrCt v4
  have st1 : evStore Tryz.prog m4 40 (.ptr r0 39) (.agg C.row) = some (setv m4 r0 ((T.setCut C).rowG g)) := store_part hT4.hv szCt rfl rfl (Nat.le_of_ble_eq_true rfl) rfl rfl
  have hT6 := hT4.set (T2 := T.setCut C) rfl
  refine x_region (kp := kpCuts) mixed hC ?_
  refine go1 (jn @l4 @st1) ?_
  refine xq ?_
  generalize setv m4 r0 ((T.setCut C).rowG g) = m6 at hT6
  have hev : (T.setCut C).events.length < evLim := by
   show T.events.length < 1000000
   omega
  have c7 := tell_eq hT6 hev 9 0
  have hT7 := hT6.tell 9 0
  unfold Tn.cutsY at hk
  dsimp only at hk
  refine x_region (kp := kpCuts) mixed hC ?_
  refine go0 ?_
  refine xq ?_
  cases B with
  | false =>
   rw [if_neg (by decide)] at hk
   refine x_cond rfl (fun hc => by cases hc) (fun hc => ?_)
   refine xq ?_
   exact leaves_turnN (f := fun T => T.cuts x) rfl (by rw [hk]; exact hT6)
  | true =>
   rw [if_pos rfl] at hk
   refine x_cond rfl (fun hc => ?_) (fun hc => by cases hc)
   refine xq ?_
   refine x_region (kp := kpCuts) mixed hC ?_
   refine go1 (jn @t1 @c7) ?_
   refine xq ?_
   exact leaves_turnN (f := fun T => T.cuts x) rfl (by rw [hk]; exact hT7)
 ·cases h
/-! ### stops -/
def Tn.setStop (T : Tn) (w : Wt) : Tn := { T with s := { T.s with stop := w } }
def Tn.rule (T : Tn) : Ru := ⟨T.p.stop.Max, T.p.stop.Delta, T.p.stop.Rel⟩
def Tn.stopsY (T : Tn) (w : Wt) : Tn := if outB w T.p.stop.Patience = true then ((T.setStop w).tell 10 0).stat 2 else T.setStop w
def Tn.stops (T : Tn) (x : Int) : Tn := T.stopsY (takeW T.s.stop x T.rule)
def stopsDom (T : Tn) (x : Int) : Prop := takeDom T.s.stop x T.rule ∧ T.events.length ≤ 40000
def stopsG : List AV → Mem → Option (AV × Mem)
 | [.ptr r 0, .v (.int .i64 x)], m => turnM r m (fun T => stopsDom T x) (fun T => T.stops x) fun _ => .tup []
 | _, _ => none
theorem stops_eq {m0 m : Mem} {r : Nat} {T0 T : Tn} {g0 g : Grow} {x : Int} (h : TAt m0 r T0 g0 T g m) (hd : stopsDom T x) : stopsG [.ptr r 0, .v (.int .i64 x)] m = some (.tup [], putT m r (T.stops x) ((T.stops x).events.length - T.events.length) g) :=
 turnM_eq (dom := fun T => stopsDom T x) (f := fun T => T.stops x) (res := fun _ => .tup []) h hd
theorem stops_ev (T : Tn) (x : Int) : ∃ l, (T.stops x).events = T.events ++ l ∧ l.length ≤ 1 := by
 unfold Tn.stops Tn.stopsY
 split
 ·exact ⟨[⟨T.step, 10, 0⟩], rfl, Nat.le_refl _⟩
 ·exact ⟨[], (List.append_nil _).symm, Nat.zero_le _⟩
def kpStops : Nat → Option (List Nat) := fun
 | 0 => some [0]
 | 1 => some [0, 45]
 | 2 => some [0]
 | 3 => some []
 | _ => none
attribute [go_sem] kpStops
def tabStops : List (FuncId × (List AV → Mem → Option (AV × Mem))) := [(102, tellG), (100, endG), (141, takeG), (81, outG)]
theorem stops_ok : FunOk Tryz.prog 123 stopsG := by
 have hC := table_ok (P := Tryz.prog) (l := tabStops) (table_more tell_ok (table_more end_ok (table_more takeW_ok (table_more out_ok table_nil))))
 have t1 := fun args mm => table_at (l := tabStops) (f := 102) (args := args) (m := mm) rfl
 have t2 := fun args mm => table_at (l := tabStops) (f := 100) (args := args) (m := mm) rfl
 have t3 := fun args mm => table_at (l := tabStops) (f := 141) (args := args) (m := mm) rfl
 have t4 := fun args mm => table_at (l := tabStops) (f := 81) (args := args) (m := mm) rfl
 refine fun_okX Tryz.func123 rfl false rfl fun args m r h => ?_
 unfold stopsG at h
 split at h
 ·rename_i r0 x
  obtain ⟨T, g, hT, ⟨hd1, hd2⟩, rfl⟩ := turnM_some h
  refine ⟨Nat.le_of_ble_eq_true rfl, fun φ wd => ?_⟩
  refine en ?_
  have l1 := lpTnSStop hT.hv
  have l2 := lpTnPStopMax hT.hv
  have l3 := lpTnPStopDelta hT.hv
  have l4 := lpTnPStopRel hT.hv
  have c2 := take_eq hd1
  unfold Tn.rule at c2
  have hk : T.stops x = T.stopsY (takeW T.s.stop x ⟨T.p.stop.Max, T.p.stop.Delta, T.p.stop.Rel⟩) := rfl
  generalize takeW T.s.stop x ⟨T.p.stop.Max, T.p.stop.Delta, T.p.stop.Rel⟩ = W at c2 hk
  have st1 : evStore Tryz.prog m 38 (.ptr r0 36) (.agg W.row) = some (setv m r0 ((T.setStop W).rowG g)) := store_part hT.hv szWt rfl rfl (Nat.le_of_ble_eq_true rfl) rfl rfl
  have hT6 := hT.set (T2 := T.setStop W) rfl
  refine xq ?_
  refine x_walk0 (l2 := kpStops 0) mixed hC (by kernel_rfl) ?_
  refine gof1 (jn @l1 (jn @l2 (jn @l3 (jn @l4 (jn @t3 (jn @c2 @st1)))))) ?_
  refine xq ?_
  rw [show m.putv r0 ((T.setStop W).rowG g) = setv m r0 ((T.setStop W).rowG g) from rfl]
  generalize setv m r0 ((T.setStop W).rowG g) = m6 at hT6 ⊢
  have l5 := lpTnSStop hT6.hv
  have l5' : evLoad Tryz.prog m6 38 (.ptr r0 36) = some (.agg W.row) := l5
  have l6 : evLoad Tryz.prog m6 3 (.ptr r0 11) = some (.v (.int .i64 T.p.stop.Patience)) := lpTnPStopPatience (x := T.setStop W) hT6.hv
  have c4 := out_eq W T.p.stop.Patience
  unfold Tn.stopsY at hk
  have hev : (T.setStop W).events.length < evLim := by
   show T.events.length < 1000000
   omega
  have c7 := tell_eq hT6 hev 10 0
  have hT7 := hT6.tell 10 0
  have c8 := end_eq hT7 2
  have hT8 := hT7.stat 2
  refine x_walk0 (l2 := kpStops 1) mixed hC (by kernel_rfl) ?_
  refine gof1 (jn @l5' (jn @l6 (jn @t4 @c4))) ?_
  refine xq ?_
  refine x_cond rfl (fun hc => ?_) (fun hc => ?_)
  ·rw [if_pos hc] at hk
   refine xq ?_
   refine x_region (kp := kpStops) mixed hC ?_
   refine go1 (jn @t1 @c7) ?_
   refine xq ?_
   refine x_region (kp := kpStops) mixed hC ?_
   refine go1 (jn @t2 @c8) ?_
   refine xq ?_
   exact leaves_turnN (f := fun T => T.stops x) rfl (by rw [hk]; exact hT8)
  ·rw [if_neg (by rw [hc]; decide)] at hk
   refine xq ?_
   exact leaves_turnN (f := fun T => T.stops x) rfl (by rw [hk]; exact hT6)
 ·cases h
/-! ### look -/
def rdP (T : Tn) (a : Int) : Int × Bool := rdOf T.x a
def Tn.look1 (T : Tn) : Tn := if (rdP T T.p.keepAt).2 = true then T.keeps (rdP T T.p.keepAt).1 else T
def Tn.look2 (T : Tn) : Tn := if (rdP T T.p.cutAt).2 = true then T.cuts (rdP T T.p.cutAt).1 else T
def Tn.look3 (T : Tn) : Tn := if (rdP T T.p.stopAt).2 = true then T.stops (rdP T T.p.stopAt).1 else T
def Tn.look (T : Tn) : Tn := T.miss.look1.look2.look3
theorem look1_ev (T : Tn) : ∃ l, T.look1.events = T.events ++ l ∧ l.length ≤ 2 := by
 unfold Tn.look1
 split
 ·exact keeps_ev T _
 ·exact ⟨[], (List.append_nil _).symm, Nat.zero_le _⟩
theorem look2_ev (T : Tn) : ∃ l, T.look2.events = T.events ++ l ∧ l.length ≤ 1 := by
 unfold Tn.look2
 split
 ·exact cuts_ev T _
 ·exact ⟨[], (List.append_nil _).symm, Nat.zero_le _⟩
theorem look3_ev (T : Tn) : ∃ l, T.look3.events = T.events ++ l ∧ l.length ≤ 1 := by
 unfold Tn.look3
 split
 ·exact stops_ev T _
 ·exact ⟨[], (List.append_nil _).symm, Nat.zero_le _⟩
theorem look_ev (T : Tn) : ∃ l, T.look.events = T.events ++ l ∧ l.length ≤ (missL T.x.readings).length + 4 := by
 obtain ⟨l3, e3, n3⟩ := look3_ev T.miss.look1.look2
 obtain ⟨l2, e2, n2⟩ := look2_ev T.miss.look1
 obtain ⟨l1, e1, n1⟩ := look1_ev T.miss
 refine ⟨missEv T (missL T.x.readings).length ++ (l1 ++ (l2 ++ l3)), ?_, ?_⟩
 ·unfold Tn.look
  rw [e3, e2, e1]
  show ((T.events ++ _) ++ _) ++ _ ++ _ = _
  simp
 ·have := missEv_len T (missL T.x.readings).length
  simp only [List.length_append]
  omega
/-- What a turn must be like to look. -/
def lookDom (T : Tn) : Prop := (T.x.readings.length ≤ 1000 ∧ T.events.length ≤ 10000) ∧ (T.s.kept.length ≤ 1000000 ∧ ∀ y ∈ T.s.kept, inI y.val) ∧ (inI T.s.cut.watch.best ∧ inI T.p.plateau.Delta ∧ inI T.s.cut.rest ∧ inI T.s.cut.scale ∧ inI T.p.plateau.Factor) ∧ (inI T.s.stop.best ∧ inI T.p.stop.Delta) ∧ ∀ y ∈ T.x.readings, inI y.val
def lookG : List AV → Mem → Option (AV × Mem)
 | [.ptr r 0], m => turnM r m lookDom Tn.look fun _ => .tup []
 | _, _ => none
theorem look_eq {m0 m : Mem} {r : Nat} {T0 T : Tn} {g0 g : Grow} (h : TAt m0 r T0 g0 T g m) (hd : lookDom T) : lookG [.ptr r 0] m = some (.tup [], putT m r T.look (T.look.events.length - T.events.length) g) :=
 turnM_eq (dom := lookDom) (f := Tn.look) (res := fun _ => .tup []) h hd
theorem keeps_same (T : Tn) (x : Int) : (T.keeps x).x = T.x ∧ (T.keeps x).p = T.p ∧ (T.keeps x).s.cut = T.s.cut ∧ (T.keeps x).s.stop = T.s.stop := by
 unfold Tn.keeps Tn.keepsY
 split
 ·exact ⟨rfl, rfl, rfl, rfl⟩
 ·split
  ·exact ⟨rfl, rfl, rfl, rfl⟩
  ·exact ⟨rfl, rfl, rfl, rfl⟩
theorem cuts_same (T : Tn) (x : Int) : (T.cuts x).x = T.x ∧ (T.cuts x).p = T.p ∧ (T.cuts x).s.stop = T.s.stop := by
 unfold Tn.cuts Tn.cutsY
 split <;> exact ⟨rfl, rfl, rfl⟩
theorem look1_same (T : Tn) : T.look1.x = T.x ∧ T.look1.p = T.p ∧ T.look1.s.cut = T.s.cut ∧ T.look1.s.stop = T.s.stop := by
 unfold Tn.look1
 split
 ·exact keeps_same T _
 ·exact ⟨rfl, rfl, rfl, rfl⟩
theorem look2_same (T : Tn) : T.look2.x = T.x ∧ T.look2.p = T.p ∧ T.look2.s.stop = T.s.stop := by
 unfold Tn.look2
 split
 ·exact cuts_same T _
 ·exact ⟨rfl, rfl, rfl⟩
theorem rd_in {T : Tn} {a : Int} (h : ∀ y ∈ T.x.readings, inI y.val) (hb : (rdP T a).2 = true) : inI (rdP T a).1 := by
 unfold rdP rdOf at hb ⊢
 split at hb
 ·cases hb
 ·rename_i h1
  rw [if_neg h1]
  split at hb
  ·rename_i h2
   rw [if_pos h2]
   exact h _ (getD_in (by omega))
  ·cases hb
def kpLook : Nat → Option (List Nat) := fun
 | 0 => some [0]
 | 1 => some [0, 2, 3]
 | 2 => some [0, 2, 23]
 | 3 => some [0]
 | 4 => some [0, 4, 5]
 | 5 => some [0, 4, 40]
 | 6 => some [0]
 | 7 => some [0, 6, 7]
 | 8 => some [0, 6, 57]
 | 9 => some []
 | _ => none
attribute [go_sem] kpLook
def tabLook : List (FuncId × (List AV → Mem → Option (AV × Mem))) := [(119, missTG), (120, rdOfG), (121, keepsG), (122, cutsG), (123, stopsG)]
theorem look_ok : FunOk Tryz.prog 101 lookG := by
 have hC := table_ok (P := Tryz.prog) (l := tabLook) (table_more missT_ok (table_more rdOf_ok (table_more keeps_ok (table_more cuts_ok (table_more stops_ok table_nil)))))
 have t1 := fun args mm => table_at (l := tabLook) (f := 119) (args := args) (m := mm) rfl
 have t2 := fun args mm => table_at (l := tabLook) (f := 120) (args := args) (m := mm) rfl
 have t3 := fun args mm => table_at (l := tabLook) (f := 121) (args := args) (m := mm) rfl
 have t4 := fun args mm => table_at (l := tabLook) (f := 122) (args := args) (m := mm) rfl
 have t5 := fun args mm => table_at (l := tabLook) (f := 123) (args := args) (m := mm) rfl
 refine fun_okX Tryz.func101 rfl false rfl fun args m r h => ?_
 unfold lookG at h
 split at h
 ·rename_i r0
  obtain ⟨T, g, hT, ⟨hd1, ⟨hk1, hk2⟩, ⟨hc1, hc2, hc3, hc4, hc5⟩, ⟨hs1, hs2⟩, hr⟩, rfl⟩ := turnM_some h
  refine ⟨Nat.le_of_ble_eq_true rfl, fun φ wd => ?_⟩
  refine en ?_
  have hend : T.look = T.miss.look1.look2.look3 := rfl
  have c1 := missT_eq hT hd1
  have hT1 := hT.app (f := Tn.miss) (miss_ev T)
  have hl1 : T.miss.events.length ≤ 11000 := by
   have := missEv_len T (missL T.x.readings).length
   have h2 := missTo_len T.x.readings T.x.readings.length
   show (T.events ++ missEv T (missL T.x.readings).length).length ≤ _
   rw [List.length_append]
   unfold missL at this ⊢
   omega
  have e1 : T.miss.x = T.x ∧ T.miss.p = T.p ∧ T.miss.s = T.s ∧ T.miss.step = T.step := ⟨rfl, rfl, rfl, rfl⟩
  refine xq ?_
  refine x_region (kp := kpLook) mixed hC ?_
  refine go1 (jn @t1 @c1) ?_
  refine xq ?_
  generalize putT m r0 T.miss (T.miss.events.length - T.events.length) g = m1 at hT1
  generalize (growN (T.miss.events.length - T.events.length) g m.toks).1 = g1 at hT1
  generalize T.miss = T1 at hT1 hl1 e1 hend
  obtain ⟨e1x, e1p, e1s, e1t⟩ := e1
  -- keeps
  have a1 := lpTnX hT1.hv
  have a2 := lpTnPKeepAt hT1.hv
  have b1 := rdOf_eq (x := T1.x) (by rw [e1x]; omega) T1.p.keepAt
  rw [show rdOf T1.x T1.p.keepAt = rdP T1 T1.p.keepAt from rfl] at b1
  refine x_walk0 (l2 := kpLook 1) mixed hC (by kernel_rfl) ?_
  refine gof1 (jn @a1 (jn @a2 (jn @t2 @b1))) ?_
  refine xq ?_
  refine x_region (kp := kpLook) mixed hC ?_
  refine go0 ?_
  refine xq ?_
  refine x_cutN (fun e m' F => ∃ g2, TAt m r0 T g T1.look1 g2 m' ∧ Ev.get e 0 = AV.ptr r0 0 ∧ F = []) ?_ ?_
  ·cases hb : (rdP T1 T1.p.keepAt).2 with
   | false =>
    refine x_cond rfl (fun hc => by first | (cases hc; done) | (rw [hb] at hc; cases hc)) (fun hc => ?_)
    refine xq ?_
    exact ⟨g1, by unfold Tn.look1; rw [if_neg (by rw [hb]; decide)]; exact hT1, rfl, rfl⟩
   | true =>
    have hin := rd_in (T := T1) (by rw [e1x]; exact hr) hb
    have ck := keeps_eq (x := (rdP T1 T1.p.keepAt).1) hT1 ⟨⟨by rw [e1s]; exact hk1, hin, by rw [e1s]; exact hk2⟩, by omega⟩
    have hT2 := hT1.app (f := fun T => T.keeps (rdP T1 T1.p.keepAt).1) (by obtain ⟨l, hl, _⟩ := keeps_ev T1 (rdP T1 T1.p.keepAt).1; exact ⟨l, hl⟩)
    refine x_cond rfl (fun hc => ?_) (fun hc => by first | (cases hc; done) | (rw [hb] at hc; cases hc))
    refine xq ?_
    refine x_region (kp := kpLook) mixed hC ?_
    refine go1 (jn @t3 @ck) ?_
    refine xq ?_
    exact ⟨_, by rw [show T1.look1 = T1.keeps (rdP T1 T1.p.keepAt).1 by unfold Tn.look1; rw [if_pos hb]]; exact hT2, rfl, rfl⟩
  rintro e m2 F ⟨g2, hT2, he, rfl⟩
  refine x_drop (some [0]) ?_
  rw [show Ev.restr (some [0]) e = [(0, AV.ptr r0 0)] by simp only [Ev.restr, List.map_cons, List.map_nil, he]]
  obtain ⟨l2, hl2, n2⟩ := look1_ev T1
  have hl2' : T1.look1.events.length ≤ 11002 := by rw [hl2, List.length_append]; omega
  obtain ⟨e2x, e2p, e2c, e2s⟩ := look1_same T1
  rw [e1x] at e2x
  rw [e1p] at e2p
  rw [e1s] at e2c e2s
  clear a1 a2 b1 hT1 c1 he hl2
  generalize T1.look1 = T2 at hT2 hend hl2' e2x e2p e2c e2s
  -- cuts
  have a1 := lpTnX hT2.hv
  have a2 := lpTnPCutAt hT2.hv
  have b1 := rdOf_eq (x := T2.x) (by rw [e2x]; omega) T2.p.cutAt
  rw [show rdOf T2.x T2.p.cutAt = rdP T2 T2.p.cutAt from rfl] at b1
  refine xq ?_
  refine x_walk0 (l2 := kpLook 4) mixed hC (by kernel_rfl) ?_
  refine gof1 (jn @a1 (jn @a2 (jn @t2 @b1))) ?_
  refine xq ?_
  refine x_region (kp := kpLook) mixed hC ?_
  refine go0 ?_
  refine xq ?_
  refine x_cutN (fun e m' F => ∃ g3, TAt m r0 T g T2.look2 g3 m' ∧ Ev.get e 0 = AV.ptr r0 0 ∧ F = []) ?_ ?_
  ·cases hb : (rdP T2 T2.p.cutAt).2 with
   | false =>
    refine x_cond rfl (fun hc => by first | (cases hc; done) | (rw [hb] at hc; cases hc)) (fun hc => ?_)
    refine xq ?_
    exact ⟨g2, by unfold Tn.look2; rw [if_neg (by rw [hb]; decide)]; exact hT2, rfl, rfl⟩
   | true =>
    have hin := rd_in (T := T2) (by rw [e2x]; exact hr) hb
    have ck := cuts_eq (x := (rdP T2 T2.p.cutAt).1) hT2 ⟨⟨⟨hin, by rw [e2c]; exact hc1, by show inI T2.p.plateau.Delta; rw [e2p]; exact hc2⟩, by rw [e2c]; exact hc3, by rw [e2c]; exact hc4, by rw [e2p]; exact hc5⟩, by omega⟩
    have hT3 := hT2.app (f := fun T => T.cuts (rdP T2 T2.p.cutAt).1) (by obtain ⟨l, hl, _⟩ := cuts_ev T2 (rdP T2 T2.p.cutAt).1; exact ⟨l, hl⟩)
    refine x_cond rfl (fun hc => ?_) (fun hc => by first | (cases hc; done) | (rw [hb] at hc; cases hc))
    refine xq ?_
    refine x_region (kp := kpLook) mixed hC ?_
    refine go1 (jn @t4 @ck) ?_
    refine xq ?_
    exact ⟨_, by rw [show T2.look2 = T2.cuts (rdP T2 T2.p.cutAt).1 by unfold Tn.look2; rw [if_pos hb]]; exact hT3, rfl, rfl⟩
  rintro e m3 F ⟨g3, hT3, he, rfl⟩
  refine x_drop (some [0]) ?_
  rw [show Ev.restr (some [0]) e = [(0, AV.ptr r0 0)] by simp only [Ev.restr, List.map_cons, List.map_nil, he]]
  obtain ⟨l3, hl3, n3⟩ := look2_ev T2
  have hl3' : T2.look2.events.length ≤ 11003 := by rw [hl3, List.length_append]; omega
  obtain ⟨e3x, e3p, e3s⟩ := look2_same T2
  rw [e2x] at e3x
  rw [e2p] at e3p
  rw [e2s] at e3s
  clear a1 a2 b1 hT2 he hl3
  generalize T2.look2 = T3 at hT3 hend hl3' e3x e3p e3s
  -- stops
  have a1 := lpTnX hT3.hv
  have a2 := lpTnPStopAt hT3.hv
  have b1 := rdOf_eq (x := T3.x) (by rw [e3x]; omega) T3.p.stopAt
  rw [show rdOf T3.x T3.p.stopAt = rdP T3 T3.p.stopAt from rfl] at b1
  refine xq ?_
  refine x_walk0 (l2 := kpLook 7) mixed hC (by kernel_rfl) ?_
  refine gof1 (jn @a1 (jn @a2 (jn @t2 @b1))) ?_
  refine xq ?_
  refine x_region (kp := kpLook) mixed hC ?_
  refine go0 ?_
  refine xq ?_
  cases hb : (rdP T3 T3.p.stopAt).2 with
  | false =>
   refine x_cond rfl (fun hc => by first | (cases hc; done) | (rw [hb] at hc; cases hc)) (fun hc => ?_)
   refine xq ?_
   exact leaves_turnN (f := Tn.look) rfl (by rw [hend, show T3.look3 = T3 by unfold Tn.look3; rw [if_neg (by rw [hb]; decide)]]; exact hT3)
  | true =>
   have hin := rd_in (T := T3) (by rw [e3x]; exact hr) hb
   have ck := stops_eq (x := (rdP T3 T3.p.stopAt).1) hT3 ⟨⟨hin, by rw [e3s]; exact hs1, by unfold Tn.rule; rw [e3p]; exact hs2⟩, by omega⟩
   have hT4 := hT3.app (f := fun T => T.stops (rdP T3 T3.p.stopAt).1) (by obtain ⟨l, hl, _⟩ := stops_ev T3 (rdP T3 T3.p.stopAt).1; exact ⟨l, hl⟩)
   refine x_cond rfl (fun hc => ?_) (fun hc => by first | (cases hc; done) | (rw [hb] at hc; cases hc))
   refine xq ?_
   refine x_region (kp := kpLook) mixed hC ?_
   refine go1 (jn @t5 @ck) ?_
   refine xq ?_
   exact leaves_turnN (f := Tn.look) rfl (by rw [hend, show T3.look3 = T3.stops (rdP T3 T3.p.stopAt).1 by unfold Tn.look3; rw [if_pos hb]]; exact hT4)
 ·cases h
end
noncomputable section
attribute [local irreducible] Next Inside Runs Ops table
attribute [local irreducible] XRuns XOps XLin XAny
attribute [local go_sem] szStr szInt Option.getD_some isNil evMinMax evFoldI iv fpTnP fpTnS fpTnX fpTnStep fpTnPhase fpTnEvents fpTnPEval fpTnPSteps fpTnSStatus List.cons_append
def lookB (T : Tn) : Bool := decide (T.p.eval > 0) && ((IntKind.i64.wrap (T.step + 1)).tmod T.p.eval == 0)
def Tn.run2 (T : Tn) : Tn := if lookB T = true then T.look else T
def Tn.run3 (T : Tn) : Tn := if (T.step != IntKind.i64.wrap (T.p.steps - 1)) = true then T else if ((T.tell 11 0).s.status == 0) = true then (T.tell 11 0).stat 1 else T.tell 11 0
def Tn.run (T : Tn) : Tn := if T.begins.wts.2 = true then T.begins.wts.1.run2.run3 else T.begins.wts.1.stat 3
def runDom (T : Tn) : Prop := begDom T ∧ (T.s.swa.sums.length ≤ 1000000 ∧ T.x.weights.length ≤ 1000000) ∧ emaDom T.s.ema T.x.weights ∧ T.x.readings.length ≤ 1000 ∧ (T.s.kept.length ≤ 1000000 ∧ ∀ y ∈ T.s.kept, inI y.val) ∧ (inI T.s.cut.watch.best ∧ inI T.p.plateau.Delta ∧ inI T.s.cut.rest ∧ inI T.s.cut.scale ∧ inI T.p.plateau.Factor) ∧ (inI T.s.stop.best ∧ inI T.p.stop.Delta) ∧ ∀ y ∈ T.x.readings, inI y.val
theorem wts_same (T : Tn) : T.wts.1.x = T.x ∧ T.wts.1.p = T.p ∧ T.wts.1.s.kept = T.s.kept ∧ T.wts.1.s.cut = T.s.cut ∧ T.wts.1.s.stop = T.s.stop ∧ T.wts.1.step = T.step := by
 have he : ∀ U : Tn, U.emaT.x = U.x ∧ U.emaT.p = U.p ∧ U.emaT.s.kept = U.s.kept ∧ U.emaT.s.cut = U.s.cut ∧ U.emaT.s.stop = U.s.stop ∧ U.emaT.step = U.step := fun U => by
  unfold Tn.emaT
  split <;> exact ⟨rfl, rfl, rfl, rfl, rfl, rfl⟩
 unfold Tn.wts
 split
 ·split
  ·exact ⟨rfl, rfl, rfl, rfl, rfl, rfl⟩
  ·exact he _
 ·exact he T
theorem begL_len {T : Tn} (h : frN T ≤ 8) : (begL T).length ≤ 17 := by
 have h1 := evFr_len T false (frN T)
 have h2 := evFr_len T true (frN T)
 unfold begL
 split
 ·show (([_] ++ _) ++ _ : List Evt).length ≤ 17
  simp only [List.length_append, List.length_cons, List.length_nil]
  omega
 ·exact Nat.zero_le _
theorem run2_ev (T : Tn) : ∃ l, T.run2.events = T.events ++ l := by
 unfold Tn.run2
 split
 ·obtain ⟨l, h, _⟩ := look_ev T
  exact ⟨l, h⟩
 ·exact ⟨[], (List.append_nil _).symm⟩
theorem run3_ev (T : Tn) : ∃ l, T.run3.events = T.events ++ l := by
 unfold Tn.run3
 split
 ·exact ⟨[], (List.append_nil _).symm⟩
 ·split
  ·exact ⟨[⟨T.step, 11, 0⟩], rfl⟩
  ·exact ⟨[⟨T.step, 11, 0⟩], rfl⟩
theorem run_ev (T : Tn) : ∃ l, T.run.events = T.events ++ l := by
 obtain ⟨l1, h1, _⟩ := wts_events T.begins
 unfold Tn.run
 split
 ·obtain ⟨l2, h2⟩ := run2_ev T.begins.wts.1
  obtain ⟨l3, h3⟩ := run3_ev T.begins.wts.1.run2
  exact ⟨begL T ++ (l1 ++ (l2 ++ l3)), by rw [h3, h2, h1]; show ((T.events ++ begL T) ++ l1) ++ l2 ++ l3 = _; simp⟩
 ·exact ⟨begL T ++ l1, by show T.begins.wts.1.events = _; rw [h1]; show (T.events ++ begL T) ++ l1 = _; simp⟩
def runG : List AV → Mem → Option (AV × Mem)
 | [.ptr r 0], m => turnM r m runDom Tn.run fun _ => .tup []
 | _, _ => none
theorem run_eq {m0 m : Mem} {r : Nat} {T0 T : Tn} {g0 g : Grow} (h : TAt m0 r T0 g0 T g m) (hd : runDom T) : runG [.ptr r 0] m = some (.tup [], putT m r T.run (T.run.events.length - T.events.length) g) :=
 turnM_eq (dom := runDom) (f := Tn.run) (res := fun _ => .tup []) h hd
def kpRun : Nat → Option (List Nat) := fun
 | 0 => some [0]
 | 1 => some [0, 6]
 | 2 => some []
 | 3 => some [0, 28]
 | 4 => some [0]
 | 5 => some [0, 41]
 | 6 => some [0]
 | 7 => some [0, 49]
 | 8 => some []
 | _ => none
attribute [go_sem] kpRun
def tabRun : List (FuncId × (List AV → Mem → Option (AV × Mem))) := [(98, beginsG), (99, wtsG), (100, endG), (101, lookG), (102, tellG)]
theorem run_ok' : FunOk Tryz.prog 70 runG := by
 have hC := table_ok (P := Tryz.prog) (l := tabRun) (table_more begins_ok (table_more wts_ok (table_more end_ok (table_more look_ok (table_more tell_ok table_nil)))))
 have t1 := fun args mm => table_at (l := tabRun) (f := 98) (args := args) (m := mm) rfl
 have t2 := fun args mm => table_at (l := tabRun) (f := 99) (args := args) (m := mm) rfl
 have t3 := fun args mm => table_at (l := tabRun) (f := 100) (args := args) (m := mm) rfl
 have t4 := fun args mm => table_at (l := tabRun) (f := 101) (args := args) (m := mm) rfl
 have t5 := fun args mm => table_at (l := tabRun) (f := 102) (args := args) (m := mm) rfl
 refine fun_okX Tryz.func70 rfl false rfl fun args m r h => ?_
 unfold runG at h
 split at h
 ·rename_i r0
  obtain ⟨T, g, hT, ⟨hb, hw1, hw2, hx, hk, hcu, hs, hr⟩, rfl⟩ := turnM_some h
  refine ⟨Nat.le_of_ble_eq_true rfl, fun φ wd => ?_⟩
  refine en ?_
  have hend : T.run = if T.begins.wts.2 = true then T.begins.wts.1.run2.run3 else T.begins.wts.1.stat 3 := rfl
  have hfr : frN T ≤ 8 := by
   obtain ⟨⟨p0, p1, p2, p3⟩, q1, q2, q3⟩ := hb
   have := q1 T.phase.toNat (by omega)
   unfold frN
   omega
  have hbl := begL_len hfr
  have hl1 : T.begins.events.length ≤ 1017 := by
   show (T.events ++ begL T).length ≤ _
   rw [List.length_append]
   have := hb.2.2.2
   omega
  have c1 := begins_eq hT hb
  have hT1 := hT.addE (begL T)
  rw [show T.addE (begL T) = T.begins from rfl] at hT1
  refine xq ?_
  refine x_region (kp := kpRun) mixed hC ?_
  refine go1 (jn @t1 @c1) ?_
  refine xq ?_
  generalize putT m r0 T.begins (begL T).length g = m1 at hT1
  generalize (growN (begL T).length g m.toks).1 = g1 at hT1
  have e1 : T.begins.x = T.x ∧ T.begins.p = T.p ∧ T.begins.s = T.s ∧ T.begins.step = T.step := ⟨rfl, rfl, rfl, rfl⟩
  generalize T.begins = T1 at hT1 hl1 e1 hend
  obtain ⟨e1x, e1p, e1s, e1t⟩ := e1
  have c2 := wts_eq hT1 ⟨by rw [e1s, e1x]; exact hw1, by rw [e1s, e1x]; exact hw2, by unfold evLim; omega⟩
  have hT2 := hT1.wts
  have hl2 : T1.wts.1.events.length ≤ 1018 := by
   obtain ⟨l, hl, hn⟩ := wts_events T1
   rw [hl, List.length_append]
   omega
  refine x_region (kp := kpRun) mixed hC ?_
  refine go1 (jn @t2 @c2) ?_
  refine xq ?_
  generalize putT m1 r0 T1.wts.1 (T1.wts.1.events.length - T1.events.length) g1 = m2 at hT2
  generalize (growN (T1.wts.1.events.length - T1.events.length) g1 m1.toks).1 = g2 at hT2
  have e2 := wts_same T1
  rw [e1x, e1p, e1s, e1t] at e2
  clear c1 c2 hT1
  generalize T1.wts = Y at hT2 hl2 e2 hend
  obtain ⟨T2, B⟩ := Y
  dsimp only at hT2 hl2 e2 hend
  obtain ⟨e2x, e2p, e2k, e2c, e2s, e2t⟩ := e2
  cases B with
  | false =>
   rw [if_neg (by decide)] at hend
   have c3 := end_eq hT2 3
   have hT3 := hT2.stat 3
   refine x_cond rfl (fun hc => ?_) (fun hc => by cases hc)
   refine xq ?_
   refine x_region (kp := kpRun) mixed hC ?_
   refine go1 (jn @t3 @c3) ?_
   refine xq ?_
   exact leaves_turn (f := Tn.run) rfl (by rw [hend]; exact hT3)
  | true =>
   rw [if_pos rfl] at hend
   refine x_cond rfl (fun hc => by cases hc) (fun hc => ?_)
   have l1 := lpTnPEval hT2.hv
   have l2 := lpTnStep hT2.hv
   refine xq ?_
   refine x_cutN (fun e m' F => Ev.restr (some [0, 28]) e = [(0, AV.ptr r0 0), (28, .v (.bool (lookB T2)))] ∧ m' = m2 ∧ F = []) ?_ ?_
   ·unfold lookB
    cases h1 : decide (T2.p.eval > 0) with
    | false =>
     refine x_walk0 (l2 := kpRun 3) mixed hC (by kernel_rfl) ?_
     refine gof1 (jn @l1 @h1) ?_
     refine xq ?_
     exact ⟨rfl, rfl, rfl⟩
    | true =>
     have hz : (T2.p.eval = 0) = False := eq_false (by have := of_decide_eq_true h1; omega)
     refine x_walk0 (l2 := kpRun 3) mixed hC (by kernel_rfl) ?_
     refine gof1 (jn @l1 (jn @l2 (jn @h1 @hz))) ?_
     refine xq ?_
     exact ⟨rfl, rfl, rfl⟩
   rintro e m' F ⟨he, rfl, rfl⟩
   refine x_drop (some [0, 28]) ?_
   rw [he]
   refine xq ?_
   refine x_cutN (fun e m' F => ∃ g3, TAt m r0 T g T2.run2 g3 m' ∧ Ev.get e 0 = AV.ptr r0 0 ∧ F = []) ?_ ?_
   ·cases hb : lookB T2 with
    | false =>
     refine x_cond rfl (fun hc => by first | (cases hc; done) | (rw [hb] at hc; cases hc)) (fun hc => ?_)
     refine xq ?_
     exact ⟨g2, by unfold Tn.run2; rw [if_neg (by rw [hb]; decide)]; exact hT2, rfl, rfl⟩
    | true =>
     have ck := look_eq hT2 ⟨⟨by rw [e2x]; exact hx, by omega⟩, by rw [e2k]; exact hk, ⟨by rw [e2c]; exact hcu.1, by rw [e2p]; exact hcu.2.1, by rw [e2c]; exact hcu.2.2.1, by rw [e2c]; exact hcu.2.2.2.1, by rw [e2p]; exact hcu.2.2.2.2⟩, ⟨by rw [e2s]; exact hs.1, by rw [e2p]; exact hs.2⟩, by rw [e2x]; exact hr⟩
     have hT3 := hT2.app (f := Tn.look) (by obtain ⟨l, hl, _⟩ := look_ev T2; exact ⟨l, hl⟩)
     refine x_cond rfl (fun hc => ?_) (fun hc => by first | (cases hc; done) | (rw [hb] at hc; cases hc))
     refine xq ?_
     refine x_region (kp := kpRun) mixed hC ?_
     refine go1 (jn @t4 @ck) ?_
     refine xq ?_
     exact ⟨_, by rw [show T2.run2 = T2.look by unfold Tn.run2; rw [if_pos hb]]; exact hT3, rfl, rfl⟩
   rintro e m3 F ⟨g3, hT3, he2, rfl⟩
   refine x_drop (some [0]) ?_
   rw [show Ev.restr (some [0]) e = [(0, AV.ptr r0 0)] by simp only [Ev.restr, List.map_cons, List.map_nil, he2]]
   have hl3 : T2.run2.events.length ≤ 1000 + 3000 := by
    unfold Tn.run2
    split
    ·obtain ⟨l, hl, hn⟩ := look_ev T2
     have := missTo_len T2.x.readings T2.x.readings.length
     unfold missL at hn
     rw [e2x] at this hn
     rw [hl, List.length_append]
     omega
    ·omega
   clear l1 l2 hT2 he2 he
   generalize T2.run2 = T3 at hT3 hend hl3
   have l1 := lpTnStep hT3.hv
   have l2 := lpTnPSteps hT3.hv
   have c5 := tell_eq hT3 (by unfold evLim; omega) 11 0
   have hT5 := hT3.tell 11 0
   unfold Tn.run3 at hend
   refine xq ?_
   refine x_walk0 (l2 := kpRun 5) mixed hC (by kernel_rfl) ?_
   refine gof1 (jn @l1 @l2) ?_
   refine xq ?_
   refine x_cond rfl (fun hc => ?_) (fun hc => ?_)
   ·rw [if_pos hc] at hend
    refine xq ?_
    exact leaves_turn (f := Tn.run) rfl (by rw [hend]; exact hT3)
   ·rw [if_neg (by rw [hc]; decide)] at hend
    refine xq ?_
    refine x_region (kp := kpRun) mixed hC ?_
    refine go1 (jn @t5 @c5) ?_
    refine xq ?_
    generalize putT m3 r0 (T3.tell 11 0) 1 g3 = m5 at hT5
    generalize (growN 1 g3 m3.toks).1 = g5 at hT5
    have l3 := lpTnSStatus hT5.hv
    have c6 := end_eq hT5 1
    have hT6 := hT5.stat 1
    refine x_region (kp := kpRun) mixed hC ?_
    refine go1 @l3 ?_
    refine xq ?_
    refine x_cond rfl (fun hc => ?_) (fun hc => ?_)
    ·rw [if_pos hc] at hend
     refine xq ?_
     refine x_region (kp := kpRun) mixed hC ?_
     refine go1 (jn @t3 @c6) ?_
     refine xq ?_
     exact leaves_turnN (f := Tn.run) rfl (by rw [hend]; exact hT6)
    ·rw [if_neg (by rw [hc]; decide)] at hend
     refine xq ?_
     exact leaves_turnN (f := Tn.run) rfl (by rw [hend]; exact hT5)
 ·cases h
end
end Go.Proofs.YtmockbddhhmmeaaGreat.Ev
