/- The law WholeBest, walked. -/
import Derived.Test.YtmockbddhhmmeaaGreatMbmkl15
import Derived.Test.YtmockbddhhmmeaaGreatRows
import Derived.KernelRfl
namespace Go.Proofs.YtmockbddhhmmeaaGreat.Ev
open Go Go.Proofs
set_option maxRecDepth 10000
set_option maxHeartbeats 8000000
set_option linter.unusedVariables false
set_option linter.unusedSimpArgs false
noncomputable section
attribute [local irreducible] Next Inside Runs Ops table
attribute [local irreducible] XRuns XOps XLin XAny
attribute [local go_sem] szStr szInt Option.getD_some isNil evMinMax evFoldI iv mapPn mapSs mzSs cellsPn cellsSs newPn newSs List.cons_append zrSs zoSs znSs szSs mk0Ss fpPnKeepAt fpPnKeep fpPnKeepCount fpPnKeepMax fpSsKept rowsKt_len rowsIn_len
theorem lightP_fit {p : Pn} (h : lightPB p = true) : p.fit := by
 unfold lightPB liC at h
 simp only [Bool.and_eq_true, Bool.not_eq_true', decide_eq_true_eq] at h
 obtain ⟨h1, h2, h3, h4, h5, _⟩ := h
 refine ⟨by omega, by omega, by omega, fun t ht => ?_⟩
 obtain ⟨i, hi⟩ := List.getElem?_of_mem ht
 have hlt := (List.getElem?_eq_some_iff.1 hi).1
 have := List.any_eq_false.1 h1 i (List.mem_range.2 (by omega))
 unfold liA at this
 have e : p.tracks.getD i tk0 = t := by rw [List.getD, hi]; rfl
 rw [e] at this
 simp only [decide_eq_true_eq] at this
 omega
theorem small_facts {p : Pn} {s : Ss} {l : List In} (h : smallB p s l = true) : p.fit ∧ l.length ≤ 60 ∧ p.steps ≤ 300 ∧ ∀ x ∈ l, x.readings.length ≤ 30 ∧ x.weights.length ≤ 30 := by
 unfold smallB at h
 simp only [Bool.and_eq_true, Bool.not_eq_true', decide_eq_false_iff_not] at h
 obtain ⟨h1, _, h3, h4, h5⟩ := h
 refine ⟨lightP_fit h1, by omega, by omega, fun x hx => ?_⟩
 obtain ⟨i, hi⟩ := List.getElem?_of_mem hx
 have hlt := (List.getElem?_eq_some_iff.1 hi).1
 have := List.any_eq_false.1 h5 i (List.mem_range.2 hlt)
 unfold bigIn at this
 have e : l.getD i in0 = x := by rw [List.getD, hi]; rfl
 rw [e] at this
 simp only [Bool.or_eq_true, decide_eq_true_eq, not_or] at this
 omega
theorem small_dom {p : Pn} {s : Ss} {l : List In} (hp : pnT p) (hl : ∀ x ∈ l, inT x) (h : smallB p s l = true) : allDom p l := by
 obtain ⟨h1, h2, _, h3⟩ := small_facts h
 exact ⟨⟨h1, hp.1, hp.2.1, hp.2.2.1, hp.2.2.2⟩, by omega, fun x hx => ⟨⟨by have := h3 x hx; omega, by have := h3 x hx; omega⟩, (hl x hx).1, (hl x hx).2⟩⟩
theorem stSs {m : Mem} {x : Ss} : evStore Tryz.prog (m.push zeroSs) 46 (.ptr m.vars.length 0) (.agg x.row) = some (m.push x.row) := by
 rw [store_push (cs := x.row) rfl szSs (Nat.le_refl _) rfl]
 rfl
theorem slIn {m : Mem} {g : Grow} {l : List In} {k : Nat} (hk : k ≤ l.length) : evSlice Tryz.prog m 35 (.lst g 2 (rowsIn l)) none (some (.v (.int .i64 (k : Int)))) none = some (.lst .no 2 (rowsIn (l.take k))) := by
 unfold evSlice
 simp only [elIn, szIn, evBound, rowsIn_len]
 show (if 2 = 2 ∧ 0 ≤ k ∧ k ≤ l.length then _ else _) = _
 rw [if_pos ⟨rfl, Nat.zero_le _, hk⟩, List.drop_zero, rowsIn_take]
 rfl
open Classical in
def wBestG : List AV → Mem → Option (AV × Mem)
 | [.agg ps, .lst _ 2 rows], m =>
  match unPn ps, unsIn rows with
  | some p, some l => if pnT p ∧ ∀ x ∈ l, inT x then some (.v (.bool true), m) else none
  | _, _ => none
 | _, _ => none
def kpWBest : Nat → Option (List Nat) := fun
 | 0 => some [1, 2]
 | 1 => some [1, 2, 14]
 | 2 => some [4]
 | 3 => some [1, 2, 6, 7]
 | 4 => some [1, 2, 6, 7, 29]
 | 5 => some [4]
 | 6 => some [1, 2, 6, 8]
 | 7 => some [2, 6, 9]
 | 8 => some [4]
 | _ => none
attribute [go_sem] kpWBest
def tabWBest : List (FuncId × (List AV → Mem → Option (AV × Mem))) := [(6, smallG), (7, yesG), (8, allG), (11, takenVG), (9, seenLG), (13, bestRG), (12, sameKG)]
theorem wBest_ok : FunOk Tryz.prog 4 wBestG := by
 have hC := table_ok (P := Tryz.prog) (l := tabWBest) (table_more small_ok (table_more stopped_ok (table_more all_ok (table_more takenR_ok (table_more seenT_ok (table_more bestR_ok (table_more sameK_ok table_nil)))))))
 have t1 := fun args mm => table_at (l := tabWBest) (f := 6) (args := args) (m := mm) rfl
 have t2 := fun args mm => table_at (l := tabWBest) (f := 7) (args := args) (m := mm) rfl
 have t3 := fun args mm => table_at (l := tabWBest) (f := 8) (args := args) (m := mm) rfl
 have t4 := fun args mm => table_at (l := tabWBest) (f := 11) (args := args) (m := mm) rfl
 have t5 := fun args mm => table_at (l := tabWBest) (f := 9) (args := args) (m := mm) rfl
 have t6 := fun args mm => table_at (l := tabWBest) (f := 13) (args := args) (m := mm) rfl
 have t7 := fun args mm => table_at (l := tabWBest) (f := 12) (args := args) (m := mm) rfl
 refine fun_okX Tryz.func4 rfl false rfl fun args m r h => ?_
 unfold wBestG at h
 split at h
 ·rename_i ps gl rows
  split at h
  ·rename_i p l hp0 hl0
   obtain rfl := unPn_some hp0
   obtain rfl := unsIn_some hl0
   split at h
   ·rename_i hd
    obtain ⟨hp, hl⟩ := hd
    simp only [Option.some.injEq] at h
    subst h
    refine ⟨Nat.le_of_ble_eq_true rfl, fun φ wd => ?_⟩
    refine en ?_
    have v2 : (m.push p.row).var m.vars.length = some p.row := push_var
    have hA := above_push (cs := p.row) (above_self m)
    have cy := yes_eq
    refine xq ?_
    refine x_region (kp := kpWBest) mixed hC ?_
    refine go0 ?_
    refine xq ?_
    generalize m.push p.row = m2 at v2 hA
    generalize m.vars.length = r2 at v2
    have l1 := vrPn v2
    have l2 := lpPnKeepAt v2
    have l3 := lpPnKeepCount v2
    have l4 := lpPnKeepMax v2
    have c1 := small_eq p ss0 l .no
    have k1 : (!true) = false := rfl
    have k2 : (!false) = true := rfl
    cases hs : smallB p ss0 l with
    | false =>
     rw [hs] at c1
     refine x_region (kp := kpWBest) mixed hC ?_
     refine go1 (jn @l1 (jn @t1 (jn @c1 @k2))) ?_
     refine xq ?_
     refine x_cond rfl (fun hc => ?_) (fun hc => by cases hc)
     refine xq ?_
     refine x_region (kp := kpWBest) mixed hC ?_
     refine go1 (jn @t2 @cy) ?_
     refine xq ?_
     exact x_leaves (leaves_fin rfl rfl (above_fin hA))
    | true =>
     rw [hs] at c1
     obtain ⟨_, hl60, _, _⟩ := small_facts hs
     have c3 := all_eq (g := .no) (small_dom hp hl hs)
     have hbest := kept_best (p := p) (l := l)
     generalize allV p l = Y at c3 hbest
     obtain ⟨S, T, E⟩ := Y
     dsimp only at c3 hbest
     refine x_region (kp := kpWBest) mixed hC ?_
     refine go1 (jn @l1 (jn @t1 (jn @c1 @k1))) ?_
     refine xq ?_
     refine x_cond rfl (fun hc => by cases hc) (fun hc => ?_)
     have st := stSs (m := m2) (x := S)
     have v6 : (m2.push S.row).var m2.vars.length = some S.row := push_var
     have u2 := push_old (cs' := S.row) v2
     have hA3 := above_push (cs := S.row) hA
     refine xq ?_
     refine x_region (kp := kpWBest) mixed hC ?_
     refine go1 (jn @l1 (jn @t3 (jn @c3 @st))) ?_
     refine xq ?_
     generalize m2.push S.row = m3 at v6 u2 hA3 ⊢
     generalize m2.vars.length = r6 at v6 ⊢
     clear l1 l2 l3 l4
     have l1 := vrPn u2
     have l2 := lpPnKeepAt u2
     have l3 := lpPnKeepCount u2
     have l4 := lpPnKeepMax u2
     have l5 := lpSsKept v6
     have l6 := vrSs v6
     cases he : (E != 0) with
     | true =>
      refine x_region (kp := kpWBest) mixed hC ?_
      refine go1 @he ?_
      refine xq ?_
      refine x_cond rfl (fun hc => ?_) (fun hc => by cases hc)
      refine xq ?_
      refine x_region (kp := kpWBest) mixed hC ?_
      refine go1 (jn @he (jn @t2 @cy)) ?_
      refine xq ?_
      exact x_leaves (leaves_fin rfl rfl (above_fin hA3))
     | false =>
      have hE : E = 0 := by simpa using he
      obtain ⟨n, hn, ht, _, hk⟩ := hbest hE
      rcases hk with ⟨hk, hkept⟩ | ⟨hk, hka, hkept, ⟨hkc, hkc16⟩, hkl⟩
      ·have q1 : decide (p.keepAt < 0) = true := decide_eq_true hk
       rw [hkept] at l5
       have q2 : (((([] : List Kt).length : Nat) : Int) == 0) = true := rfl
       refine x_region (kp := kpWBest) mixed hC ?_
       refine go1 (jn @he (jn @l2 @q1)) ?_
       refine xq ?_
       refine x_cond rfl (fun hc => ?_) (fun hc => by cases hc)
       refine xq ?_
       refine x_region (kp := kpWBest) mixed hC ?_
       refine go1 (jn @he (jn @l5 (jn @q2 (jn @t2 @cy)))) ?_
       refine xq ?_
       exact x_leaves (leaves_fin rfl rfl (above_fin hA3))
      ·have q1 : decide (p.keepAt < 0) = false := decide_eq_false hk
       refine x_region (kp := kpWBest) mixed hC ?_
       refine go1 (jn @he (jn @l2 @q1)) ?_
       refine xq ?_
       refine x_cond rfl (fun hc => by cases hc) (fun hc => ?_)
       have c4 := takenV_eq S
       rw [ht] at c4
       refine xq ?_
       refine x_region (kp := kpWBest) mixed hC ?_
       refine go1 (jn @l6 (jn @t4 @c4)) ?_
       refine xq ?_
       have sl := fun mm => slIn (m := mm) (g := gl) hn
       have c5 := seenT_eq (p := p) (a := p.keepAt) (l := l.take n) (g := .no) ⟨by rw [List.length_take]; omega, hka⟩
       have c6 := bestR_eq (l := seenL p p.keepAt (l.take n)) (cnt := p.keep.Count) (most := p.keep.Max) (g := .no) (by omega)
       have hsame : S.kept = bestRL (seenL p p.keepAt (l.take n)) p.keep.Count p.keep.Max := hkept
       have c7 := sameK_eq (g := .no) (g2 := .no) hsame (by have : (S.kept.length : Int) ≤ p.keep.Count := hkc; have h2 : p.keep.Count ≤ 16 := hkc16; omega)
       generalize bestRL (seenL p p.keepAt (l.take n)) p.keep.Count p.keep.Max = bb at c6 c7
       generalize seenL p p.keepAt (l.take n) = sn at c5 c6
       have q3 : decide ((S.kept.length : Int) ≤ p.keep.Count) = true := decide_eq_true hkc
       refine x_walk0 (l2 := kpWBest 7) mixed hC (by kernel_rfl) ?_
       refine gof1 (jn @l1 (jn @l2 (jn @sl (jn @t5 @c5)))) ?_
       refine xq ?_
       refine x_walk0 (l2 := kpWBest 8) mixed hC (by kernel_rfl) ?_
       refine gof1 (jn @l5 (jn @l3 (jn @l4 (jn @t6 (jn @c6 (jn @t7 (jn @c7 (jn @q3 (jn @t2 @cy))))))))) ?_
       refine xq ?_
       exact x_leaves (leaves_fin rfl rfl (above_fin hA3))
   ·cases h
  ·cases h
 ·cases h
end
end Go.Proofs.YtmockbddhhmmeaaGreat.Ev
namespace Go.Proofs.YtmockbddhhmmeaaGreat.wholeBest
open Go Go.Proofs Go.ChangeShapes Go.WideShapes Go.ChangeAt Go.RowKit
set_option linter.unusedVariables false
theorem own : ownKnob Tryz.prog.godebug = none := by kernel_rfl
theorem laid : laidOutB Tryz.prog = true := by kernel_rfl
theorem same_left {H : Type} : ∀ ds : List (DataW H), ds.length = 2 → Rows.wholeBestSpec.fn H ds = { results := [.lit (.bool true)], args := ds }
 | [d0, d1], _ => rfl
set_option maxRecDepth 100000 in
theorem holds_at : ∀ vs, Ev.TypedAll Tryz.prog 12 [34, 35] vs → ∃ m', Ev.wBestG vs ⟨[], []⟩ = some (.v (.bool true), m') := by
 rintro (_ | ⟨a, _ | ⟨b, _ | ⟨x, r⟩⟩⟩) h
 ·exact h.elim
 ·exact h.2.elim
 ·obtain ⟨h0, h1, _⟩ := h
  obtain ⟨p, hp, rfl⟩ := Ev.arg_pn h0
  obtain ⟨l, hl, rfl⟩ := Ev.arg_ins h1
  refine ⟨⟨[], []⟩, ?_⟩
  simp only [Ev.wBestG, Ev.unPn_row, Ev.unsIn_rowsIn]
  exact if_pos ⟨hp, hl⟩
 ·exact h.2.2.elim
set_option maxRecDepth 100000 in
theorem lifted (os : Os) (started : os.Started) (H : Type) (enc : TypeId × Value → H) :
  ReturnsInHanded {} Tryz.checked os 4 .any (Rows.wholeBestSpec.pre6 enc Tryz.prog Tryz.f4 Rows.wholeBestRow.domain false) (Rows.wholeBestSpec.post enc Tryz.prog Tryz.f4 false true false false) :=
 Ev.law_lifted (C := Tryz.checked) own started (by kernel_rfl) Tryz.func4
  (ChangeSpec.witness6 (enc := enc) (C := Tryz.checked) false ⟨#[], #[.agg #[.int .i64 0, .int .i64 0, .int .i64 0, .int .i64 0, .int .i64 0, .slice none 0 0, .slice none 0 0, .slice none 0 0, .bool false, .string ⟨#[]⟩, .bool false, .int .i64 0, .int .i64 0, .bool false, .bool false, .string ⟨#[]⟩, .bool false, .int .i64 0, .int .i64 0, .int .i64 0, .int .i64 0, .int .i64 0, .bool false, .string ⟨#[]⟩, .bool false, .int .i64 0, .bool false, .int .i64 0, .int .i64 0, .int .i64 0, .int .i64 0, .int .i64 0, .int .i64 0], .slice none 0 0], []⟩ 4 (by kernel_rfl) (by kernel_rfl) (by kernel_rfl) (by kernel_rfl))
  laid rfl [34, 35] Tryz.params4 12 (by kernel_rfl) (tb := 4) rfl Tryz.underlying4 same_left Ev.wBest_ok holds_at
theorem over : Rows.wholeBestRow.holds Tryz.pinned (OpenSpec.ofChange Rows.wholeBestSpec) :=
 OpenClaim.holds_of_wide 4 Tryz.f4 rfl rfl rfl rfl rfl rfl rfl ⟨rfl, rfl, rfl, rfl, rfl⟩ rfl rfl rfl rfl rfl (by kernel_rfl) Tryz.func4 (by kernel_rfl)
  (of_decide_eq_true (by kernel_rfl)) (by unfold Func.isWrapper; first | (rw [if_pos (by decide +kernel)]; kernel_rfl) | (rw [if_neg (by decide +kernel)]; exact ⟨rfl, rfl⟩))
  (fun os started H enc _ => lifted os started H enc)
theorem proved : Rows.WholeBestSaid := over
end Go.Proofs.YtmockbddhhmmeaaGreat.wholeBest
namespace Go.Proofs.YtmockbddhhmmeaaGreat
/-- The row, under a short name, for the claim. -/
theorem wholeBest_holds : Rows.WholeBestSaid := wholeBest.proved
end Go.Proofs.YtmockbddhhmmeaaGreat
