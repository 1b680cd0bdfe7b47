/- The timetable: which groups are frozen, which ones turn. -/
import Derived.Test.YtojaokhkbmiidaaGreatMbcln4
import Derived.Test.YtojaokhkbmiidaaGreatMbcln3
import Derived.Test.YtojaokhkbmiidaaGreatMbcln1
import Derived.Test.YtojaokhkbmiidaaGreatMa2
namespace Go.Proofs.YtojaokhkbmiidaaGreat.Ev
open Go Go.Proofs
set_option maxRecDepth 10000
set_option maxHeartbeats 8000000
set_option linter.unusedVariables false
set_option linter.unusedSimpArgs false
attribute [local irreducible] Next Inside Runs Ops table
attribute [local go_sem] szStr szInt szBool Option.getD_some isNil evStr iv loadStr loadInt rowsS_len rowsPh_len rowsBo_len rowsI_len mapRc cellsRc newRc fpRcGroups fpRcPhases fePhFrozen lePhFrozen ldBool mkInts1
def frozenAt (R : Rc) (p : Int) : List Bool := if 0 ≤ p ∧ p < (R.phases.length : Int) then R.groups.map fun g => among (R.phases.getD p.toNat ph0).frozen g else []
def frozenPG : List AV → Mem → Option (AV × Mem)
  | [.agg cs, .v (.int .i64 p)], m =>
    match unRc cs with
    | some R => if R.small then some (.lst .no 1 (rowsBo (frozenAt R p)), m) else none
    | none => none
  | _, _ => none
theorem frozenPG_at {R : Rc} {p : Int} {m : Mem} (h : R.small) : frozenPG [.agg R.row, .v (.int .i64 p)] m = some (.lst .no 1 (rowsBo (frozenAt R p)), m) := by
  simp only [frozenPG, unRc_row]
  rw [if_pos h]
theorem setB_var_ne {m : Mem} {r q : Nat} {b : List Bool} {cs : List AV} (hq : q ≠ r) (hv : m.var q = some cs) : (setB m r b).var q = some cs := var_set_ne hq hv
theorem above_setB {m m' : Mem} {r : Nat} {b : List Bool} (h : Above m m') (hr : m.vars.length ≤ r) : Above m (setB m' r b) := by
  obtain ⟨L, rfl⟩ := h
  refine ⟨L.set (r - m.vars.length) (some (bC b)), ?_⟩
  unfold setB
  simp only [List.set_append]
  rw [if_neg (by omega)]
theorem set_fill {α : Type} {d x : α} {l : List α} {i : Nat} (hi : i < l.length) (hx : l.getD i d = x) (n : Nat) (hn : i < n) (z : α) : (l.take i ++ List.replicate (n - i) z).set i x = l.take (i + 1) ++ List.replicate (n - (i + 1)) z := by
  have hl : (l.take i).length = i := by rw [List.length_take]; omega
  obtain ⟨k, hk⟩ : ∃ k, n - i = k + 1 := ⟨n - i - 1, by omega⟩
  rw [List.set_append, if_neg (by omega), hl, Nat.sub_self, hk, List.replicate_succ, List.set_cons_zero, take_next (d := d) hi, hx, List.append_assoc]
  rw [show n - (i + 1) = k by omega]
  rfl
def kpFrozenP : Nat → Option (List Nat) := fun
  | 0 => some [1, 2]
  | 1 => some [1, 2, 16]
  | 2 => some [4]
  | 3 => some [1, 2, 5]
  | 4 => some [1, 2, 5, 22, 23, 24]
  | 5 => some [1, 2, 5, 22, 23, 24, 25]
  | 6 => some [1, 2, 5, 6, 7, 22, 23, 24]
  | 7 => some [1, 2, 5, 22, 23, 24]
  | 8 => some [1, 2, 5, 22, 23, 24]
  | 9 => some [4]
  | _ => none
attribute [go_sem] kpFrozenP
def tab_frozenP_ok : List (FuncId × (List AV → Mem → Option (AV × Mem))) := [(132, amongG)]
theorem frozenP_ok : FunOk Tryz.prog 103 frozenPG := by
  have hC := table_ok (P := Tryz.prog) (l := tab_frozenP_ok) (table_more among_ok table_nil)
  have t1 := fun args mm => table_at (l := tab_frozenP_ok) (f := 132) (args := args) (m := mm) rfl
  refine fun_ok mixed hC Tryz.func103 rfl kpFrozenP false rfl fun args m r h => ?_
  unfold frozenPG at h
  split at h
  · rename_i cs p
    split at h
    · rename_i R hR
      obtain rfl := unRc_some hR
      split at h
      · rename_i hsm
        simp only [Option.some.injEq] at h
        subst h
        refine ⟨Nat.le_of_ble_eq_true rfl, ?_⟩
        simp only [entry, List.length_cons, List.length_nil, List.range, List.range.loop, List.zip_cons_cons, List.zip_nil_right]
        have hG64 := hsm.2.1
        have hA := above_push (cs := R.row) (above_self m)
        have hv : (m.push R.row).var m.vars.length = some R.row := push_var
        have nr := newRc (m := m) (x := R)
        have hlen : (m.push R.row).vars.length = m.vars.length + 1 := push_len
        generalize m.push R.row = m1 at hA hv nr hlen
        have l1 := lpRcPhases hv
        have l2 := lpRcGroups hv
        unfold frozenAt
        by_cases hp : 0 ≤ p ∧ p < (R.phases.length : Int)
        · rw [if_pos hp]
          obtain ⟨q, rfl⟩ := Int.eq_ofNat_of_zero_le hp.1
          rw [Int.toNat_natCast]
          have hq : q < R.phases.length := by omega
          have b0 : decide ((q : Int) < 0) = false := decide_eq_false (by omega)
          have b1 : decide ((q : Int) ≥ (R.phases.length : Int)) = false := decide_eq_false (by omega)
          have mk := makeBools (n := R.groups.length) (by omega)
          have nv := newBools (m := m1) (l := List.replicate R.groups.length false)
          have f1 := atPh (g := .no) (kk := .i64) hq
          have hfl := (hsm.phase q).1
          have hfz : ∀ (g : ByteArray) mm, amongG [.lst .no 1 (rowsS (R.phases.getD q ph0).frozen), .v (.string g)] mm = some (.v (.bool (among (R.phases.getD q ph0).frozen g)), mm) := fun g mm => amongG_eq (by omega)
          generalize R.phases.getD q ph0 = P at f1 hfz
          have hA2 := above_push (cs := bC (List.replicate R.groups.length false)) hA
          have hv2 := push_old (cs' := bC (List.replicate R.groups.length false)) hv
          have hb2 : (m1.push (bC (List.replicate R.groups.length false))).var m1.vars.length = some (bC (List.replicate R.groups.length false)) := push_var
          have hlt : m1.vars.length < (m1.push (bC (List.replicate R.groups.length false))).vars.length := by rw [push_len]; omega
          refine go1 (jn @nr (jn @b0 (jn @l1 @b1))) ?_
          refine runs_cond rfl (fun hc => by cases hc) (fun hc => ?_)
          refine go1 (jn @l2 (jn @mk @nv)) ?_
          have l3 := lpRcGroups hv2
          refine go1 @l3 ?_
          generalize m1.push (bC (List.replicate R.groups.length false)) = m2 at hA2 hv2 hb2 hlt
          have hne : m.vars.length ≠ m1.vars.length := by omega
          have hle : m.vars.length ≤ m1.vars.length := by omega
          generalize m1.vars.length = n2 at hb2 hlt hne hle ⊢
          refine runs_loop (fun k e m' => ∃ (i : Nat), i ≤ R.groups.length ∧ Above m m' ∧ n2 < m'.vars.length ∧ m'.var m.vars.length = some R.row ∧ m'.var n2 = some (bC ((R.groups.map fun g => among P.frozen g).take i ++ List.replicate (R.groups.length - i) false)) ∧ k = R.groups.length - i ∧
            e = [(1, AV.v (.int .i64 (q : Int))), (2, .ptr m.vars.length 0), (5, .vs n2 0 1 R.groups.length R.groups.length), (22, .lst .no 1 (rowsS R.groups)), (23, .v (.int .i64 (R.groups.length : Int))), (24, .v (.int .i64 (i : Int)))]) (k := R.groups.length) ⟨0, Nat.zero_le _, hA2, hlt, hv2, hb2, rfl, rfl⟩ ?_
          rintro k e m' ⟨i, hi0, hA3, hlt3, hv3, hb3, rfl, rfl⟩
          refine go0 ?_
          refine runs_cond rfl (fun hc => ?_) (fun hc => ?_)
          · have hi1 : i < R.groups.length := by have := of_decide_eq_true hc; omega
            have f2 := atStrs (g := .no) (kk := .i64) hi1
            have l4 := lpRcPhases hv3
            have c1 := fun mm => hfz (R.groups.getD i ⟨#[]⟩) mm
            have f3 := vsAtB (r := n2) (kk := .i64) hi1
            have hget : (R.groups.map fun g => among P.frozen g).getD i false = among P.frozen (R.groups.getD i ⟨#[]⟩) := by simp [List.getD, List.getElem?_eq_getElem hi1]
            have hfill := set_fill (d := false) (l := R.groups.map fun g => among P.frozen g) (i := i) (by rw [List.length_map]; exact hi1) hget R.groups.length hi1 false
            have r6 := next_i64 (i := i) (by omega)
            generalize R.groups.getD i ⟨#[]⟩ = g at f2 c1 hget hfill
            have st := storeB (v := among P.frozen g) hb3 (i := i) (by simp only [List.length_append, List.length_take, List.length_map, List.length_replicate]; omega)
            rw [hfill] at st
            have hv4 := setB_var_ne (b := (R.groups.map fun g => among P.frozen g).take (i + 1) ++ List.replicate (R.groups.length - (i + 1)) false) hne hv3
            have hb4 := setB_var (b := (R.groups.map fun g => among P.frozen g).take (i + 1) ++ List.replicate (R.groups.length - (i + 1)) false) hlt3
            have hA4 := above_setB (b := (R.groups.map fun g => among P.frozen g).take (i + 1) ++ List.replicate (R.groups.length - (i + 1)) false) hA3 hle
            have hlt4 : n2 < (setB m' n2 ((R.groups.map fun g => among P.frozen g).take (i + 1) ++ List.replicate (R.groups.length - (i + 1)) false)).vars.length := by rw [setB_len]; exact hlt3
            refine go1 (jn @f2 (jn @l4 (jn @f1 (jn @t1 (jn @c1 (jn @f3 (jn @st @r6))))))) ?_
            exact ⟨R.groups.length - (i + 1), by omega, i + 1, hi1, hA4, hlt4, hv4, hb4, rfl, rfl⟩
          · have hi1 : i = R.groups.length := by have := of_decide_eq_false hc; omega
            subst hi1
            rw [Nat.sub_self, List.replicate_zero, List.append_nil, List.take_of_length_le (by rw [List.length_map]; omega)] at hb3
            refine go0 ?_
            exact leaves_boolsA rfl rfl hle hb3 (List.length_map ..).symm (above_fin hA3)
        · rw [if_neg hp]
          by_cases h0 : p < 0
          · have b0 : decide (p < 0) = true := decide_eq_true h0
            refine go1 (jn @nr @b0) ?_
            refine runs_cond rfl (fun hc => ?_) (fun hc => by cases hc)
            refine go0 ?_
            exact leaves_lst rfl rfl (above_fin hA)
          · have b0 : decide (p < 0) = false := decide_eq_false h0
            have b1 : decide (p ≥ (R.phases.length : Int)) = true := decide_eq_true (by omega)
            refine go1 (jn @nr (jn @b0 (jn @l1 @b1))) ?_
            refine runs_cond rfl (fun hc => ?_) (fun hc => by cases hc)
            refine go0 ?_
            exact leaves_lst rfl rfl (above_fin hA)
      · cases h
    · cases h
  · cases h
/-! ### Turns -/
def turnB (R : Rc) (p : Int) (i : Nat) : Bool := (frozenAt R p).getD i false != (frozenAt R (p - 1)).getD i false
def turnsAt (R : Rc) (p : Int) : List Nat := (List.range (frozenAt R p).length).filter (turnB R p)
def natsI (l : List Nat) : List Int := l.map fun (i : Nat) => (i : Int)
theorem natsI_len (l : List Nat) : (natsI l).length = l.length := List.length_map ..
def turnsPG : List AV → Mem → Option (AV × Mem)
  | [.agg cs, .v (.int .i64 p)], m =>
    match unRc cs with
    | some R => if R.small ∧ -1000 ≤ p ∧ p ≤ 1000 then some (.lst .no 1 (rowsI (natsI (turnsAt R p))), m) else none
    | none => none
  | _, _ => none
theorem turnsPG_at {R : Rc} {p : Int} {m : Mem} (h : R.small) (h1 : -1000 ≤ p) (h2 : p ≤ 1000) : turnsPG [.agg R.row, .v (.int .i64 p)] m = some (.lst .no 1 (rowsI (natsI (turnsAt R p))), m) := by
  simp only [turnsPG, unRc_row]
  rw [if_pos ⟨h, h1, h2⟩]
theorem frozenAt_len {R : Rc} (h : R.small) (p : Int) : (frozenAt R p).length ≤ 64 := by
  unfold frozenAt
  split
  · rw [List.length_map]; exact h.2.1
  · simp
theorem app_intA {m m' : Mem} {g g2 : Grow} (hG : GrowsA m g m') (xs : List Int) (a : Int) (hl : xs.length ≤ 1000000) :
    ∃ g' m'', evAppend Tryz.prog 77 77 m' (.lst g 1 (rowsI xs)) (.lst g2 1 [[.v (.int .i64 a)]]) = some (.lst g' 1 (rowsI (xs ++ [a])), m'') ∧ GrowsA m g' m'' ∧ ∀ q, m''.var q = m'.var q := by
  have := app_growsV appInts hG (y := .lst g2 1 [[.v (.int .i64 a)]]) asList_lst (xs := rowsI xs) (by rw [rowsI_len]; unfold lim; simp; omega)
  rwa [show ([[.v (.int .i64 a)]] : List (List AV)) = rowsI [a] from rfl, rowsI_app] at this
theorem take_range (n i : Nat) (h : i < n) : (List.range n).take (i + 1) = (List.range n).take i ++ [i] := by
  rw [take_next (d := 0) (by rw [List.length_range]; exact h)]
  simp [List.getD, List.getElem?_range h]
def kpTurnsP : Nat → Option (List Nat) := fun
  | 0 => some [1, 2]
  | 1 => some [5, 6]
  | 2 => some [5, 6, 7]
  | 3 => some [6, 7, 17, 18, 19]
  | 4 => some [6, 7, 17, 18, 19, 20]
  | 5 => some [6, 7, 8, 9, 17, 18, 19]
  | 6 => some [6, 7, 8, 17, 18, 19, 35]
  | 7 => some [6, 7, 17, 18, 19]
  | 8 => some [6, 7, 17, 18, 19]
  | 9 => some [4]
  | _ => none
attribute [go_sem] kpTurnsP
def tab_turnsP_ok : List (FuncId × (List AV → Mem → Option (AV × Mem))) := [(103, frozenPG)]
theorem turnsP_ok : FunOk Tryz.prog 47 turnsPG := by
  have hC := table_ok (P := Tryz.prog) (l := tab_turnsP_ok) (table_more frozenP_ok table_nil)
  have t1 := fun args mm => table_at (l := tab_turnsP_ok) (f := 103) (args := args) (m := mm) rfl
  refine fun_ok mixed hC Tryz.func47 rfl kpTurnsP false rfl fun args m r h => ?_
  unfold turnsPG at h
  split at h
  · rename_i cs p
    split at h
    · rename_i R hR
      obtain rfl := unRc_some hR
      split at h
      · rename_i hyp
        obtain ⟨hsm, hp0, hp1⟩ := hyp
        simp only [Option.some.injEq] at h
        subst h
        refine ⟨Nat.le_of_ble_eq_true rfl, ?_⟩
        simp only [entry, List.length_cons, List.length_nil, List.range, List.range.loop, List.zip_cons_cons, List.zip_nil_right]
        have hG0 : GrowsA m .full (m.push R.row) := growsA_push growsA_full
        have hv : (m.push R.row).var m.vars.length = some R.row := push_var
        have nr := newRc (m := m) (x := R)
        generalize m.push R.row = m1 at hG0 hv nr
        have l0 := vrRc hv
        have c1 := fun mm => frozenPG_at (R := R) (p := p) (m := mm) hsm
        have c2 := fun mm => frozenPG_at (R := R) (p := p - 1) (m := mm) hsm
        have w1 : IntKind.i64.wrap (p - 1) = p - 1 := i64_wrap (by omega) (by omega)
        have hl1 := frozenAt_len hsm p
        have hl2 := frozenAt_len hsm (p - 1)
        unfold turnsAt
        have htb : ∀ i, turnB R p i = ((frozenAt R p).getD i false != (frozenAt R (p - 1)).getD i false) := fun i => rfl
        generalize turnB R p = tb at htb
        generalize frozenAt R p = now at c1 hl1 htb
        generalize frozenAt R (p - 1) = was at c2 hl2 htb
        refine go1 @nr ?_
        refine runs_ops_drawn_kept (by kernel_rfl) ?_
        refine go1 (jn @l0 (jn @t1 (jn @c1 (jn @w1 @c2)))) ?_
        refine runs_loop (fun k e m' => ∃ (i : Nat) (gr : Grow), i ≤ now.length ∧ GrowsA m gr m' ∧ k = now.length - i ∧
          e = [(6, AV.lst .no 1 (rowsBo was)), (7, .lst gr 1 (rowsI (natsI (((List.range now.length).take i).filter tb)))), (17, .lst .no 1 (rowsBo now)), (18, .v (.int .i64 (now.length : Int))), (19, .v (.int .i64 (i : Int)))]) (k := now.length) ⟨0, _, Nat.zero_le _, hG0, rfl, rfl⟩ ?_
        rintro k e m' ⟨i, gr, hi0, hG, rfl, rfl⟩
        refine go0 ?_
        refine runs_cond rfl (fun hc => ?_) (fun hc => ?_)
        · have hi1 : i < now.length := by have := of_decide_eq_true hc; omega
          have f1 := atBools (g := .no) (kk := .i64) hi1
          have r6 := next_i64 (i := i) (by omega)
          have hN : natsI (((List.range now.length).take (i + 1)).filter tb) = natsI (((List.range now.length).take i).filter tb) ++ (if tb i = true then [(i : Int)] else []) := by
            rw [take_range _ _ hi1, List.filter_append, List.filter_cons, List.filter_nil]
            unfold natsI
            rw [List.map_append]
            split <;> rfl
          have hle : (natsI (((List.range now.length).take i).filter tb)).length ≤ 64 := by
            rw [natsI_len]
            have := List.length_filter_le tb ((List.range now.length).take i)
            rw [List.length_take, List.length_range] at this
            omega
          have htbi := htb i
          generalize natsI (((List.range now.length).take i).filter tb) = acc at hG hN hle
          generalize now.getD i false = x at f1 htbi
          obtain ⟨g2, m2, a1, hG2, hV2⟩ := app_intA (g2 := .full) hG acc i (by omega)
          by_cases hw : i < was.length
          · have b1 : decide ((i : Int) < (was.length : Int)) = true := decide_eq_true (by omega)
            have f2 := atBools (g := .no) (kk := .i64) hw
            generalize was.getD i false = y at f2 htbi
            cases hxy : (x != y) with
            | false =>
              rw [htbi, hxy, if_neg (by decide), List.append_nil] at hN
              refine go1 (jn @f1 (jn @b1 (jn @f2 @hxy))) ?_
              refine runs_cond rfl (fun hc => by cases hc) (fun hc => ?_)
              refine go1 @r6 ?_
              exact ⟨now.length - (i + 1), by omega, i + 1, _, hi1, hG, rfl, by rw [hN]⟩
            | true =>
              rw [htbi, hxy, if_pos rfl] at hN
              refine go1 (jn @f1 (jn @b1 (jn @f2 @hxy))) ?_
              refine runs_cond rfl (fun hc => ?_) (fun hc => by cases hc)
              refine go1 (jn @a1 @r6) ?_
              exact ⟨now.length - (i + 1), by omega, i + 1, _, hi1, hG2, rfl, by rw [hN]⟩
          · have b1 : decide ((i : Int) < (was.length : Int)) = false := decide_eq_false (by omega)
            have hy : was.getD i false = false := by simp [List.getD, List.getElem?_eq_none (Nat.le_of_not_lt hw)]
            rw [hy] at htbi
            cases hxy : (x != false) with
            | false =>
              rw [htbi, hxy, if_neg (by decide), List.append_nil] at hN
              refine go1 (jn @f1 (jn @b1 @hxy)) ?_
              refine runs_cond rfl (fun hc => by cases hc) (fun hc => ?_)
              refine go1 @r6 ?_
              exact ⟨now.length - (i + 1), by omega, i + 1, _, hi1, hG, rfl, by rw [hN]⟩
            | true =>
              rw [htbi, hxy, if_pos rfl] at hN
              refine go1 (jn @f1 (jn @b1 @hxy)) ?_
              refine runs_cond rfl (fun hc => ?_) (fun hc => by cases hc)
              refine go1 (jn @a1 @r6) ?_
              exact ⟨now.length - (i + 1), by omega, i + 1, _, hi1, hG2, rfl, by rw [hN]⟩
        · have hi1 : i = now.length := by have := of_decide_eq_false hc; omega
          subst hi1
          rw [List.take_of_length_le (by rw [List.length_range]; omega)]
          refine go0 ?_
          exact leaves_lst rfl rfl (growsA_fin hG)
      · cases h
    · cases h
  · cases h
end Go.Proofs.YtojaokhkbmiidaaGreat.Ev

namespace Go.Proofs.YtojaokhkbmiidaaGreat.Ev
open Go Go.Proofs
set_option maxRecDepth 10000
set_option maxHeartbeats 8000000
set_option linter.unusedVariables false
set_option linter.unusedSimpArgs false
attribute [local irreducible] Next Inside Runs Ops table
/-! ### api.Event -/
structure Evt where
  step : Int
  kind : Int
  item : Int
def evt0 : Evt := ⟨0, 0, 0⟩
def Evt.row (x : Evt) : List AV := [iv x.step, iv x.kind, iv x.item]
def unEvt : List AV → Option Evt
  | [.v (.int .i64 c0), .v (.int .i64 c1), .v (.int .i64 c2)] => some ⟨c0, c1, c2⟩
  | _ => none
theorem unEvt_some {cs : List AV} {x : Evt} (h : unEvt cs = some x) : cs = x.row := by
  unfold unEvt at h
  split at h
  · cases h; rfl
  · cases h
theorem unEvt_row (x : Evt) : unEvt x.row = some x := by
  rfl
def rowsEvt (l : List Evt) : List (List AV) := l.map Evt.row
theorem rowsEvt_len (l : List Evt) : (rowsEvt l).length = l.length := List.length_map ..
theorem rowsEvt_app (l l2 : List Evt) : rowsEvt l ++ rowsEvt l2 = rowsEvt (l ++ l2) := List.map_append.symm
theorem rowsEvt_get {l : List Evt} {i : Nat} (hi : i < l.length) : (rowsEvt l)[i]? = some (l.getD i evt0).row := by
  simp [rowsEvt, List.getD, List.getElem?_eq_getElem hi]
def unsEvt : List (List AV) → Option (List Evt)
  | [] => some []
  | row :: r =>
    match unEvt row, unsEvt r with
    | some x, some l => some (x :: l)
    | _, _ => none
theorem unsEvt_some : ∀ {rs : List (List AV)} {l : List Evt}, unsEvt rs = some l → rs = rowsEvt l
  | [], l, h => by simp only [unsEvt, Option.some.injEq] at h; subst h; rfl
  | row :: r, l, h => by
    unfold unsEvt at h
    split at h
    · rename_i x l' h1 h2
      cases h
      rw [unEvt_some h1, unsEvt_some h2]
      rfl
    · cases h
theorem unsEvt_rowsEvt : ∀ (l : List Evt), unsEvt (rowsEvt l) = some l
  | [] => rfl
  | x :: l => by
    have e : rowsEvt (x :: l) = x.row :: rowsEvt l := rfl
    rw [e, unsEvt, unEvt_row, unsEvt_rowsEvt l]
theorem elEvt : tElem Tryz.prog 55 = some 65 := by simp only [tElem, Tryz.underlying55]
theorem naEvt : tArr Tryz.prog 55 = none := by simp only [tArr, Tryz.underlying55]
theorem appEvt : appB Tryz.prog 55 55 3 = true := by kernel_rfl
theorem szEvt : tSize Tryz.prog 65 = some 3 := by kernel_rfl
theorem atEvt {g : Grow} {kk : IntKind} {l : List Evt} {i : Nat} (hi : i < l.length) : evIndexAddr Tryz.prog 55 (.lst g 3 (rowsEvt l)) (.v (.int kk (i : Int))) = some (.eptr (l.getD i evt0).row) := at_list elEvt naEvt szEvt (rowsEvt_get hi)
theorem ldEvt {m : Mem} {x : Evt} : evLoad Tryz.prog m 65 (.eptr x.row) = some (.agg x.row) := by kernel_rfl
theorem niEvt : noIface Tryz.prog 8 65 = true := by kernel_rfl
theorem eqEvt {x y : Evt} : eqTy Tryz.prog 8 65 (.agg x.row) (.agg y.row) = some ((x.step == y.step) && ((x.kind == y.kind) && ((x.item == y.item) && true))) := by kernel_rfl
end Go.Proofs.YtojaokhkbmiidaaGreat.Ev

namespace Go.Proofs.YtojaokhkbmiidaaGreat.Ev
open Go Go.Proofs
set_option maxRecDepth 10000
set_option maxHeartbeats 8000000
set_option linter.unusedVariables false
set_option linter.unusedSimpArgs false
attribute [local irreducible] Next Inside Runs Ops table
attribute [local go_sem] szStr szInt Option.getD_some isNil evStr iv loadInt mapRc mapTab cellsTab newTb fpTabR fpTabS fpTabF fpRcSteps fpRcSwa fpRcSwaOn fpRcSwaEvery rowsEvt_len rowsBo_len rowsI_len rowsSp_len ldBool feSpFrom_ leSpFrom_ mkInts2
theorem mkEvt3 {a b c : Int} : evBuild Tryz.prog 65 [(0, .v (.int .i64 a)), (1, .v (.int .i64 b)), (2, .v (.int .i64 c))] = some (.agg [.v (.int .i64 a), .v (.int .i64 b), .v (.int .i64 c)]) := by kernel_rfl
attribute [local go_sem] mkEvt3
theorem mkEvt2 {a b : Int} : evBuild Tryz.prog 65 [(0, .v (.int .i64 a)), (1, .v (.int .i64 b))] = some (.agg [.v (.int .i64 a), .v (.int .i64 b), .v (.int .i64 0)]) := by kernel_rfl
attribute [local go_sem] mkEvt2
theorem mkEvts1 {a b c : Int} : evBuildSlice Tryz.prog 55 1 [(0, .agg [.v (.int .i64 a), .v (.int .i64 b), .v (.int .i64 c)])] = some (.lst .full 3 [[.v (.int .i64 a), .v (.int .i64 b), .v (.int .i64 c)]]) := build_rows appEvt rfl rfl (by decide)
attribute [local go_sem] mkEvts1
theorem app_evt {m m' : Mem} {g g2 : Grow} (hG : GrowsA m g m') (xs : List Evt) (a b c : Int) (hl : xs.length ≤ 1000000) :
    ∃ g' m'', evAppend Tryz.prog 55 55 m' (.lst g 3 (rowsEvt xs)) (.lst g2 3 [[.v (.int .i64 a), .v (.int .i64 b), .v (.int .i64 c)]]) = some (.lst g' 3 (rowsEvt (xs ++ [⟨a, b, c⟩])), m'') ∧ GrowsA m g' m'' ∧ ∀ q, m''.var q = m'.var q := by
  have := app_growsV appEvt hG (y := .lst g2 3 [[.v (.int .i64 a), .v (.int .i64 b), .v (.int .i64 c)]]) asList_lst (xs := rowsEvt xs) (by rw [rowsEvt_len]; unfold lim; simp; omega)
  rwa [show ([[.v (.int .i64 a), .v (.int .i64 b), .v (.int .i64 c)]] : List (List AV)) = rowsEvt [⟨a, b, c⟩] from rfl, rowsEvt_app] at this
/-! ### swa -/
def swaIs (R : Rc) (f step : Int) : Bool := R.swaOn && (decide (step ≥ f) && ((step - f).tmod R.swaEvery == 0))
def swaOf (R : Rc) (f step : Int) : Int × Bool := if swaIs R f step = true then ((step - f).tdiv R.swaEvery, true) else (0, false)
def stepIn (x : Int) : Prop := 0 ≤ x ∧ x ≤ 1099511627776
instance (x : Int) : Decidable (stepIn x) := by unfold stepIn; exact inferInstance
def swaTG : List AV → Mem → Option (AV × Mem)
  | [.agg cs, .v (.int .i64 step)], m =>
    match unTab cs with
    | some (R, l, f) => if (R.swaOn = true → 0 < R.swaEvery) ∧ stepIn step ∧ stepIn f then some (.tup [.v (.int .i64 (swaOf R f step).1), .v (.bool (swaOf R f step).2)], m) else none
    | none => none
  | _, _ => none
theorem swaTG_at {R : Rc} {l : List Sp} {f step : Int} {m : Mem} (h1 : R.swaOn = true → 0 < R.swaEvery) (h2 : stepIn step) (h3 : stepIn f) : swaTG [.agg (tabRow R l f), .v (.int .i64 step)] m = some (.tup [.v (.int .i64 (swaOf R f step).1), .v (.bool (swaOf R f step).2)], m) := by
  simp only [swaTG, unTab_row]
  rw [if_pos ⟨h1, h2, h3⟩]
def kpSwaT : Nat → Option (List Nat) := fun
  | 0 => some [1, 2]
  | 1 => some [1, 2, 28]
  | 2 => some [4, 5]
  | 3 => some [4, 5]
  | _ => none
attribute [go_sem] kpSwaT
theorem swaT_ok : FunOk Tryz.prog 54 swaTG := by
  have hC := table_ok (P := Tryz.prog) (l := []) table_nil
  refine fun_ok mixed hC Tryz.func54 rfl kpSwaT false rfl fun args m r h => ?_
  unfold swaTG at h
  split at h
  · rename_i cs step
    split at h
    · rename_i R l f hR
      obtain rfl := unTab_some hR
      split at h
      · rename_i hyp
        obtain ⟨hev, hst, hf⟩ := hyp
        simp only [Option.some.injEq] at h
        subst h
        refine ⟨Nat.le_of_ble_eq_true rfl, ?_⟩
        simp only [entry, List.length_cons, List.length_nil, List.range, List.range.loop, List.zip_cons_cons, List.zip_nil_right]
        have hA := above_push (cs := tabRow R l f) (above_self m)
        have hv : (m.push (tabRow R l f)).var m.vars.length = some (tabRow R l f) := push_var
        have nr := newTb (m := m) (R := R) (l := l) (f := f)
        generalize m.push (tabRow R l f) = m1 at hA hv nr
        have l1 := lpTabOn hv
        have l2 := lpTabF hv
        have l3 := lpTabEvery hv
        unfold stepIn at hst hf
        have w1 : IntKind.i64.wrap (step - f) = step - f := i64_wrap (by omega) (by omega)
        have hS : swaIs R f step = (R.swaOn && (decide (step ≥ f) && ((step - f).tmod R.swaEvery == 0))) := rfl
        unfold swaOf
        cases q0 : R.swaOn with
        | false =>
          rw [q0] at hS
          rw [hS, Bool.false_and, if_neg (by decide)]
          have w2 : (!false) = true := rfl
          refine go1 (jn @nr (jn @l1 (jn @q0 @w2))) ?_
          refine runs_cond rfl (fun hc => ?_) (fun hc => by cases hc)
          refine go0 ?_
          exact leaves_two rfl rfl rfl (above_fin hA)
        | true =>
          rw [q0] at hS
          have w2 : (!true) = false := rfl
          have hne : R.swaEvery ≠ 0 := by have := hev q0; omega
          by_cases hge : step < f
          · have b0 : decide (step < f) = true := decide_eq_true hge
            rw [hS, decide_eq_false (by omega), Bool.false_and, Bool.and_false, if_neg (by decide)]
            refine go1 (jn @nr (jn @l1 (jn @q0 (jn @w2 (jn @l2 @b0))))) ?_
            refine runs_cond rfl (fun hc => ?_) (fun hc => by cases hc)
            refine go0 ?_
            exact leaves_two rfl rfl rfl (above_fin hA)
          · have b0 : decide (step < f) = false := decide_eq_false hge
            rw [decide_eq_true (by omega), Bool.true_and, Bool.true_and] at hS
            rw [hS]
            cases hz : ((step - f).tmod R.swaEvery == 0) with
            | false =>
              have b1 : ((step - f).tmod R.swaEvery != 0) = true := by rw [bne, hz]; rfl
              rw [if_neg (by decide)]
              refine go1 (jn @nr (jn @l1 (jn @q0 (jn @w2 (jn @l2 (jn @b0 (jn @w1 (jn @l3 (jn @hne @b1))))))))) ?_
              refine runs_cond rfl (fun hc => ?_) (fun hc => by cases hc)
              refine go0 ?_
              exact leaves_two rfl rfl rfl (above_fin hA)
            | true =>
              have b1 : ((step - f).tmod R.swaEvery != 0) = false := by rw [bne, hz]; rfl
              rw [if_pos rfl]
              have hpos := hev q0
              have hd0 : 0 ≤ (step - f).tdiv R.swaEvery := Int.tdiv_nonneg (by omega) (by omega)
              have hd1 : (step - f).tdiv R.swaEvery ≤ step - f := by
                rw [Int.tdiv_eq_ediv_of_nonneg (by omega)]
                exact Int.ediv_le_self _ (by omega)
              have w3 : IntKind.i64.wrap ((step - f).tdiv R.swaEvery) = (step - f).tdiv R.swaEvery := i64_wrap (by omega) (by omega)
              refine go1 (jn @nr (jn @l1 (jn @q0 (jn @w2 (jn @l2 (jn @b0 (jn @w1 (jn @l3 (jn @hne @b1))))))))) ?_
              refine runs_cond rfl (fun hc => by cases hc) (fun hc => ?_)
              refine go1 (jn @l2 (jn @w1 (jn @l3 (jn @hne @w3)))) ?_
              exact leaves_two rfl rfl rfl (above_fin hA)
      · cases h
    · cases h
  · cases h
end Go.Proofs.YtojaokhkbmiidaaGreat.Ev

namespace Go.Proofs.YtojaokhkbmiidaaGreat.Ev
open Go Go.Proofs
set_option maxRecDepth 10000
set_option maxHeartbeats 8000000
set_option linter.unusedVariables false
set_option linter.unusedSimpArgs false
attribute [local irreducible] Next Inside Runs Ops table
attribute [local go_sem] szStr szInt Option.getD_some isNil evStr iv loadInt mapRc mapTab cellsTab newTb fpTabR rowsEvt_len rowsBo_len rowsI_len mkEvt3 mkEvts1 ldBool
theorem mkTwo : evBuildSlice Tryz.prog 77 2 [(0, .v (.int .i64 2)), (1, .v (.int .i64 3))] = some (.lst .full 1 (rowsI [2, 3])) := build_rows appInts rfl rfl (by decide)
attribute [local go_sem] mkTwo
theorem two_len : ((([2, 3] : List Int).length : Nat) : Int) = 2 := rfl
attribute [local go_sem] two_len
theorem leaves_growA {P : Program} {fn : Func} {m m' : Mem} {e : Env} {t : Tmp} {k : Nat} {g : Grow} {rows : List (List AV)} (h : fn.results = #[.tmp t]) (hg : Ev.get e t = .lst g k rows) (hG : GrowsA m g m') : Leaves P true fn m (.lst (.tok m.toks.length 0) k rows, m.tk [0]) .ret e m' := by
  have hf := growsA_fin hG
  obtain ⟨m1, h1, L, rfl⟩ := hG
  rcases h1 with ⟨rfl, rfl⟩ | ⟨v, rfl, rfl⟩
  · exact leaves_grow_full h hg hf
  · exact leaves_grow h hg hf (by simp [Mem.tk]) (Nat.le_refl _)
def turnEv (R : Rc) (p step kind : Int) (g : Nat) : List Evt := if ((frozenAt R p).getD g false == (kind == 3)) = true then [⟨step, kind, g⟩] else []
def turnsEv (R : Rc) (p step kind : Int) : List Evt := (turnsAt R p).flatMap (turnEv R p step kind)
def beginsAt (R : Rc) (p step : Int) : List Evt := [⟨step, 1, p⟩] ++ (([2, 3] : List Int).flatMap (turnsEv R p step))
theorem turns_in {R : Rc} {p : Int} {g : Nat} (h : g ∈ turnsAt R p) : g < (frozenAt R p).length := by
  unfold turnsAt at h
  exact List.mem_range.1 (List.mem_filter.1 h).1
theorem turns_len {R : Rc} (h : R.small) (p : Int) : (turnsAt R p).length ≤ 64 := by
  have h1 := frozenAt_len h p
  have h2 := List.length_filter_le (turnB R p) (List.range (frozenAt R p).length)
  rw [List.length_range] at h2
  unfold turnsAt
  omega
theorem turnEv_len (R : Rc) (p step kind : Int) (g : Nat) : (turnEv R p step kind g).length ≤ 1 := by unfold turnEv; split <;> simp
theorem turnsEv_len {R : Rc} (h : R.small) (p step kind : Int) : (turnsEv R p step kind).length ≤ 64 := by
  have h1 := turns_len h p
  have h2 := flat_len (f := turnEv R p step kind) (c := 1) (turnsAt R p) fun g _ => turnEv_len R p step kind g
  unfold turnsEv
  omega
def kpBegins : Nat → Option (List Nat) := fun
  | 0 => some [1, 2, 3]
  | 1 => some [1, 2, 3, 7]
  | 2 => some [1, 2, 3, 7, 8]
  | 3 => some [1, 2, 3, 7, 8, 21, 22, 23]
  | 4 => some [1, 2, 3, 7, 8, 21, 22, 23, 24]
  | 5 => some [1, 2, 3, 7, 8, 10, 21, 22, 23]
  | 6 => some [1, 2, 3, 7, 8, 10, 21, 22, 23, 30, 31, 32]
  | 7 => some [1, 2, 3, 7, 8, 10, 21, 22, 23, 30, 31, 32, 33]
  | 8 => some [1, 2, 3, 7, 8, 10, 12, 21, 22, 23, 30, 31, 32]
  | 9 => some [1, 2, 3, 7, 8, 10, 12, 21, 22, 23, 30, 31, 32, 42]
  | 10 => some [1, 2, 3, 7, 8, 10, 21, 22, 23, 30, 31, 32]
  | 11 => some [1, 2, 3, 7, 8, 10, 21, 22, 23, 30, 31, 32]
  | 12 => some [1, 2, 3, 7, 8, 21, 22, 23]
  | 13 => some [6]
  | _ => none
attribute [go_sem] kpBegins
def tab_begins : List (FuncId × (List AV → Mem → Option (AV × Mem))) := [(103, frozenPG), (47, turnsPG)]
theorem begins_runs {R : Rc} {l : List Sp} {f p step : Int} {m : Mem} {c : Code} (hc : Tryz.f57.body = some c) (hsm : R.small) (hp0 : -1000 ≤ p) (hp1 : p ≤ 1000) :
    Runs Tryz.prog (table tab_begins) Tryz.f57.ntmps kpBegins c (entry [.agg (tabRow R l f), .v (.int .i64 p), .v (.int .i64 step)]) m fun x e m' => x = .ret ∧ ∃ g, Ev.get e 6 = .lst g 3 (rowsEvt (beginsAt R p step)) ∧ GrowsA m g m' := by
  have t1 := fun args mm => table_at (l := tab_begins) (f := 103) (args := args) (m := mm) rfl
  have t2 := fun args mm => table_at (l := tab_begins) (f := 47) (args := args) (m := mm) rfl
  cases hc
  simp only [entry, List.length_cons, List.length_nil, List.range, List.range.loop, List.zip_cons_cons, List.zip_nil_right]
  have hG0 : GrowsA m .full (m.push (tabRow R l f)) := growsA_push growsA_full
  have hv : (m.push (tabRow R l f)).var m.vars.length = some (tabRow R l f) := push_var
  have nr := newTb (m := m) (R := R) (l := l) (f := f)
  generalize m.push (tabRow R l f) = m1 at hG0 hv nr
  have l1 := lpTabR hv
  have c1 := fun mm => frozenPG_at (R := R) (p := p) (m := mm) hsm
  have c2 := fun mm => turnsPG_at (R := R) (p := p) (m := mm) hsm hp0 hp1
  have hT := turns_len hsm p
  have hin := fun g => @turns_in R p g
  have hkl := fun kind => turnsEv_len hsm p step kind
  have hkd : ∀ kind, turnsEv R p step kind = (turnsAt R p).flatMap (turnEv R p step kind) := fun kind => rfl
  have hev : ∀ kind g, turnEv R p step kind g = if ((frozenAt R p).getD g false == (kind == 3)) = true then [⟨step, kind, g⟩] else [] := fun kind g => rfl
  have hbe : beginsAt R p step = [⟨step, 1, p⟩] ++ (([2, 3] : List Int).flatMap (turnsEv R p step)) := rfl
  rw [hbe]
  have hel := fun kind g => turnEv_len R p step kind g
  generalize turnsEv R p step = tv at hkl hkd
  generalize turnEv R p step = te at hkd hev hel
  generalize turnsAt R p = ts at c2 hT hin hkd
  generalize frozenAt R p = fz at c1 hin hev
  refine go1 (jn @nr (jn @l1 (jn @t1 @c1))) ?_
  refine runs_loop (fun k e m' => ∃ (i : Nat) (gr : Grow), i ≤ 2 ∧ GrowsA m gr m' ∧ m'.var m.vars.length = some (tabRow R l f) ∧ k = 2 - i ∧
    e = [(1, AV.v (.int .i64 p)), (2, .v (.int .i64 step)), (3, .ptr m.vars.length 0), (7, .lst gr 3 (rowsEvt ([⟨step, 1, p⟩] ++ (([2, 3] : List Int).take i).flatMap tv))), (8, .lst .no 1 (rowsBo fz)), (21, .lst .full 1 (rowsI [2, 3])), (22, .v (.int .i64 2)), (23, .v (.int .i64 (i : Int)))]) (k := 2) ⟨0, _, by decide, hG0, hv, rfl, rfl⟩ ?_
  rintro k e m' ⟨i, gr, hi0, hG, hw, rfl, rfl⟩
  refine go0 ?_
  refine runs_cond rfl (fun hc => ?_) (fun hc => ?_)
  · have hi1 : i < 2 := by have := of_decide_eq_true hc; omega
    have f1 := atInts (g := .full) (kk := .i64) (l := [2, 3]) (i := i) hi1
    have l2 := lpTabR hw
    have hN : (([2, 3] : List Int).take (i + 1)).flatMap tv = (([2, 3] : List Int).take i).flatMap tv ++ tv (([2, 3] : List Int).getD i 0) := by
      rw [take_next (d := 0) hi1, List.flatMap_append]
      simp
    have hB := take_len (f := tv) (l := ([2, 3] : List Int)) (fun kind _ => hkl kind) hi0
    have r6 := next_i64 (i := i) (by omega)
    generalize ([2, 3] : List Int).getD i 0 = kind at f1 hN
    have hk := hkd kind
    have hkl2 := hkl kind
    refine go1 (jn @f1 (jn @l2 (jn @t2 @c2))) ?_
    generalize (([2, 3] : List Int).take i).flatMap tv = acc at hG hN hB ⊢
    refine runs_loop (fun k e m' => ∃ (j : Nat) (gr : Grow), j ≤ ts.length ∧ GrowsA m gr m' ∧ m'.var m.vars.length = some (tabRow R l f) ∧ k = ts.length - j ∧
      e = [(1, AV.v (.int .i64 p)), (2, .v (.int .i64 step)), (3, .ptr m.vars.length 0), (7, .lst gr 3 (rowsEvt ([⟨step, 1, p⟩] ++ (acc ++ (ts.take j).flatMap (te kind))))), (8, .lst .no 1 (rowsBo fz)), (10, .v (.int .i64 kind)), (21, .lst .full 1 (rowsI [2, 3])), (22, .v (.int .i64 2)), (23, .v (.int .i64 (i : Int))), (30, .lst .no 1 (rowsI (natsI ts))), (31, .v (.int .i64 (ts.length : Int))), (32, .v (.int .i64 (j : Int)))]) (k := ts.length) ⟨0, _, Nat.zero_le _, hG, hw, rfl, by rw [List.take_zero, List.flatMap_nil, List.append_nil, natsI_len]; rfl⟩ ?_
    rintro k e m2 ⟨j, gr2, hj0, hG2, hw2, rfl, rfl⟩
    refine go0 ?_
    refine runs_cond rfl (fun hc => ?_) (fun hc => ?_)
    · have hj1 : j < ts.length := by have := of_decide_eq_true hc; omega
      have f2 := atInts (g := .no) (kk := .i64) (l := natsI ts) (i := j) (by rw [natsI_len]; exact hj1)
      have hge : (natsI ts).getD j 0 = ((ts.getD j 0 : Nat) : Int) := by simp [natsI, List.getD, List.getElem?_eq_getElem hj1]
      rw [hge] at f2
      have hg := hin (ts.getD j 0) (by rw [List.getD, List.getElem?_eq_getElem hj1]; exact List.getElem_mem _)
      have f3 := atBools (g := .no) (kk := .i64) hg
      have hN2 := flat_next (f := te kind) (d := 0) hj1
      have hB2 := take_len (f := te kind) (l := ts) (fun g _ => hel kind g) hj0
      have he := hev kind (ts.getD j 0)
      have r7 := next_i64 (i := j) (by omega)
      generalize ts.getD j 0 = g at f2 f3 hN2 he
      generalize fz.getD g false = x at f3 he
      generalize (ts.take j).flatMap (te kind) = acc2 at hG2 hN2 hB2 ⊢
      cases hq : (x == (kind == 3)) with
      | true =>
        rw [hq, if_pos rfl] at he
        rw [he] at hN2
        obtain ⟨g3, m3, a1, hG3, hV3⟩ := app_evt (g2 := .full) hG2 ([⟨step, 1, p⟩] ++ (acc ++ acc2)) step kind g (by simp only [List.length_append, List.length_cons, List.length_nil]; omega)
        refine go1 (jn @f2 (jn @f3 @hq)) ?_
        refine runs_cond rfl (fun hc => ?_) (fun hc => by cases hc)
        refine go1 (jn @a1 @r7) ?_
        exact ⟨ts.length - (j + 1), by omega, j + 1, _, hj1, hG3, by rw [hV3]; exact hw2, rfl, by rw [hN2]; simp only [List.append_assoc]⟩
      | false =>
        rw [hq, if_neg (by decide)] at he
        rw [he, List.append_nil] at hN2
        refine go1 (jn @f2 (jn @f3 @hq)) ?_
        refine runs_cond rfl (fun hc => by cases hc) (fun hc => ?_)
        refine go1 @r7 ?_
        exact ⟨ts.length - (j + 1), by omega, j + 1, _, hj1, hG2, hw2, rfl, by rw [hN2]⟩
    · have hj1 : j = ts.length := by have := of_decide_eq_false hc; omega
      subst hj1
      rw [List.take_length, ← hk, ← hN]
      refine go1 @r6 ?_
      exact ⟨2 - (i + 1), by omega, i + 1, _, hi1, hG2, hw2, rfl, rfl⟩
  · have hi1 : i = 2 := by have := of_decide_eq_false hc; omega
    subst hi1
    refine go0 ?_
    exact ⟨rfl, _, rfl, hG⟩
theorem tab_begins_ok : CallOk Tryz.prog (table tab_begins) := table_ok (P := Tryz.prog) (l := tab_begins) (table_more frozenP_ok (table_more turnsP_ok table_nil))
def beginsG (gr : Bool) : List AV → Mem → Option (AV × Mem)
  | [.agg cs, .v (.int .i64 p), .v (.int .i64 step)], m =>
    match unTab cs with
    | some (R, _, _) => if R.small ∧ -1000 ≤ p ∧ p ≤ 1000 then some (if gr = true then (.lst (.tok m.toks.length 0) 3 (rowsEvt (beginsAt R p step)), m.tk [0]) else (.lst .no 3 (rowsEvt (beginsAt R p step)), m)) else none
    | none => none
  | _, _ => none
theorem beginsG_at {R : Rc} {l : List Sp} {f p step : Int} {m : Mem} {gr : Bool} (h : R.small) (h1 : -1000 ≤ p) (h2 : p ≤ 1000) : beginsG gr [.agg (tabRow R l f), .v (.int .i64 p), .v (.int .i64 step)] m = some (if gr = true then (.lst (.tok m.toks.length 0) 3 (rowsEvt (beginsAt R p step)), m.tk [0]) else (.lst .no 3 (rowsEvt (beginsAt R p step)), m)) := by
  simp only [beginsG, unTab_row]
  rw [if_pos ⟨h, h1, h2⟩]
theorem begins_ok (gr : Bool) : FunOk Tryz.prog 57 (beginsG gr) := by
  refine fun_ok mixed tab_begins_ok Tryz.func57 rfl kpBegins gr rfl fun args m r h => ?_
  unfold beginsG at h
  split at h
  · rename_i cs p step
    split at h
    · rename_i R l f hR
      obtain rfl := unTab_some hR
      split at h
      · rename_i hyp
        obtain ⟨h1, h2, h3⟩ := hyp
        simp only [Option.some.injEq] at h
        subst h
        refine ⟨Nat.le_of_ble_eq_true rfl, runs_mono (begins_runs rfl h1 h2 h3) fun x e m' hx => ?_⟩
        obtain ⟨rfl, g, hg, hG⟩ := hx
        cases gr with
        | true => exact leaves_growA rfl hg hG
        | false => exact leaves_lst rfl hg (growsA_fin hG)
      · cases h
    · cases h
  · cases h
end Go.Proofs.YtojaokhkbmiidaaGreat.Ev

namespace Go.Proofs.YtojaokhkbmiidaaGreat.Ev
open Go Go.Proofs
set_option maxRecDepth 10000
set_option maxHeartbeats 8000000
set_option linter.unusedVariables false
set_option linter.unusedSimpArgs false
attribute [local irreducible] Next Inside Runs Ops table
attribute [local go_sem] szStr szInt Option.getD_some isNil evStr iv loadInt mapRc mapTab cellsTab newTb fpTabR fpTabS fpRcSteps rowsEvt_len rowsSp_len mkEvt3 mkEvt2 mkEvts1 feSpFrom_ leSpFrom_
noncomputable section
def spanIdx (R : Rc) (step : Int) : Int := firstBy (spanHas step) R.spans 0
theorem span_find {R : Rc} {step : Int} (h0 : 0 ≤ step) : ∀ {n : Nat}, step < R.at_ n → ∃ i, i < n ∧ R.at_ i ≤ step ∧ step < R.at_ (i + 1)
  | 0, h => by have : R.at_ 0 = 0 := rfl; omega
  | n + 1, h => by
    by_cases hn : step < R.at_ n
    · obtain ⟨i, h1, h2⟩ := span_find h0 hn
      exact ⟨i, by omega, h2⟩
    · exact ⟨n, by omega, by omega, h⟩
theorem span_at {R : Rc} (ok : R.Ok) {step : Int} (h0 : 0 ≤ step) (h1 : step < R.steps) : ∃ i, i < R.phases.length ∧ R.at_ i ≤ step ∧ step < R.at_ (i + 1) ∧ spanIdx R step = (i : Int) := by
  rw [← ok.last] at h1
  obtain ⟨i, hi, h2, h3⟩ := span_find h0 h1
  refine ⟨i, hi, h2, h3, ?_⟩
  have hl : R.spans.length = R.phases.length := spansTo_len
  have get : ∀ j, j < R.phases.length → R.spans.getD j sp0 = ⟨R.at_ j, R.at_ (j + 1)⟩ := fun j hj => spansTo_get hj
  refine firstBy_is (d := sp0) (by omega) ?_ fun j hj => ?_
  · rw [get i hi]
    unfold spanHas
    rw [decide_eq_true h2, decide_eq_true h3]
    rfl
  · rw [get j (by omega)]
    have := at_le ok.grow (j := i) (by omega) (j + 1) (by omega)
    unfold spanHas
    rw [decide_eq_false (show ¬ step < R.at_ (j + 1) by omega), Bool.and_false]
def beginEv (R : Rc) (step : Int) : List Evt := if ((R.spans.getD (spanIdx R step).toNat sp0).from_ == step) = true then beginsAt R (spanIdx R step) step else []
def swaEv (R : Rc) (step : Int) : List Evt := if swaIs R R.swaSteps.1 step = true then [⟨step, 4, (step - R.swaSteps.1).tdiv R.swaEvery⟩] else []
def endEv (R : Rc) (step : Int) : List Evt := if (step == R.steps - 1) = true then [⟨step, 11, 0⟩] else []
def evAt (R : Rc) (step : Int) : List Evt := beginEv R step ++ swaEv R step ++ endEv R step
theorem beginsAt_len {R : Rc} (h : R.small) (p step : Int) : (beginsAt R p step).length ≤ 200 := by
  have h1 := turnsEv_len h p step 2
  have h2 := turnsEv_len h p step 3
  unfold beginsAt
  simp only [List.length_append, List.length_cons, List.length_nil, List.flatMap_cons, List.flatMap_nil]
  omega
theorem beginEv_len {R : Rc} (h : R.small) (step : Int) : (beginEv R step).length ≤ 200 := by
  unfold beginEv
  split
  · exact beginsAt_len h _ _
  · simp
theorem evAt_len {R : Rc} (h : R.small) (step : Int) : (evAt R step).length ≤ 300 := by
  have h1 := beginEv_len h step
  have h2 : (swaEv R step).length ≤ 1 := by unfold swaEv; split <;> simp
  have h3 : (endEv R step).length ≤ 1 := by unfold endEv; split <;> simp
  unfold evAt
  simp only [List.length_append]
  omega
def atTG : List AV → Mem → Option (AV × Mem)
  | [.agg cs, .v (.int .i64 step)], m =>
    match unTab cs with
    | some (R, l, f) => open Classical in if R.sound = true ∧ l = R.spans ∧ f = R.swaSteps.1 ∧ 0 ≤ step ∧ step < R.steps then some (.lst .no 3 (rowsEvt (evAt R step)), m) else none
    | none => none
  | _, _ => none
theorem atTG_at {R : Rc} {step : Int} {m : Mem} (h : R.sound = true) (h1 : 0 ≤ step) (h2 : step < R.steps) : atTG [.agg (tabRow R R.spans R.swaSteps.1), .v (.int .i64 step)] m = some (.lst .no 3 (rowsEvt (evAt R step)), m) := by
  simp only [atTG, unTab_row]
  rw [if_pos ⟨h, trivial, trivial, h1, h2⟩]
theorem growsA_tk {m m' : Mem} (h : Above m m') : GrowsA m (.tok m'.toks.length 0) (m'.tk [0]) := by
  obtain ⟨L, rfl⟩ := h
  exact ⟨m.tk [0], grows_tok, L, rfl⟩
theorem sound_every {R : Rc} (h : R.sound = true) : R.swaOn = true → 0 < R.swaEvery := fun ho => by
  have b := flawIf_nil (show flawIf (R.endBad 18) 18 0 0 = [] from sound_brk h 18 (by decide) (by decide))
  have e : R.endBad 18 = (R.swaOn && ((R.swaEvery == 0) || ((R.swaSteps.2 != 0) || decide (R.swaSteps.1 > R.steps)))) := rfl
  rw [e, ho, Bool.true_and, Bool.or_eq_false_iff] at b
  have := (Rc.may_num (sound_may h)).every ho
  have h0 := b.1
  simp only [beq_eq_false_iff_ne, ne_eq] at h0
  omega
theorem sound_from {R : Rc} : 0 ≤ R.swaSteps.1 ∧ R.swaSteps.1 ≤ 1099511627776 := stepsP_in
def kpAtT : Nat → Option (List Nat) := fun
  | 0 => some [1, 2]
  | 1 => some [1, 2, 5]
  | 2 => some [1, 2, 5, 6]
  | 3 => some [1, 2, 5, 6, 20]
  | 4 => some [1, 2, 5]
  | 5 => some [1, 2, 5, 7, 8]
  | 6 => some [1, 2, 5, 7, 31]
  | 7 => some [1, 2, 5]
  | 8 => some [1, 5, 43]
  | 9 => some [5]
  | 10 => some [4]
  | _ => none
attribute [go_sem] kpAtT
def tab_atT_ok : List (FuncId × (List AV → Mem → Option (AV × Mem))) := [(20, spanAtG), (57, (beginsG true)), (54, swaTG)]
theorem atT_ok : FunOk Tryz.prog 53 atTG := by
  have hC := table_ok (P := Tryz.prog) (l := tab_atT_ok) (table_more spanAt_ok (table_more (begins_ok true) (table_more swaT_ok table_nil)))
  have t1 := fun args mm => table_at (l := tab_atT_ok) (f := 20) (args := args) (m := mm) rfl
  have t2 := fun args mm => table_at (l := tab_atT_ok) (f := 57) (args := args) (m := mm) rfl
  have t3 := fun args mm => table_at (l := tab_atT_ok) (f := 54) (args := args) (m := mm) rfl
  refine fun_ok mixed hC Tryz.func53 rfl kpAtT false rfl fun args m r h => ?_
  unfold atTG at h
  split at h
  · rename_i cs step
    split at h
    · rename_i R l f hR
      obtain rfl := unTab_some hR
      split at h
      · rename_i hyp
        obtain ⟨hs, rfl, rfl, h0, h1⟩ := hyp
        simp only [Option.some.injEq] at h
        subst h
        refine ⟨Nat.le_of_ble_eq_true rfl, ?_⟩
        simp only [entry, List.length_cons, List.length_nil, List.range, List.range.loop, List.zip_cons_cons, List.zip_nil_right]
        have ok := sound_ok' hs
        have hsm := Rc.may_small ok.may
        have hP64 := hsm.2.2.1
        have hst := ok.steps
        obtain ⟨i, hi, hi1, hi2, hidx⟩ := span_at ok h0 h1
        have hbe : beginEv R step = if ((R.spans.getD (spanIdx R step).toNat sp0).from_ == step) = true then beginsAt R (spanIdx R step) step else [] := rfl
        rw [hidx, Int.toNat_natCast, show R.spans.getD i sp0 = ⟨R.at_ i, R.at_ (i + 1)⟩ from spansTo_get hi] at hbe
        have hA := above_push (cs := tabRow R R.spans R.swaSteps.1) (above_self m)
        have hv : (m.push (tabRow R R.spans R.swaSteps.1)).var m.vars.length = some (tabRow R R.spans R.swaSteps.1) := push_var
        have nr := newTb (m := m) (R := R) (l := R.spans) (f := R.swaSteps.1)
        have hG0 : GrowsA m .full (m.push (tabRow R R.spans R.swaSteps.1)) := growsA_push growsA_full
        generalize m.push (tabRow R R.spans R.swaSteps.1) = m1 at hA hv nr hG0
        have hlen : R.spans.length = R.phases.length := spansTo_len
        have c1 := fun mm => spanAtG_eq (m := mm) (g := .no) (l := R.spans) (step := step) (by rw [hlen]; unfold big40; omega)
        rw [show firstBy (spanHas step) R.spans 0 = (i : Int) from hidx] at c1
        have f1 := atSp (g := .no) (kk := .i64) (l := R.spans) (i := i) (by omega)
        rw [show R.spans.getD i sp0 = ⟨R.at_ i, R.at_ (i + 1)⟩ from spansTo_get hi] at f1
        have c3 := fun mm => swaTG_at (R := R) (l := R.spans) (f := R.swaSteps.1) (step := step) (m := mm) (sound_every hs) ⟨h0, by omega⟩ sound_from
        have hsw : swaEv R step = if swaIs R R.swaSteps.1 step = true then [⟨step, 4, (step - R.swaSteps.1).tdiv R.swaEvery⟩] else [] := rfl
        have hso : swaOf R R.swaSteps.1 step = if swaIs R R.swaSteps.1 step = true then ((step - R.swaSteps.1).tdiv R.swaEvery, true) else (0, false) := rfl
        have hen : endEv R step = if (step == R.steps - 1) = true then [⟨step, 11, 0⟩] else [] := rfl
        have hbl := beginEv_len hsm step
        have w1 : IntKind.i64.wrap (R.steps - 1) = R.steps - 1 := i64_wrap (by omega) (by omega)
        unfold evAt
        have l0 := vrTab hv
        have l1 := lpTabS hv
        generalize swaOf R R.swaSteps.1 step = so at c3 hso
        generalize (step - R.swaSteps.1).tdiv R.swaEvery = sn at hsw hso
        generalize swaIs R R.swaSteps.1 step = si at hsw hso
        refine go1 (jn @nr (jn @l1 (jn @t1 (jn @c1 @f1)))) ?_
        refine runs_icut (fun e2 m2 => ∃ gr2 E, GrowsA m gr2 m2 ∧ m2.var m.vars.length = some (tabRow R R.spans R.swaSteps.1) ∧ e2 = (1, AV.v (.int .i64 step)) :: (2, .ptr m.vars.length 0) :: (5, .lst gr2 3 (rowsEvt (beginEv R step))) :: E) ?_ ?_
        · refine runs_cond rfl (fun hc => ?_) (fun hc => ?_)
          · rw [hbe, if_pos hc]
            have c2 := beginsG_at (R := R) (l := R.spans) (f := R.swaSteps.1) (p := (i : Int)) (step := step) (m := m1) (gr := true) hsm (by omega) (by omega)
            rw [if_pos rfl] at c2
            refine go1 (jn @l0 (jn @t2 @c2)) ?_
            exact ⟨rfl, _, _, growsA_tk hA, hv, rfl⟩
          · rw [hbe, if_neg (by rw [hc]; decide)]
            refine go0 ?_
            exact ⟨rfl, _, _, hG0, hv, rfl⟩
        rintro e2 m2 ⟨gr2, E, hG2, hv2, rfl⟩
        generalize beginEv R step = acc at hG2 hbl ⊢
        have l2 := vrTab hv2
        refine next_normal ?_
        refine go1 (jn @l2 (jn @t3 @c3)) ?_
        refine runs_icut (fun e2 m2 => ∃ gr2 E, GrowsA m gr2 m2 ∧ m2.var m.vars.length = some (tabRow R R.spans R.swaSteps.1) ∧ e2 = (1, AV.v (.int .i64 step)) :: (2, .ptr m.vars.length 0) :: (5, .lst gr2 3 (rowsEvt (acc ++ swaEv R step))) :: E) ?_ ?_
        · cases si with
          | true =>
            rw [if_pos rfl] at hsw hso
            subst hso
            refine runs_cond rfl (fun hc => ?_) (fun hc => by cases hc)
            obtain ⟨g3, m3, a1, hG3, hV3⟩ := app_evt (g2 := .full) hG2 acc step 4 sn (by omega)
            rw [hsw]
            refine go1 @a1 ?_
            exact ⟨rfl, _, _, hG3, by rw [hV3]; exact hv2, rfl⟩
          | false =>
            rw [if_neg (by decide)] at hsw hso
            subst hso
            refine runs_cond rfl (fun hc => by cases hc) (fun hc => ?_)
            rw [hsw, List.append_nil]
            refine go0 ?_
            exact ⟨rfl, _, _, hG2, hv2, rfl⟩
        rintro e3 m3 ⟨gr3, E3, hG3, hv3, rfl⟩
        have hl2 : (acc ++ swaEv R step).length ≤ 201 := by
          have : (swaEv R step).length ≤ 1 := by rw [hsw]; split <;> simp
          rw [List.length_append]
          omega
        generalize acc ++ swaEv R step = acc2 at hG3 hl2 ⊢
        have l3 := lpTabSteps hv3
        refine next_normal ?_
        refine go1 (jn @l3 @w1) ?_
        refine runs_cond rfl (fun hc => ?_) (fun hc => ?_)
        · obtain ⟨g4, m4, a1, hG4, hV4⟩ := app_evt (g2 := .full) hG3 acc2 step 11 0 (by omega)
          rw [hen, if_pos hc]
          refine go1 @a1 ?_
          exact leaves_lst rfl rfl (growsA_fin hG4)
        · rw [hen, if_neg (by rw [hc]; decide), List.append_nil]
          refine go0 ?_
          exact leaves_lst rfl rfl (growsA_fin hG3)
      · cases h
    · cases h
  · cases h
end
end Go.Proofs.YtojaokhkbmiidaaGreat.Ev

namespace Go.Proofs.YtojaokhkbmiidaaGreat.Ev
open Go Go.Proofs
set_option maxRecDepth 10000
set_option maxHeartbeats 8000000
set_option linter.unusedVariables false
set_option linter.unusedSimpArgs false
attribute [local irreducible] Next Inside Runs Ops table
attribute [local irreducible] XRuns XOps XNext XInside XAny XStep
attribute [local go_sem] szStr szInt Option.getD_some isNil evStr iv mapRc cellsRc newRc fpRcSteps zrTab zoTab znTab
noncomputable section
def thereOf (O : List AV → Mem → Option (AV × Mem)) : List AV → Mem → Option (AV × Mem)
  | [.agg cs, .v (.int .i64 step)], m =>
    match unRc cs, O [.agg cs] (m.push cs |>.push zeroTab) with
    | some R, some (.tup [.agg T, .v (.int .i64 x)], m') => open Classical in if m' = (m.push cs |>.push zeroTab) ∧ T.length = 34 ∧ cellsOf (.agg T) = some T ∧ T.mapM (resCell m.vars.length) = some T ∧ (∀ q, T.all (refLe q) = true) then some (.tup [.agg T, .v (.bool ((x == 0) && (decide (step ≥ 0) && decide (step < R.steps))))], m) else none
    | _, _ => none
  | _, _ => none
theorem vrTab34 {m : Mem} {r : Nat} {T : List AV} (hv : m.var r = some T) (h : T.length = 34) : evLoad Tryz.prog m 90 (.ptr r 0) = some (.agg T) := by
  unfold evLoad
  simp only [ptrCells, hv, Option.map_some, szTab, agTab, List.drop_zero]
  rw [if_pos (by omega)]
  simp [← h]
theorem x_sets1 {P : Program} {call : CallF} {nt : Nat} {φ₀ : Phi} {m₀ : Mem} {w₀ : World} (hm : P.follows .mixedOrders = true) (hC : CallOk P call) {id : Nat} {l : List Oper} {l2 : Option (List Nat)} {F : Objs} {Q : PostF} {e : Env} {m m' : Mem} (hD : drawnS l = true) (A : Nat → AV) (MS : (Nat → Bool) → Mem)
    (hM0 : ∀ r, m.var r = (MS fun _ => false).var r) (hM1 : m.toks = (MS fun _ => false).toks) (hT : ∀ (k : Nat) o, l[k]? = some o → putAV nt o.dst (A k) (envOf l A e k) = some (envOf l A e (k + 1)))
    (hW : ∀ (k : Nat) o, l[k]? = some o → ∃ b, wantedAV l.toArray (envOf l A e k) o = some b ∧ (b = false → A k = .v (.tuple #[])))
    (hM : ∀ S (i : Nat) o, l[i]? = some o → ClosedS l S → S i = false → (∀ e ∈ o.after.toList, Region.binds .any e = true → S e.on = true) →
      (wantedAV l.toArray (envOf l A e i) o = some true → SOp P call (envOf l A e i) (MS S) o (A i) (MS (ins S i))) ∧ (wantedAV l.toArray (envOf l A e i) o = some false → MS (ins S i) = MS S))
    (hend : ∀ S, (∀ j, j < l.length → S j = true) → MS S = m') (hQ : ∀ e2, Ev.restr l2 (envOf l A e l.length) = e2 → Q .normal e2 m' F) : XRuns P φ₀ m₀ w₀ nt (.region id l.toArray true) e m F Q :=
  x_sets (E := envOf l A e) (A := A) (MS := MS) hm hC hD rfl hM0 hM1 hT hW hM hend hQ
def kpThere : Nat → Option (List Nat) := fun
  | 0 => some [1, 2, 4]
  | 1 => some [1, 2, 4, 6, 7]
  | 2 => some [4, 5]
  | _ => none
attribute [go_sem] kpThere
theorem there_ok {O : List AV → Mem → Option (AV × Mem)} (hO : FunOk Tryz.prog 56 O) : FunOk Tryz.prog 52 (thereOf O) := by
  have hC := table_ok (P := Tryz.prog) (l := [(56, O)]) (table_more hO table_nil)
  have t1 := fun args mm => table_at (l := [(56, O)]) (f := 56) (args := args) (m := mm) rfl
  refine fun_okX Tryz.func52 rfl false rfl fun args m r h => ?_
  unfold thereOf at h
  split at h
  · rename_i cs step
    split at h
    · rename_i R T x m' hR hO1
      obtain rfl := unRc_some hR
      split at h
      · rename_i hyp
        obtain ⟨rfl, hT, hTc, hTr, hTk⟩ := hyp
        simp only [Option.some.injEq] at h
        subst h
        refine ⟨Nat.le_of_ble_eq_true rfl, fun φ w => ?_⟩
        simp only [entry, List.length_cons, List.length_nil, List.range, List.range.loop, List.zip_cons_cons, List.zip_nil_right]
        have hA := above_push (cs := R.row) (above_self m)
        have hv := push_var (m := m) (cs := R.row)
        have hz4 : ((m.push R.row).push zeroTab).var (m.push R.row).vars.length = some zeroTab := push_var
        have hA1 := above_push (cs := zeroTab) hA
        have hv1 := push_old (cs' := zeroTab) hv
        have hne : m.vars.length ≠ (m.push R.row).vars.length := by rw [push_len]; omega
        repeat (first | refine x_seq ?_ | refine x_block ?_ | refine xn_normal ?_ | refine xi_normal ?_ | refine xn_exit ?_ | refine xi_exit ?_ | refine xi_other (by decide) ?_ | refine xn_ret ?_ | refine xi_ret ?_ | refine x_skip ?_ | refine x_exit ?_ | refine x_ret ?_)
        refine x_region (kp := kpThere) mixed hC ?_
        refine go0 ?_
        repeat (first | refine x_seq ?_ | refine x_block ?_ | refine xn_normal ?_ | refine xi_normal ?_ | refine xn_exit ?_ | refine xi_exit ?_ | refine xi_other (by decide) ?_ | refine xn_ret ?_ | refine xi_ret ?_ | refine x_skip ?_ | refine x_exit ?_ | refine x_ret ?_)
        refine x_region (kp := kpThere) mixed hC ?_
        have hT6 : ((m.push R.row |>.push zeroTab).push T).var (m.push R.row |>.push zeroTab).vars.length = some T := push_var
        have hA2 := above_push (cs := T) hA1
        have hv2 := push_old (cs' := T) hv1
        have hz2 := push_old (cs' := T) hz4
        have hne2 : (m.push R.row |>.push zeroTab).vars.length ≠ (m.push R.row).vars.length := by rw [push_len]; omega
        have nz : newVar (m.push R.row |>.push zeroTab) (m.push R.row |>.push zeroTab).vars.length zeroTab = some ((m.push R.row |>.push zeroTab).push zeroTab) := znTab
        have st6 : evStore Tryz.prog ((m.push R.row |>.push zeroTab).push zeroTab) 90 (.ptr (m.push R.row |>.push zeroTab).vars.length 0) (.agg T) = some ((m.push R.row |>.push zeroTab).push T) := by
          rw [storeTb (old := zeroTab) push_var rfl hT hTc (hTk _), setv_push]
        have l0 := vrRc hv1
        refine go1 (jn @l0 (jn @t1 (jn @hO1 (jn @nz @st6)))) ?_
        generalize hm2 : (m.push R.row |>.push zeroTab).push T = m2 at hT6 hA2 hv2 hz2
        generalize hn6 : (m.push R.row |>.push zeroTab).vars.length = n6 at hT6 hne2
        have hn4le : m.vars.length ≤ (m.push R.row).vars.length := by rw [push_len]; omega
        generalize hn4 : (m.push R.row).vars.length = n4 at hz2 hne hne2 hn4le
        have hz4 := hz2
        let MS : (Nat → Bool) → Mem := fun S => if S 13 = true then setv m2 n4 T else m2
        have hRS : ∀ S, (MS S).var m.vars.length = some R.row := fun S => by
          show (if S 13 = true then _ else _ : Mem).var _ = _
          split
          · exact var_set_ne hne hv2
          · exact hv2
        have hTS : ∀ S, evLoad Tryz.prog (MS S) 90 (.ptr n6 0) = some (.agg T) := fun S => vrTab34 (by
          show (if S 13 = true then _ else _ : Mem).var _ = _
          split
          · exact var_set_ne hne2 hT6
          · exact hT6) hT
        have hend : ∀ (b : Bool), XLeaves Tryz.prog false Tryz.f52 m (.tup [.agg T, .v (.bool b)], m) .ret [(4, .ptr n4 0), (5, .v (.bool b))] (setv m2 n4 T) [] := fun b => by
          refine x_leaves (leaves_cell (x0 := .agg T) rfl (vrTab34 (setv_self hz2) hT) ?_ rfl (above_fin (above_setv hA2 hn4le)))
          show (T.mapM (resCell m.vars.length)).map AV.agg = _
          rw [hTr]
          rfl
        repeat (first | refine x_seq ?_ | refine x_block ?_ | refine xn_normal ?_ | refine xi_normal ?_ | refine xn_exit ?_ | refine xi_exit ?_ | refine xi_other (by decide) ?_ | refine xn_ret ?_ | refine xi_ret ?_ | refine x_skip ?_ | refine x_exit ?_ | refine x_ret ?_)
        cases h0 : (x == 0) with
        | false =>
          refine x_sets1 (l2 := kpThere 2) (m' := setv m2 n4 T) mixed hC (by decide +kernel) (fun i => [.agg T, .v (.int .i64 x), .v (.bool false), .v (.bool false), .v (.tuple #[]), .v (.tuple #[]), .v (.bool false), .v (.bool false), .v (.tuple #[]), .v (.tuple #[]), .v (.tuple #[]), .v (.tuple #[]), .v (.bool false), .v (.tuple #[]), .v (.bool false)].getD i .junk) MS (fun r => rfl) rfl ?_ ?_ ?_ ?_ ?_
          · intro k o ho
            match k, ho with
            | 0, ho => cases ho; rfl
            | 1, ho => cases ho; rfl
            | 2, ho => cases ho; rfl
            | 3, ho => cases ho; rfl
            | 4, ho => cases ho; rfl
            | 5, ho => cases ho; rfl
            | 6, ho => cases ho; rfl
            | 7, ho => cases ho; rfl
            | 8, ho => cases ho; rfl
            | 9, ho => cases ho; rfl
            | 10, ho => cases ho; rfl
            | 11, ho => cases ho; rfl
            | 12, ho => cases ho; rfl
            | 13, ho => cases ho; rfl
            | 14, ho => cases ho; rfl
          · intro k o ho
            match k, ho with
            | 0, ho => cases ho; exact ⟨true, rfl, fun h => by first | rfl | cases h⟩
            | 1, ho => cases ho; exact ⟨true, rfl, fun h => by first | rfl | cases h⟩
            | 2, ho => cases ho; exact ⟨true, rfl, fun h => by first | rfl | cases h⟩
            | 3, ho => cases ho; exact ⟨true, rfl, fun h => by first | rfl | cases h⟩
            | 4, ho => cases ho; exact ⟨false, rfl, fun h => by first | rfl | cases h⟩
            | 5, ho => cases ho; exact ⟨false, rfl, fun h => by first | rfl | cases h⟩
            | 6, ho => cases ho; exact ⟨true, rfl, fun h => by first | rfl | cases h⟩
            | 7, ho => cases ho; exact ⟨true, rfl, fun h => by first | rfl | cases h⟩
            | 8, ho => cases ho; exact ⟨false, rfl, fun h => by first | rfl | cases h⟩
            | 9, ho => cases ho; exact ⟨false, rfl, fun h => by first | rfl | cases h⟩
            | 10, ho => cases ho; exact ⟨false, rfl, fun h => by first | rfl | cases h⟩
            | 11, ho => cases ho; exact ⟨false, rfl, fun h => by first | rfl | cases h⟩
            | 12, ho => cases ho; exact ⟨true, rfl, fun h => by first | rfl | cases h⟩
            | 13, ho => cases ho; exact ⟨true, rfl, fun h => by first | rfl | cases h⟩
            | 14, ho => cases ho; exact ⟨true, rfl, fun h => by first | rfl | cases h⟩
          · intro S i o ho hc hi hr
            match i, ho with
            | 0, ho =>
              cases ho
              refine ⟨fun _ => .inl ?_, fun _ => rfl⟩
              show _ = some (_, MS S)
              have l1 := hTS S
              have l2 := lpRcSteps (hRS S)
              simp only [go_sem, reduceIte, Nat.reduceEqDiff, reduceCtorEq, Int.reduceEq, envOf, List.getElem?_cons_zero, List.getElem?_cons_succ, Option.bind_some, List.getD_cons_zero, List.getD_cons_succ, List.getElem?_toArray, l1, l2, h0]
              try rfl
            | 1, ho =>
              cases ho
              refine ⟨fun _ => .inl ?_, fun _ => rfl⟩
              show _ = some (_, MS S)
              have l1 := hTS S
              have l2 := lpRcSteps (hRS S)
              simp only [go_sem, reduceIte, Nat.reduceEqDiff, reduceCtorEq, Int.reduceEq, envOf, List.getElem?_cons_zero, List.getElem?_cons_succ, Option.bind_some, List.getD_cons_zero, List.getD_cons_succ, List.getElem?_toArray, l1, l2, h0]
              try rfl
            | 2, ho =>
              cases ho
              refine ⟨fun _ => .inl ?_, fun _ => rfl⟩
              show _ = some (_, MS S)
              have l1 := hTS S
              have l2 := lpRcSteps (hRS S)
              simp only [go_sem, reduceIte, Nat.reduceEqDiff, reduceCtorEq, Int.reduceEq, envOf, List.getElem?_cons_zero, List.getElem?_cons_succ, Option.bind_some, List.getD_cons_zero, List.getD_cons_succ, List.getElem?_toArray, l1, l2, h0]
              try rfl
            | 3, ho =>
              cases ho
              refine ⟨fun _ => .inl ?_, fun _ => rfl⟩
              show _ = some (_, MS S)
              have l1 := hTS S
              have l2 := lpRcSteps (hRS S)
              simp only [go_sem, reduceIte, Nat.reduceEqDiff, reduceCtorEq, Int.reduceEq, envOf, List.getElem?_cons_zero, List.getElem?_cons_succ, Option.bind_some, List.getD_cons_zero, List.getD_cons_succ, List.getElem?_toArray, l1, l2, h0]
              try rfl
            | 4, ho =>
              cases ho
              exact ⟨fun hw => (by cases hw), fun _ => rfl⟩
            | 5, ho =>
              cases ho
              exact ⟨fun hw => (by cases hw), fun _ => rfl⟩
            | 6, ho =>
              cases ho
              refine ⟨fun _ => .inl ?_, fun _ => rfl⟩
              show _ = some (_, MS S)
              have l1 := hTS S
              have l2 := lpRcSteps (hRS S)
              simp only [go_sem, reduceIte, Nat.reduceEqDiff, reduceCtorEq, Int.reduceEq, envOf, List.getElem?_cons_zero, List.getElem?_cons_succ, Option.bind_some, List.getD_cons_zero, List.getD_cons_succ, List.getElem?_toArray, l1, l2, h0]
              try rfl
            | 7, ho =>
              cases ho
              refine ⟨fun _ => .inl ?_, fun _ => rfl⟩
              show _ = some (_, MS S)
              have l1 := hTS S
              have l2 := lpRcSteps (hRS S)
              simp only [go_sem, reduceIte, Nat.reduceEqDiff, reduceCtorEq, Int.reduceEq, envOf, List.getElem?_cons_zero, List.getElem?_cons_succ, Option.bind_some, List.getD_cons_zero, List.getD_cons_succ, List.getElem?_toArray, l1, l2, h0]
              try rfl
            | 8, ho =>
              cases ho
              exact ⟨fun hw => (by cases hw), fun _ => rfl⟩
            | 9, ho =>
              cases ho
              exact ⟨fun hw => (by cases hw), fun _ => rfl⟩
            | 10, ho =>
              cases ho
              exact ⟨fun hw => (by cases hw), fun _ => rfl⟩
            | 11, ho =>
              cases ho
              exact ⟨fun hw => (by cases hw), fun _ => rfl⟩
            | 12, ho =>
              cases ho
              refine ⟨fun _ => .inl ?_, fun _ => rfl⟩
              show _ = some (_, MS S)
              have l1 := hTS S
              have l2 := lpRcSteps (hRS S)
              simp only [go_sem, reduceIte, Nat.reduceEqDiff, reduceCtorEq, Int.reduceEq, envOf, List.getElem?_cons_zero, List.getElem?_cons_succ, Option.bind_some, List.getD_cons_zero, List.getD_cons_succ, List.getElem?_toArray, l1, l2, h0]
              try rfl
            | 13, ho =>
              cases ho
              refine ⟨fun _ => .inl ?_, fun hw => by cases hw⟩
              have e1 : MS S = m2 := by show (if S 13 = true then _ else _) = _; rw [hi]; rfl
              have e2 : MS (ins S 13) = setv m2 n4 T := rfl
              rw [e1, e2]
              have st := storeTb hz4 rfl hT hTc (hTk _)
              simp only [go_sem, reduceIte, Nat.reduceEqDiff, reduceCtorEq, Int.reduceEq, envOf, List.getElem?_cons_zero, List.getElem?_cons_succ, Option.bind_some, List.getD_cons_zero, List.getD_cons_succ, List.getElem?_toArray, st]
              try rfl
            | 14, ho =>
              cases ho
              refine ⟨fun _ => .inl ?_, fun _ => rfl⟩
              show _ = some (_, MS S)
              have l1 := hTS S
              have l2 := lpRcSteps (hRS S)
              simp only [go_sem, reduceIte, Nat.reduceEqDiff, reduceCtorEq, Int.reduceEq, envOf, List.getElem?_cons_zero, List.getElem?_cons_succ, Option.bind_some, List.getD_cons_zero, List.getD_cons_succ, List.getElem?_toArray, l1, l2, h0]
              try rfl
          · intro S hS
            exact if_pos (hS 13 (by decide))
          · rintro e2 rfl
            repeat (first | refine x_seq ?_ | refine x_block ?_ | refine xn_normal ?_ | refine xi_normal ?_ | refine xn_exit ?_ | refine xi_exit ?_ | refine xi_other (by decide) ?_ | refine xn_ret ?_ | refine xi_ret ?_ | refine x_skip ?_ | refine x_exit ?_ | refine x_ret ?_)
            exact hend _
        | true =>
          cases h1 : decide (step ≥ 0) with
          | false =>
            refine x_sets1 (l2 := kpThere 2) (m' := setv m2 n4 T) mixed hC (by decide +kernel) (fun i => [.agg T, .v (.int .i64 x), .v (.bool true), .v (.bool true), .v (.int .i64 step), .v (.bool false), .v (.bool false), .v (.bool false), .v (.tuple #[]), .v (.tuple #[]), .v (.tuple #[]), .v (.tuple #[]), .v (.bool false), .v (.tuple #[]), .v (.bool false)].getD i .junk) MS (fun r => rfl) rfl ?_ ?_ ?_ ?_ ?_
            · intro k o ho
              match k, ho with
              | 0, ho => cases ho; rfl
              | 1, ho => cases ho; rfl
              | 2, ho => cases ho; rfl
              | 3, ho => cases ho; rfl
              | 4, ho => cases ho; rfl
              | 5, ho => cases ho; rfl
              | 6, ho => cases ho; rfl
              | 7, ho => cases ho; rfl
              | 8, ho => cases ho; rfl
              | 9, ho => cases ho; rfl
              | 10, ho => cases ho; rfl
              | 11, ho => cases ho; rfl
              | 12, ho => cases ho; rfl
              | 13, ho => cases ho; rfl
              | 14, ho => cases ho; rfl
            · intro k o ho
              match k, ho with
              | 0, ho => cases ho; exact ⟨true, rfl, fun h => by first | rfl | cases h⟩
              | 1, ho => cases ho; exact ⟨true, rfl, fun h => by first | rfl | cases h⟩
              | 2, ho => cases ho; exact ⟨true, rfl, fun h => by first | rfl | cases h⟩
              | 3, ho => cases ho; exact ⟨true, rfl, fun h => by first | rfl | cases h⟩
              | 4, ho => cases ho; exact ⟨true, rfl, fun h => by first | rfl | cases h⟩
              | 5, ho => cases ho; exact ⟨true, rfl, fun h => by first | rfl | cases h⟩
              | 6, ho => cases ho; exact ⟨true, rfl, fun h => by first | rfl | cases h⟩
              | 7, ho => cases ho; exact ⟨true, rfl, fun h => by first | rfl | cases h⟩
              | 8, ho => cases ho; exact ⟨false, rfl, fun h => by first | rfl | cases h⟩
              | 9, ho => cases ho; exact ⟨false, rfl, fun h => by first | rfl | cases h⟩
              | 10, ho => cases ho; exact ⟨false, rfl, fun h => by first | rfl | cases h⟩
              | 11, ho => cases ho; exact ⟨false, rfl, fun h => by first | rfl | cases h⟩
              | 12, ho => cases ho; exact ⟨true, rfl, fun h => by first | rfl | cases h⟩
              | 13, ho => cases ho; exact ⟨true, rfl, fun h => by first | rfl | cases h⟩
              | 14, ho => cases ho; exact ⟨true, rfl, fun h => by first | rfl | cases h⟩
            · intro S i o ho hc hi hr
              match i, ho with
              | 0, ho =>
                cases ho
                refine ⟨fun _ => .inl ?_, fun _ => rfl⟩
                show _ = some (_, MS S)
                have l1 := hTS S
                have l2 := lpRcSteps (hRS S)
                simp only [go_sem, reduceIte, Nat.reduceEqDiff, reduceCtorEq, Int.reduceEq, envOf, List.getElem?_cons_zero, List.getElem?_cons_succ, Option.bind_some, List.getD_cons_zero, List.getD_cons_succ, List.getElem?_toArray, l1, l2, h0, h1]
                try rfl
              | 1, ho =>
                cases ho
                refine ⟨fun _ => .inl ?_, fun _ => rfl⟩
                show _ = some (_, MS S)
                have l1 := hTS S
                have l2 := lpRcSteps (hRS S)
                simp only [go_sem, reduceIte, Nat.reduceEqDiff, reduceCtorEq, Int.reduceEq, envOf, List.getElem?_cons_zero, List.getElem?_cons_succ, Option.bind_some, List.getD_cons_zero, List.getD_cons_succ, List.getElem?_toArray, l1, l2, h0, h1]
                try rfl
              | 2, ho =>
                cases ho
                refine ⟨fun _ => .inl ?_, fun _ => rfl⟩
                show _ = some (_, MS S)
                have l1 := hTS S
                have l2 := lpRcSteps (hRS S)
                simp only [go_sem, reduceIte, Nat.reduceEqDiff, reduceCtorEq, Int.reduceEq, envOf, List.getElem?_cons_zero, List.getElem?_cons_succ, Option.bind_some, List.getD_cons_zero, List.getD_cons_succ, List.getElem?_toArray, l1, l2, h0, h1]
                try rfl
              | 3, ho =>
                cases ho
                refine ⟨fun _ => .inl ?_, fun _ => rfl⟩
                show _ = some (_, MS S)
                have l1 := hTS S
                have l2 := lpRcSteps (hRS S)
                simp only [go_sem, reduceIte, Nat.reduceEqDiff, reduceCtorEq, Int.reduceEq, envOf, List.getElem?_cons_zero, List.getElem?_cons_succ, Option.bind_some, List.getD_cons_zero, List.getD_cons_succ, List.getElem?_toArray, l1, l2, h0, h1]
                try rfl
              | 4, ho =>
                cases ho
                refine ⟨fun _ => .inl ?_, fun _ => rfl⟩
                show _ = some (_, MS S)
                have l1 := hTS S
                have l2 := lpRcSteps (hRS S)
                simp only [go_sem, reduceIte, Nat.reduceEqDiff, reduceCtorEq, Int.reduceEq, envOf, List.getElem?_cons_zero, List.getElem?_cons_succ, Option.bind_some, List.getD_cons_zero, List.getD_cons_succ, List.getElem?_toArray, l1, l2, h0, h1]
                try rfl
              | 5, ho =>
                cases ho
                refine ⟨fun _ => .inl ?_, fun _ => rfl⟩
                show _ = some (_, MS S)
                have l1 := hTS S
                have l2 := lpRcSteps (hRS S)
                simp only [go_sem, reduceIte, Nat.reduceEqDiff, reduceCtorEq, Int.reduceEq, envOf, List.getElem?_cons_zero, List.getElem?_cons_succ, Option.bind_some, List.getD_cons_zero, List.getD_cons_succ, List.getElem?_toArray, l1, l2, h0, h1]
                try rfl
              | 6, ho =>
                cases ho
                refine ⟨fun _ => .inl ?_, fun _ => rfl⟩
                show _ = some (_, MS S)
                have l1 := hTS S
                have l2 := lpRcSteps (hRS S)
                simp only [go_sem, reduceIte, Nat.reduceEqDiff, reduceCtorEq, Int.reduceEq, envOf, List.getElem?_cons_zero, List.getElem?_cons_succ, Option.bind_some, List.getD_cons_zero, List.getD_cons_succ, List.getElem?_toArray, l1, l2, h0, h1]
                try rfl
              | 7, ho =>
                cases ho
                refine ⟨fun _ => .inl ?_, fun _ => rfl⟩
                show _ = some (_, MS S)
                have l1 := hTS S
                have l2 := lpRcSteps (hRS S)
                simp only [go_sem, reduceIte, Nat.reduceEqDiff, reduceCtorEq, Int.reduceEq, envOf, List.getElem?_cons_zero, List.getElem?_cons_succ, Option.bind_some, List.getD_cons_zero, List.getD_cons_succ, List.getElem?_toArray, l1, l2, h0, h1]
                try rfl
              | 8, ho =>
                cases ho
                exact ⟨fun hw => (by cases hw), fun _ => rfl⟩
              | 9, ho =>
                cases ho
                exact ⟨fun hw => (by cases hw), fun _ => rfl⟩
              | 10, ho =>
                cases ho
                exact ⟨fun hw => (by cases hw), fun _ => rfl⟩
              | 11, ho =>
                cases ho
                exact ⟨fun hw => (by cases hw), fun _ => rfl⟩
              | 12, ho =>
                cases ho
                refine ⟨fun _ => .inl ?_, fun _ => rfl⟩
                show _ = some (_, MS S)
                have l1 := hTS S
                have l2 := lpRcSteps (hRS S)
                simp only [go_sem, reduceIte, Nat.reduceEqDiff, reduceCtorEq, Int.reduceEq, envOf, List.getElem?_cons_zero, List.getElem?_cons_succ, Option.bind_some, List.getD_cons_zero, List.getD_cons_succ, List.getElem?_toArray, l1, l2, h0, h1]
                try rfl
              | 13, ho =>
                cases ho
                refine ⟨fun _ => .inl ?_, fun hw => by cases hw⟩
                have e1 : MS S = m2 := by show (if S 13 = true then _ else _) = _; rw [hi]; rfl
                have e2 : MS (ins S 13) = setv m2 n4 T := rfl
                rw [e1, e2]
                have st := storeTb hz4 rfl hT hTc (hTk _)
                simp only [go_sem, reduceIte, Nat.reduceEqDiff, reduceCtorEq, Int.reduceEq, envOf, List.getElem?_cons_zero, List.getElem?_cons_succ, Option.bind_some, List.getD_cons_zero, List.getD_cons_succ, List.getElem?_toArray, st]
                try rfl
              | 14, ho =>
                cases ho
                refine ⟨fun _ => .inl ?_, fun _ => rfl⟩
                show _ = some (_, MS S)
                have l1 := hTS S
                have l2 := lpRcSteps (hRS S)
                simp only [go_sem, reduceIte, Nat.reduceEqDiff, reduceCtorEq, Int.reduceEq, envOf, List.getElem?_cons_zero, List.getElem?_cons_succ, Option.bind_some, List.getD_cons_zero, List.getD_cons_succ, List.getElem?_toArray, l1, l2, h0, h1]
                try rfl
            · intro S hS
              exact if_pos (hS 13 (by decide))
            · rintro e2 rfl
              repeat (first | refine x_seq ?_ | refine x_block ?_ | refine xn_normal ?_ | refine xi_normal ?_ | refine xn_exit ?_ | refine xi_exit ?_ | refine xi_other (by decide) ?_ | refine xn_ret ?_ | refine xi_ret ?_ | refine x_skip ?_ | refine x_exit ?_ | refine x_ret ?_)
              exact hend _
          | true =>
            refine x_sets1 (l2 := kpThere 2) (m' := setv m2 n4 T) mixed hC (by decide +kernel) (fun i => [.agg T, .v (.int .i64 x), .v (.bool true), .v (.bool true), .v (.int .i64 step), .v (.bool true), .v (.bool true), .v (.bool true), .v (.int .i64 step), .ptr m.vars.length 1, .v (.int .i64 R.steps), .v (.bool (decide (step < R.steps))), .v (.bool (decide (step < R.steps))), .v (.tuple #[]), .v (.bool (decide (step < R.steps)))].getD i .junk) MS (fun r => rfl) rfl ?_ ?_ ?_ ?_ ?_
            · intro k o ho
              match k, ho with
              | 0, ho => cases ho; rfl
              | 1, ho => cases ho; rfl
              | 2, ho => cases ho; rfl
              | 3, ho => cases ho; rfl
              | 4, ho => cases ho; rfl
              | 5, ho => cases ho; rfl
              | 6, ho => cases ho; rfl
              | 7, ho => cases ho; rfl
              | 8, ho => cases ho; rfl
              | 9, ho => cases ho; rfl
              | 10, ho => cases ho; rfl
              | 11, ho => cases ho; rfl
              | 12, ho => cases ho; rfl
              | 13, ho => cases ho; rfl
              | 14, ho => cases ho; rfl
            · intro k o ho
              match k, ho with
              | 0, ho => cases ho; exact ⟨true, rfl, fun h => by first | rfl | cases h⟩
              | 1, ho => cases ho; exact ⟨true, rfl, fun h => by first | rfl | cases h⟩
              | 2, ho => cases ho; exact ⟨true, rfl, fun h => by first | rfl | cases h⟩
              | 3, ho => cases ho; exact ⟨true, rfl, fun h => by first | rfl | cases h⟩
              | 4, ho => cases ho; exact ⟨true, rfl, fun h => by first | rfl | cases h⟩
              | 5, ho => cases ho; exact ⟨true, rfl, fun h => by first | rfl | cases h⟩
              | 6, ho => cases ho; exact ⟨true, rfl, fun h => by first | rfl | cases h⟩
              | 7, ho => cases ho; exact ⟨true, rfl, fun h => by first | rfl | cases h⟩
              | 8, ho => cases ho; exact ⟨true, rfl, fun h => by first | rfl | cases h⟩
              | 9, ho => cases ho; exact ⟨true, rfl, fun h => by first | rfl | cases h⟩
              | 10, ho => cases ho; exact ⟨true, rfl, fun h => by first | rfl | cases h⟩
              | 11, ho => cases ho; exact ⟨true, rfl, fun h => by first | rfl | cases h⟩
              | 12, ho => cases ho; exact ⟨true, rfl, fun h => by first | rfl | cases h⟩
              | 13, ho => cases ho; exact ⟨true, rfl, fun h => by first | rfl | cases h⟩
              | 14, ho => cases ho; exact ⟨true, rfl, fun h => by first | rfl | cases h⟩
            · intro S i o ho hc hi hr
              match i, ho with
              | 0, ho =>
                cases ho
                refine ⟨fun _ => .inl ?_, fun _ => rfl⟩
                show _ = some (_, MS S)
                have l1 := hTS S
                have l2 := lpRcSteps (hRS S)
                simp only [go_sem, reduceIte, Nat.reduceEqDiff, reduceCtorEq, Int.reduceEq, envOf, List.getElem?_cons_zero, List.getElem?_cons_succ, Option.bind_some, List.getD_cons_zero, List.getD_cons_succ, List.getElem?_toArray, l1, l2, h0, h1]
                try rfl
              | 1, ho =>
                cases ho
                refine ⟨fun _ => .inl ?_, fun _ => rfl⟩
                show _ = some (_, MS S)
                have l1 := hTS S
                have l2 := lpRcSteps (hRS S)
                simp only [go_sem, reduceIte, Nat.reduceEqDiff, reduceCtorEq, Int.reduceEq, envOf, List.getElem?_cons_zero, List.getElem?_cons_succ, Option.bind_some, List.getD_cons_zero, List.getD_cons_succ, List.getElem?_toArray, l1, l2, h0, h1]
                try rfl
              | 2, ho =>
                cases ho
                refine ⟨fun _ => .inl ?_, fun _ => rfl⟩
                show _ = some (_, MS S)
                have l1 := hTS S
                have l2 := lpRcSteps (hRS S)
                simp only [go_sem, reduceIte, Nat.reduceEqDiff, reduceCtorEq, Int.reduceEq, envOf, List.getElem?_cons_zero, List.getElem?_cons_succ, Option.bind_some, List.getD_cons_zero, List.getD_cons_succ, List.getElem?_toArray, l1, l2, h0, h1]
                try rfl
              | 3, ho =>
                cases ho
                refine ⟨fun _ => .inl ?_, fun _ => rfl⟩
                show _ = some (_, MS S)
                have l1 := hTS S
                have l2 := lpRcSteps (hRS S)
                simp only [go_sem, reduceIte, Nat.reduceEqDiff, reduceCtorEq, Int.reduceEq, envOf, List.getElem?_cons_zero, List.getElem?_cons_succ, Option.bind_some, List.getD_cons_zero, List.getD_cons_succ, List.getElem?_toArray, l1, l2, h0, h1]
                try rfl
              | 4, ho =>
                cases ho
                refine ⟨fun _ => .inl ?_, fun _ => rfl⟩
                show _ = some (_, MS S)
                have l1 := hTS S
                have l2 := lpRcSteps (hRS S)
                simp only [go_sem, reduceIte, Nat.reduceEqDiff, reduceCtorEq, Int.reduceEq, envOf, List.getElem?_cons_zero, List.getElem?_cons_succ, Option.bind_some, List.getD_cons_zero, List.getD_cons_succ, List.getElem?_toArray, l1, l2, h0, h1]
                try rfl
              | 5, ho =>
                cases ho
                refine ⟨fun _ => .inl ?_, fun _ => rfl⟩
                show _ = some (_, MS S)
                have l1 := hTS S
                have l2 := lpRcSteps (hRS S)
                simp only [go_sem, reduceIte, Nat.reduceEqDiff, reduceCtorEq, Int.reduceEq, envOf, List.getElem?_cons_zero, List.getElem?_cons_succ, Option.bind_some, List.getD_cons_zero, List.getD_cons_succ, List.getElem?_toArray, l1, l2, h0, h1]
                try rfl
              | 6, ho =>
                cases ho
                refine ⟨fun _ => .inl ?_, fun _ => rfl⟩
                show _ = some (_, MS S)
                have l1 := hTS S
                have l2 := lpRcSteps (hRS S)
                simp only [go_sem, reduceIte, Nat.reduceEqDiff, reduceCtorEq, Int.reduceEq, envOf, List.getElem?_cons_zero, List.getElem?_cons_succ, Option.bind_some, List.getD_cons_zero, List.getD_cons_succ, List.getElem?_toArray, l1, l2, h0, h1]
                try rfl
              | 7, ho =>
                cases ho
                refine ⟨fun _ => .inl ?_, fun _ => rfl⟩
                show _ = some (_, MS S)
                have l1 := hTS S
                have l2 := lpRcSteps (hRS S)
                simp only [go_sem, reduceIte, Nat.reduceEqDiff, reduceCtorEq, Int.reduceEq, envOf, List.getElem?_cons_zero, List.getElem?_cons_succ, Option.bind_some, List.getD_cons_zero, List.getD_cons_succ, List.getElem?_toArray, l1, l2, h0, h1]
                try rfl
              | 8, ho =>
                cases ho
                refine ⟨fun _ => .inl ?_, fun _ => rfl⟩
                show _ = some (_, MS S)
                have l1 := hTS S
                have l2 := lpRcSteps (hRS S)
                simp only [go_sem, reduceIte, Nat.reduceEqDiff, reduceCtorEq, Int.reduceEq, envOf, List.getElem?_cons_zero, List.getElem?_cons_succ, Option.bind_some, List.getD_cons_zero, List.getD_cons_succ, List.getElem?_toArray, l1, l2, h0, h1]
                try rfl
              | 9, ho =>
                cases ho
                refine ⟨fun _ => .inl ?_, fun _ => rfl⟩
                show _ = some (_, MS S)
                have l1 := hTS S
                have l2 := lpRcSteps (hRS S)
                simp only [go_sem, reduceIte, Nat.reduceEqDiff, reduceCtorEq, Int.reduceEq, envOf, List.getElem?_cons_zero, List.getElem?_cons_succ, Option.bind_some, List.getD_cons_zero, List.getD_cons_succ, List.getElem?_toArray, l1, l2, h0, h1]
                try rfl
              | 10, ho =>
                cases ho
                refine ⟨fun _ => .inl ?_, fun _ => rfl⟩
                show _ = some (_, MS S)
                have l1 := hTS S
                have l2 := lpRcSteps (hRS S)
                simp only [go_sem, reduceIte, Nat.reduceEqDiff, reduceCtorEq, Int.reduceEq, envOf, List.getElem?_cons_zero, List.getElem?_cons_succ, Option.bind_some, List.getD_cons_zero, List.getD_cons_succ, List.getElem?_toArray, l1, l2, h0, h1]
                try rfl
              | 11, ho =>
                cases ho
                refine ⟨fun _ => .inl ?_, fun _ => rfl⟩
                show _ = some (_, MS S)
                have l1 := hTS S
                have l2 := lpRcSteps (hRS S)
                simp only [go_sem, reduceIte, Nat.reduceEqDiff, reduceCtorEq, Int.reduceEq, envOf, List.getElem?_cons_zero, List.getElem?_cons_succ, Option.bind_some, List.getD_cons_zero, List.getD_cons_succ, List.getElem?_toArray, l1, l2, h0, h1]
                try rfl
              | 12, ho =>
                cases ho
                refine ⟨fun _ => .inl ?_, fun _ => rfl⟩
                show _ = some (_, MS S)
                have l1 := hTS S
                have l2 := lpRcSteps (hRS S)
                simp only [go_sem, reduceIte, Nat.reduceEqDiff, reduceCtorEq, Int.reduceEq, envOf, List.getElem?_cons_zero, List.getElem?_cons_succ, Option.bind_some, List.getD_cons_zero, List.getD_cons_succ, List.getElem?_toArray, l1, l2, h0, h1]
                try rfl
              | 13, ho =>
                cases ho
                refine ⟨fun _ => .inl ?_, fun hw => by cases hw⟩
                have e1 : MS S = m2 := by show (if S 13 = true then _ else _) = _; rw [hi]; rfl
                have e2 : MS (ins S 13) = setv m2 n4 T := rfl
                rw [e1, e2]
                have st := storeTb hz4 rfl hT hTc (hTk _)
                simp only [go_sem, reduceIte, Nat.reduceEqDiff, reduceCtorEq, Int.reduceEq, envOf, List.getElem?_cons_zero, List.getElem?_cons_succ, Option.bind_some, List.getD_cons_zero, List.getD_cons_succ, List.getElem?_toArray, st]
                try rfl
              | 14, ho =>
                cases ho
                refine ⟨fun _ => .inl ?_, fun _ => rfl⟩
                show _ = some (_, MS S)
                have l1 := hTS S
                have l2 := lpRcSteps (hRS S)
                simp only [go_sem, reduceIte, Nat.reduceEqDiff, reduceCtorEq, Int.reduceEq, envOf, List.getElem?_cons_zero, List.getElem?_cons_succ, Option.bind_some, List.getD_cons_zero, List.getD_cons_succ, List.getElem?_toArray, l1, l2, h0, h1]
                try rfl
            · intro S hS
              exact if_pos (hS 13 (by decide))
            · rintro e2 rfl
              repeat (first | refine x_seq ?_ | refine x_block ?_ | refine xn_normal ?_ | refine xi_normal ?_ | refine xn_exit ?_ | refine xi_exit ?_ | refine xi_other (by decide) ?_ | refine xn_ret ?_ | refine xi_ret ?_ | refine x_skip ?_ | refine x_exit ?_ | refine x_ret ?_)
              exact hend _
      · cases h
    · cases h
  · cases h
end
end Go.Proofs.YtojaokhkbmiidaaGreat.Ev

namespace Go.Proofs.YtojaokhkbmiidaaGreat.Ev
open Go Go.Proofs
set_option maxRecDepth 10000
set_option maxHeartbeats 8000000
set_option linter.unusedVariables false
set_option linter.unusedSimpArgs false
attribute [local irreducible] Next Inside Runs Ops table
attribute [local go_sem] szStr szInt Option.getD_some isNil evStr iv mapRc mapTab cellsTab cellsRc newRc zrTab zoTab znTab zsTab fpRcEval
noncomputable section
def thereG := thereOf ofG
theorem there_okG : FunOk Tryz.prog 52 thereG := there_ok of_ok
theorem tab_plain {R : Rc} {l : List Sp} {f : Int} {n : Nat} : (tabRow R l f).mapM (resCell n) = some (tabRow R l f) := rfl
theorem tab_low {R : Rc} {l : List Sp} {f : Int} (q : Nat) : (tabRow R l f).all (refLe q) = true := rfl
def Rc.has (R : Rc) (step : Int) : Bool := decide (step ≥ 0) && decide (step < R.steps)
theorem thereG_at {R : Rc} {step : Int} {m : Mem} (h : R.fit) (hs : R.sound = true) : thereG [.agg R.row, .v (.int .i64 step)] m = some (.tup [.agg (tabRow R R.spans R.swaSteps.1), .v (.bool (R.has step))], m) := by
  unfold thereG thereOf
  simp only [unRc_row, ofG_at h hs]
  rw [if_pos ⟨rfl, rfl, rfl, tab_plain, tab_low⟩]
  rfl
theorem thereG_no {R : Rc} {step : Int} {m : Mem} (h : R.fit) (hs : R.sound = false) : thereG [.agg R.row, .v (.int .i64 step)] m = some (.tup [.agg (tabRow rc0 [] 0), .v (.bool false)], m) := by
  unfold thereG thereOf
  simp only [unRc_row, ofG_no h hs]
  rw [show tab0 = tabRow rc0 [] 0 from rfl, if_pos ⟨rfl, rfl, rfl, tab_plain, tab_low⟩]
  rfl
def timesAtG : List AV → Mem → Option (AV × Mem)
  | [.agg cs, .v (.int .i64 step)], m =>
    match unRc cs with
    | some R => if R.fit then some (.lst .no 3 (rowsEvt (if (R.sound && R.has step) = true then evAt R step else [])), m) else none
    | none => none
  | _, _ => none
theorem timesAtG_at {R : Rc} {step : Int} {m : Mem} (h : R.fit) : timesAtG [.agg R.row, .v (.int .i64 step)] m = some (.lst .no 3 (rowsEvt (if (R.sound && R.has step) = true then evAt R step else [])), m) := by
  simp only [timesAtG, unRc_row]
  rw [if_pos h]
def kpTimesAt : Nat → Option (List Nat) := fun
  | 0 => some [1, 2]
  | 1 => some [1, 5, 6]
  | 2 => some [1, 5, 14]
  | 3 => some [4]
  | 4 => some [4]
  | _ => none
attribute [go_sem] kpTimesAt
def tab_timesAt_ok : List (FuncId × (List AV → Mem → Option (AV × Mem))) := [(52, thereG), (53, atTG)]
theorem timesAt_ok : FunOk Tryz.prog 23 timesAtG := by
  have hC := table_ok (P := Tryz.prog) (l := tab_timesAt_ok) (table_more there_okG (table_more atT_ok table_nil))
  have t1 := fun args mm => table_at (l := tab_timesAt_ok) (f := 52) (args := args) (m := mm) rfl
  have t2 := fun args mm => table_at (l := tab_timesAt_ok) (f := 53) (args := args) (m := mm) rfl
  refine fun_ok mixed hC Tryz.func23 rfl kpTimesAt false rfl fun args m r h => ?_
  unfold timesAtG at h
  split at h
  · rename_i cs step
    split at h
    · rename_i R hR
      obtain rfl := unRc_some hR
      split at h
      · rename_i hfit
        simp only [Option.some.injEq] at h
        subst h
        refine ⟨Nat.le_of_ble_eq_true rfl, ?_⟩
        simp only [entry, List.length_cons, List.length_nil, List.range, List.range.loop, List.zip_cons_cons, List.zip_nil_right]
        have hA := above_push (cs := R.row) (above_self m)
        have hv : (m.push R.row).var m.vars.length = some R.row := push_var
        have nr := newRc (m := m) (x := R)
        generalize m.push R.row = m1 at hA hv nr
        have l0 := vrRc hv
        have w1 : (!true) = false := rfl
        have w2 : (!false) = true := rfl
        cases hs : R.sound with
        | false =>
          have c1 := fun mm => thereG_no (step := step) (m := mm) hfit hs
          have hA2 := above_push (cs := tabRow rc0 [] 0) hA
          refine go1 (jn @nr (jn @l0 (jn @t1 (jn @c1 @w2)))) ?_
          refine runs_cond rfl (fun hc => ?_) (fun hc => by cases hc)
          refine go0 ?_
          exact leaves_lst rfl rfl (above_fin hA2)
        | true =>
          have c1 := fun mm => thereG_at (step := step) (m := mm) hfit hs
          have hA2 := above_push (cs := tabRow R R.spans R.swaSteps.1) hA
          have hT : (m1.push (tabRow R R.spans R.swaSteps.1)).var m1.vars.length = some (tabRow R R.spans R.swaSteps.1) := push_var
          have l1 := vrTab hT
          rw [Bool.true_and]
          have hhas : R.has step = (decide (step ≥ 0) && decide (step < R.steps)) := rfl
          cases hh : R.has step with
          | false =>
            rw [hh] at c1
            refine go1 (jn @nr (jn @l0 (jn @t1 (jn @c1 @w2)))) ?_
            refine runs_cond rfl (fun hc => ?_) (fun hc => by cases hc)
            refine go0 ?_
            exact leaves_lst rfl rfl (above_fin hA2)
          | true =>
            rw [hh] at c1
            rw [hh] at hhas
            have hhas2 := Bool.and_eq_true_iff.1 hhas.symm
            have c2 := fun mm => atTG_at (m := mm) hs (of_decide_eq_true hhas2.1) (of_decide_eq_true hhas2.2)
            rw [if_pos rfl]
            refine go1 (jn @nr (jn @l0 (jn @t1 (jn @c1 @w1)))) ?_
            refine runs_cond rfl (fun hc => by cases hc) (fun hc => ?_)
            refine go1 (jn @l1 (jn @t2 @c2)) ?_
            exact leaves_lst rfl rfl (above_fin hA2)
      · cases h
    · cases h
  · cases h
def lookB (R : Rc) (step : Int) : Bool := decide (R.eval > 0) && ((step + 1).tmod R.eval == 0)
def timesLookG : List AV → Mem → Option (AV × Mem)
  | [.agg cs, .v (.int .i64 step)], m =>
    match unRc cs with
    | some R => if R.fit then some (.v (.bool ((R.sound && R.has step) && lookB R step)), m) else none
    | none => none
  | _, _ => none
theorem timesLookG_at {R : Rc} {step : Int} {m : Mem} (h : R.fit) : timesLookG [.agg R.row, .v (.int .i64 step)] m = some (.v (.bool ((R.sound && R.has step) && lookB R step)), m) := by
  simp only [timesLookG, unRc_row]
  rw [if_pos h]
def kpTimesLook : Nat → Option (List Nat) := fun
  | 0 => some [1, 2]
  | 1 => some [1, 2, 6]
  | 2 => some [4]
  | _ => none
attribute [go_sem] kpTimesLook
def tab_timesLook_ok : List (FuncId × (List AV → Mem → Option (AV × Mem))) := [(52, thereG)]
theorem timesLook_ok : FunOk Tryz.prog 24 timesLookG := by
  have hC := table_ok (P := Tryz.prog) (l := tab_timesLook_ok) (table_more there_okG table_nil)
  have t1 := fun args mm => table_at (l := tab_timesLook_ok) (f := 52) (args := args) (m := mm) rfl
  refine fun_ok mixed hC Tryz.func24 rfl kpTimesLook false rfl fun args m r h => ?_
  unfold timesLookG at h
  split at h
  · rename_i cs step
    split at h
    · rename_i R hR
      obtain rfl := unRc_some hR
      split at h
      · rename_i hfit
        simp only [Option.some.injEq] at h
        subst h
        refine ⟨Nat.le_of_ble_eq_true rfl, ?_⟩
        simp only [entry, List.length_cons, List.length_nil, List.range, List.range.loop, List.zip_cons_cons, List.zip_nil_right]
        have hA := above_push (cs := R.row) (above_self m)
        have hv : (m.push R.row).var m.vars.length = some R.row := push_var
        have nr := newRc (m := m) (x := R)
        generalize m.push R.row = m1 at hA hv nr
        have l0 := vrRc hv
        cases hs : R.sound with
        | false =>
          have c1 := fun mm => thereG_no (step := step) (m := mm) hfit hs
          have hA2 := above_push (cs := tabRow rc0 [] 0) hA
          refine go1 (jn @nr (jn @l0 (jn @t1 @c1))) ?_
          exact leaves_fin rfl rfl (above_fin hA2)
        | true =>
          have c1 := fun mm => thereG_at (step := step) (m := mm) hfit hs
          have hA2 := above_push (cs := tabRow R R.spans R.swaSteps.1) hA
          have hv2 := push_old (cs' := tabRow R R.spans R.swaSteps.1) hv
          have l1 := lpRcEval hv2
          rw [Bool.true_and]
          have hhas : R.has step = (decide (step ≥ 0) && decide (step < R.steps)) := rfl
          have hst := (sound_ok' hs).steps
          cases hh : R.has step with
          | false =>
            rw [hh] at c1
            refine go1 (jn @nr (jn @l0 (jn @t1 @c1))) ?_
            exact leaves_fin rfl rfl (above_fin hA2)
          | true =>
            rw [hh] at c1
            rw [hh] at hhas
            have hhas2 := Bool.and_eq_true_iff.1 hhas.symm
            have g0 := of_decide_eq_true hhas2.1
            have g1 := of_decide_eq_true hhas2.2
            have w3 : IntKind.i64.wrap (step + 1) = step + 1 := i64_wrap (by omega) (by omega)
            unfold lookB
            cases q0 : decide (R.eval > 0) with
            | false =>
              refine go1 (jn @nr (jn @l0 (jn @t1 (jn @c1 (jn @l1 @q0))))) ?_
              exact leaves_fin rfl rfl (above_fin hA2)
            | true =>
              have hne : R.eval ≠ 0 := by have := of_decide_eq_true q0; omega
              rw [Bool.true_and, Bool.true_and]
              refine go1 (jn @nr (jn @l0 (jn @t1 (jn @c1 (jn @l1 (jn @q0 (jn @w3 @hne))))))) ?_
              exact leaves_fin rfl rfl (above_fin hA2)
      · cases h
    · cases h
  · cases h
def timesSwaG : List AV → Mem → Option (AV × Mem)
  | [.agg cs, .v (.int .i64 step)], m =>
    match unRc cs with
    | some R => if R.fit then some (.v (.bool ((R.sound && R.has step) && swaIs R R.swaSteps.1 step)), m) else none
    | none => none
  | _, _ => none
theorem timesSwaG_at {R : Rc} {step : Int} {m : Mem} (h : R.fit) : timesSwaG [.agg R.row, .v (.int .i64 step)] m = some (.v (.bool ((R.sound && R.has step) && swaIs R R.swaSteps.1 step)), m) := by
  simp only [timesSwaG, unRc_row]
  rw [if_pos h]
def kpTimesSwa : Nat → Option (List Nat) := fun
  | 0 => some [1, 2]
  | 1 => some [1, 5, 6]
  | 2 => some [1, 5, 16]
  | 3 => some [4]
  | 4 => some [8]
  | 5 => some [4]
  | _ => none
attribute [go_sem] kpTimesSwa
def tab_timesSwa_ok : List (FuncId × (List AV → Mem → Option (AV × Mem))) := [(52, thereG), (54, swaTG)]
theorem timesSwa_ok : FunOk Tryz.prog 25 timesSwaG := by
  have hC := table_ok (P := Tryz.prog) (l := tab_timesSwa_ok) (table_more there_okG (table_more swaT_ok table_nil))
  have t1 := fun args mm => table_at (l := tab_timesSwa_ok) (f := 52) (args := args) (m := mm) rfl
  have t2 := fun args mm => table_at (l := tab_timesSwa_ok) (f := 54) (args := args) (m := mm) rfl
  refine fun_ok mixed hC Tryz.func25 rfl kpTimesSwa false rfl fun args m r h => ?_
  unfold timesSwaG at h
  split at h
  · rename_i cs step
    split at h
    · rename_i R hR
      obtain rfl := unRc_some hR
      split at h
      · rename_i hfit
        simp only [Option.some.injEq] at h
        subst h
        refine ⟨Nat.le_of_ble_eq_true rfl, ?_⟩
        simp only [entry, List.length_cons, List.length_nil, List.range, List.range.loop, List.zip_cons_cons, List.zip_nil_right]
        have hA := above_push (cs := R.row) (above_self m)
        have hv : (m.push R.row).var m.vars.length = some R.row := push_var
        have nr := newRc (m := m) (x := R)
        generalize m.push R.row = m1 at hA hv nr
        have l0 := vrRc hv
        have w1 : (!true) = false := rfl
        have w2 : (!false) = true := rfl
        cases hs : R.sound with
        | false =>
          have c1 := fun mm => thereG_no (step := step) (m := mm) hfit hs
          have hA2 := above_push (cs := tabRow rc0 [] 0) hA
          refine go1 (jn @nr (jn @l0 (jn @t1 (jn @c1 @w2)))) ?_
          refine runs_cond rfl (fun hc => ?_) (fun hc => by cases hc)
          refine go0 ?_
          exact leaves_fin rfl rfl (above_fin hA2)
        | true =>
          have c1 := fun mm => thereG_at (step := step) (m := mm) hfit hs
          have hA2 := above_push (cs := tabRow R R.spans R.swaSteps.1) hA
          have hT : (m1.push (tabRow R R.spans R.swaSteps.1)).var m1.vars.length = some (tabRow R R.spans R.swaSteps.1) := push_var
          have l1 := vrTab hT
          rw [Bool.true_and]
          have hhas : R.has step = (decide (step ≥ 0) && decide (step < R.steps)) := rfl
          have hst := (sound_ok' hs).steps
          cases hh : R.has step with
          | false =>
            rw [hh] at c1
            refine go1 (jn @nr (jn @l0 (jn @t1 (jn @c1 @w2)))) ?_
            refine runs_cond rfl (fun hc => ?_) (fun hc => by cases hc)
            refine go0 ?_
            exact leaves_fin rfl rfl (above_fin hA2)
          | true =>
            rw [hh] at c1
            rw [hh] at hhas
            have hhas2 := Bool.and_eq_true_iff.1 hhas.symm
            have g0 := of_decide_eq_true hhas2.1
            have g1 := of_decide_eq_true hhas2.2
            have c2 := fun mm => swaTG_at (R := R) (l := R.spans) (f := R.swaSteps.1) (step := step) (m := mm) (sound_every hs) ⟨by omega, by omega⟩ sound_from
            rw [Bool.true_and]
            have hso : (swaOf R R.swaSteps.1 step).2 = swaIs R R.swaSteps.1 step := by unfold swaOf; cases swaIs R R.swaSteps.1 step <;> rfl
            rw [hso] at c2
            generalize (swaOf R R.swaSteps.1 step).1 = n1 at c2
            refine go1 (jn @nr (jn @l0 (jn @t1 (jn @c1 @w1)))) ?_
            refine runs_cond rfl (fun hc => by cases hc) (fun hc => ?_)
            refine go1 (jn @l1 (jn @t2 @c2)) ?_
            exact leaves_fin rfl rfl (above_fin hA2)
      · cases h
    · cases h
  · cases h
end
end Go.Proofs.YtojaokhkbmiidaaGreat.Ev

namespace Go.Proofs.YtojaokhkbmiidaaGreat.Ev
open Go Go.Proofs
set_option maxRecDepth 10000
set_option maxHeartbeats 8000000
set_option linter.unusedVariables false
set_option linter.unusedSimpArgs false
attribute [local irreducible] Next Inside Runs Ops table
attribute [local go_sem] szStr szInt Option.getD_some isNil evStr iv loadInt loadStr mapRc cellsRc newRc rowsS_len rowsPh_len rowsEvt_len rowsSp_len fpRcPhases fpRcGroups fpRcEval fpRcSwa fpRcSwaFrom fpRcSwaOn fpRcSwaEvery fpRcSteps fePhFrozen lePhFrozen mkEvt3 mkEvt2 mkEvts1 feSpFrom_ leSpFrom_ niEvt ldEvt
noncomputable section
theorem mkEvt0 : evBuildSlice Tryz.prog 55 0 [] = some (.lst .full 3 []) := build_nil appEvt
attribute [local go_sem] mkEvt0
def frozenRG : List AV → Mem → Option (AV × Mem)
  | [.agg cs, .v (.int .i64 p), .v (.int .i64 g)], m =>
    match unRc cs with
    | some R => if R.small ∧ 0 ≤ g ∧ g < (R.groups.length : Int) then some (.v (.bool ((frozenAt R p).getD g.toNat false)), m) else none
    | none => none
  | _, _ => none
theorem frozenRG_at {R : Rc} {p : Int} {g : Nat} {m : Mem} (h : R.small) (h1 : g < R.groups.length) : frozenRG [.agg R.row, .v (.int .i64 p), .v (.int .i64 (g : Int))] m = some (.v (.bool ((frozenAt R p).getD g false)), m) := by
  simp only [frozenRG, unRc_row]
  rw [if_pos ⟨h, by omega, by omega⟩, Int.toNat_natCast]
def kpFrozenR : Nat → Option (List Nat) := fun
  | 0 => some [1, 2, 3]
  | 1 => some [6]
  | _ => none
attribute [go_sem] kpFrozenR
def tab_frozenR_ok : List (FuncId × (List AV → Mem → Option (AV × Mem))) := [(93, placeG)]
theorem frozenR_ok : FunOk Tryz.prog 55 frozenRG := by
  have hC := table_ok (P := Tryz.prog) (l := tab_frozenR_ok) (table_more refPlace_ok table_nil)
  have t1 := fun args mm => table_at (l := tab_frozenR_ok) (f := 93) (args := args) (m := mm) rfl
  refine fun_ok mixed hC Tryz.func55 rfl kpFrozenR false rfl fun args m r h => ?_
  unfold frozenRG at h
  split at h
  · rename_i cs p g
    split at h
    · rename_i R hR
      obtain rfl := unRc_some hR
      split at h
      · rename_i hyp
        obtain ⟨hsm, hg0, hg1⟩ := hyp
        obtain ⟨j, rfl⟩ := Int.eq_ofNat_of_zero_le hg0
        rw [Int.toNat_natCast] at h
        simp only [Option.some.injEq] at h
        subst h
        refine ⟨Nat.le_of_ble_eq_true rfl, ?_⟩
        simp only [entry, List.length_cons, List.length_nil, List.range, List.range.loop, List.zip_cons_cons, List.zip_nil_right]
        have hj : j < R.groups.length := by omega
        have hA := above_push (cs := R.row) (above_self m)
        have hv : (m.push R.row).var m.vars.length = some R.row := push_var
        have nr := newRc (m := m) (x := R)
        generalize m.push R.row = m1 at hA hv nr
        have l1 := lpRcPhases hv
        have l2 := lpRcGroups hv
        unfold frozenAt
        refine go1 @nr ?_
        refine runs_ops_drawn_kept (by kernel_rfl) ?_
        by_cases h0 : 0 ≤ p
        · have b0 : decide (p ≥ 0) = true := decide_eq_true h0
          by_cases h1 : p < (R.phases.length : Int)
          · have b1 : decide (p < (R.phases.length : Int)) = true := decide_eq_true h1
            rw [if_pos ⟨h0, h1⟩]
            obtain ⟨q, rfl⟩ := Int.eq_ofNat_of_zero_le h0
            rw [Int.toNat_natCast]
            have hq : q < R.phases.length := by omega
            have f1 := atPh (g := .no) (kk := .i64) hq
            have f2 := atStrs (g := .no) (kk := .i64) hj
            have hfl := (hsm.phase q).1
            have c1 := fun mm => placeG_eq (m := mm) (g := .no) (s := R.groups.getD j ⟨#[]⟩) (show (R.phases.getD q ph0).frozen.length ≤ 9223372036854775807 by omega)
            have d1 := among_place (R.phases.getD q ph0).frozen (R.groups.getD j ⟨#[]⟩)
            have hget : (R.groups.map fun g => among (R.phases.getD q ph0).frozen g).getD j false = among (R.phases.getD q ph0).frozen (R.groups.getD j ⟨#[]⟩) := by simp [List.getD, List.getElem?_eq_getElem hj]
            rw [hget]
            generalize R.phases.getD q ph0 = P at f1 c1 d1
            generalize R.groups.getD j ⟨#[]⟩ = s at f2 c1 d1
            refine go1 (jn @b0 (jn @l1 (jn @b1 (jn @f1 (jn @l2 (jn @f2 (jn @t1 (jn @c1 @d1)))))))) ?_
            exact leaves_fin rfl rfl (above_fin hA)
          · have b1 : decide (p < (R.phases.length : Int)) = false := decide_eq_false h1
            rw [if_neg (fun h => h1 h.2)]
            refine go1 (jn @b0 (jn @l1 @b1)) ?_
            exact leaves_fin rfl rfl (above_fin hA)
        · have b0 : decide (p ≥ 0) = false := decide_eq_false h0
          rw [if_neg (fun h => h0 h.1)]
          refine go1 @b0 ?_
          exact leaves_fin rfl rfl (above_fin hA)
      · cases h
    · cases h
  · cases h
/-! ### Swa, Looked -/
def rswaG : List AV → Mem → Option (AV × Mem)
  | [.agg cs, .v (.int .i64 step)], m =>
    match unRc cs with
    | some R => if R.may = true ∧ (R.swaOn = true → 0 < R.swaEvery) ∧ stepIn step then some (.v (.bool (swaIs R R.swaSteps.1 step)), m) else none
    | none => none
  | _, _ => none
theorem rswaG_at {R : Rc} {step : Int} {m : Mem} (h : R.sound = true) (h1 : stepIn step) : rswaG [.agg R.row, .v (.int .i64 step)] m = some (.v (.bool (swaIs R R.swaSteps.1 step)), m) := by
  simp only [rswaG, unRc_row]
  rw [if_pos ⟨sound_may h, sound_every h, h1⟩]
def kpRSwa : Nat → Option (List Nat) := fun
  | 0 => some [1, 2]
  | 1 => some [1, 2, 5]
  | 2 => some [4]
  | _ => none
attribute [go_sem] kpRSwa
def tab_rswa_ok : List (FuncId × (List AV → Mem → Option (AV × Mem))) := [(49, rstepsG)]
theorem rswa_ok : FunOk Tryz.prog 29 rswaG := by
  have hC := table_ok (P := Tryz.prog) (l := tab_rswa_ok) (table_more rsteps_ok table_nil)
  have t1 := fun args mm => table_at (l := tab_rswa_ok) (f := 49) (args := args) (m := mm) rfl
  refine fun_ok mixed hC Tryz.func29 rfl kpRSwa false rfl fun args m r h => ?_
  unfold rswaG at h
  split at h
  · rename_i cs step
    split at h
    · rename_i R hR
      obtain rfl := unRc_some hR
      split at h
      · rename_i hyp
        obtain ⟨hmay, hev, hst⟩ := hyp
        simp only [Option.some.injEq] at h
        subst h
        refine ⟨Nat.le_of_ble_eq_true rfl, ?_⟩
        simp only [entry, List.length_cons, List.length_nil, List.range, List.range.loop, List.zip_cons_cons, List.zip_nil_right]
        have hn := Rc.may_num hmay
        have hA := above_push (cs := R.row) (above_self m)
        have hv : (m.push R.row).var m.vars.length = some R.row := push_var
        have nr := newRc (m := m) (x := R)
        generalize m.push R.row = m1 at hA hv nr
        have l0 := vrRc hv
        have l1 := lpRcSwaFrom hv
        have l2 := lpRcSwaOn hv
        have l3 := lpRcSwaEvery hv
        have c1 := fun mm => rstepsG_at (R := R) (m := mm) hn.from_ hn.steps.1 hn.epoch.1
        rw [show stepsP R.swaFromU R.swaFromN R.steps R.epoch = R.swaSteps from rfl] at c1
        have hf := @sound_from R
        unfold stepIn at hst
        unfold swaIs
        generalize R.swaSteps.1 = f at c1 hf
        generalize R.swaSteps.2 = e2 at c1
        have w1 : IntKind.i64.wrap (step - f) = step - f := i64_wrap (by omega) (by omega)
        refine go1 (jn @nr (jn @l0 (jn @l1 (jn @t1 @c1)))) ?_
        cases q0 : R.swaOn with
        | false =>
          refine go1 (jn @l2 @q0) ?_
          exact leaves_fin rfl rfl (above_fin hA)
        | true =>
          have hne : R.swaEvery ≠ 0 := by have := hev q0; omega
          cases q1 : decide (step ≥ f) with
          | false =>
            refine go1 (jn @l2 (jn @q0 @q1)) ?_
            exact leaves_fin rfl rfl (above_fin hA)
          | true =>
            rw [Bool.true_and, Bool.true_and]
            refine go1 (jn @l2 (jn @q0 (jn @q1 (jn @w1 (jn @l3 @hne))))) ?_
            exact leaves_fin rfl rfl (above_fin hA)
      · cases h
    · cases h
  · cases h
def rlookB (R : Rc) (step : Int) : Bool := decide (R.eval > 0) && (step.tmod R.eval == R.eval - 1)
def rlookG : List AV → Mem → Option (AV × Mem)
  | [.agg cs, .v (.int .i64 step)], m =>
    match unRc cs with
    | some R => if 0 ≤ R.eval ∧ R.eval ≤ 1099511627776 then some (.v (.bool (rlookB R step)), m) else none
    | none => none
  | _, _ => none
theorem rlookG_at {R : Rc} {step : Int} {m : Mem} (h : 0 ≤ R.eval ∧ R.eval ≤ 1099511627776) : rlookG [.agg R.row, .v (.int .i64 step)] m = some (.v (.bool (rlookB R step)), m) := by
  simp only [rlookG, unRc_row]
  rw [if_pos h]
def kpRLook : Nat → Option (List Nat) := fun
  | 0 => some [1, 2]
  | 1 => some [4]
  | _ => none
attribute [go_sem] kpRLook
theorem rlook_ok : FunOk Tryz.prog 28 rlookG := by
  have hC := table_ok (P := Tryz.prog) (l := []) table_nil
  refine fun_ok mixed hC Tryz.func28 rfl kpRLook false rfl fun args m r h => ?_
  unfold rlookG at h
  split at h
  · rename_i cs step
    split at h
    · rename_i R hR
      obtain rfl := unRc_some hR
      split at h
      · rename_i he
        simp only [Option.some.injEq] at h
        subst h
        refine ⟨Nat.le_of_ble_eq_true rfl, ?_⟩
        simp only [entry, List.length_cons, List.length_nil, List.range, List.range.loop, List.zip_cons_cons, List.zip_nil_right]
        have hA := above_push (cs := R.row) (above_self m)
        have hv : (m.push R.row).var m.vars.length = some R.row := push_var
        have nr := newRc (m := m) (x := R)
        generalize m.push R.row = m1 at hA hv nr
        have l1 := lpRcEval hv
        have w1 : IntKind.i64.wrap (R.eval - 1) = R.eval - 1 := i64_wrap (by omega) (by omega)
        unfold rlookB
        refine go1 @nr ?_
        refine runs_ops_drawn_kept (by kernel_rfl) ?_
        cases q0 : decide (R.eval > 0) with
        | false =>
          refine go1 (jn @l1 @q0) ?_
          exact leaves_fin rfl rfl (above_fin hA)
        | true =>
          have hne : R.eval ≠ 0 := by have := of_decide_eq_true q0; omega
          rw [Bool.true_and]
          refine go1 (jn @l1 (jn @q0 (jn @hne @w1))) ?_
          exact leaves_fin rfl rfl (above_fin hA)
      · cases h
    · cases h
  · cases h
theorem look_same {R : Rc} {step : Int} (h0 : 0 ≤ step) : lookB R step = rlookB R step := by
  unfold lookB rlookB
  cases q0 : decide (R.eval > 0) with
  | false => rfl
  | true =>
    have he := of_decide_eq_true q0
    rw [Bool.true_and, Bool.true_and, Int.tmod_eq_emod_of_nonneg (by omega), Int.tmod_eq_emod_of_nonneg h0, Bool.eq_iff_iff]
    simp only [beq_iff_eq]
    generalize R.eval = e at he
    have h1 := Int.emod_nonneg step (show e ≠ 0 by omega)
    have h2 := Int.emod_lt_of_pos step he
    have h3 := Int.emod_add_mul_ediv step e
    have h4 := Int.emod_nonneg (step + 1) (show e ≠ 0 by omega)
    have h5 := Int.emod_lt_of_pos (step + 1) he
    have key : (step + 1) % e = (step % e + 1) % e := by rw [Int.emod_add_emod]
    rw [key]
    constructor
    · intro h
      by_cases h6 : step % e + 1 < e
      · rw [Int.emod_eq_of_lt (by omega) h6] at h
        omega
      · omega
    · intro h
      rw [h, show e - 1 + 1 = e by omega, Int.emod_self]
/-! ### Same -/
def sameEG : List AV → Mem → Option (AV × Mem)
  | [.lst _ 3 rows, .lst _ 3 rows2], m =>
    match unsEvt rows with
    | some l => open Classical in if l.length ≤ 1000000000 ∧ rows2 = rowsEvt l then some (.v (.bool true), m) else none
    | none => none
  | _, _ => none
theorem sameEG_at {m : Mem} {g g2 : Grow} {l : List Evt} (h : l.length ≤ 1000000000) : sameEG [.lst g 3 (rowsEvt l), .lst g2 3 (rowsEvt l)] m = some (.v (.bool true), m) := by
  simp only [sameEG, unsEvt_rowsEvt]
  rw [if_pos ⟨h, trivial⟩]
def kpSameE : Nat → Option (List Nat) := fun
  | 0 => some [0, 1]
  | 1 => some [0, 1, 10]
  | 2 => some [4]
  | 3 => some [0, 1, 5]
  | 4 => some [0, 1, 5, 14]
  | 5 => some [0, 1, 5]
  | 6 => some [0, 1, 5, 25]
  | 7 => some [4]
  | 8 => some [4]
  | _ => none
attribute [go_sem] kpSameE
theorem sameE_ok : FunOk Tryz.prog 26 sameEG := by
  have hC := table_ok (P := Tryz.prog) (l := []) table_nil
  refine fun_ok mixed hC Tryz.func26 rfl kpSameE false rfl fun args m r h => ?_
  unfold sameEG at h
  split at h
  · rename_i g rows g2 rows2
    split at h
    · rename_i l hl
      obtain rfl := unsEvt_some hl
      split at h
      · rename_i hyp
        obtain ⟨hlen, rfl⟩ := hyp
        simp only [Option.some.injEq] at h
        subst h
        refine ⟨Nat.le_of_ble_eq_true rfl, ?_⟩
        simp only [entry, List.length_cons, List.length_nil, List.range, List.range.loop, List.zip_cons_cons, List.zip_nil_right]
        have b0 : ((l.length : Int) != (l.length : Int)) = false := by simp
        refine go1 @b0 ?_
        refine runs_cond rfl (fun hc => by cases hc) (fun hc => ?_)
        refine go0 ?_
        refine runs_loop (fun k e m' => ∃ (i : Nat), i ≤ l.length ∧ m = m' ∧ k = l.length - i ∧
          e = [(0, AV.lst g 3 (rowsEvt l)), (1, .lst g2 3 (rowsEvt l)), (5, .v (.int .i64 (i : Int)))]) (k := l.length) ⟨0, Nat.zero_le _, rfl, rfl, rfl⟩ ?_
        rintro k e m' ⟨i, hi, rfl, rfl, rfl⟩
        refine go0 ?_
        refine runs_cond rfl (fun hc => ?_) (fun hc => ?_)
        · have hi1 : i < l.length := by have := of_decide_eq_true hc; omega
          have f1 := atEvt (g := g) (kk := .i64) hi1
          have f2 := atEvt (g := g2) (kk := .i64) hi1
          have r6 := next_i64 (i := i) (by omega)
          generalize l.getD i evt0 = x at f1 f2
          have e1 : eqTy Tryz.prog 8 65 (.agg x.row) (.agg x.row) = some true := by rw [eqEvt]; simp
          have w1 : (!true) = false := rfl
          refine go0 ?_
          refine runs_ops_drawn_kept (by kernel_rfl) ?_
          refine go1 (jn @f1 (jn @f2 (jn @e1 @w1))) ?_
          refine runs_cond rfl (fun hc => by cases hc) (fun hc => ?_)
          refine go1 @r6 ?_
          exact ⟨l.length - (i + 1), by omega, i + 1, hi1, rfl, rfl, rfl⟩
        · refine go0 ?_
          exact leaves_v rfl rfl
      · cases h
    · cases h
  · cases h
end
end Go.Proofs.YtojaokhkbmiidaaGreat.Ev

namespace Go.Proofs.YtojaokhkbmiidaaGreat.Ev
open Go Go.Proofs
set_option maxRecDepth 10000
set_option maxHeartbeats 8000000
set_option linter.unusedVariables false
set_option linter.unusedSimpArgs false
attribute [local irreducible] Next Inside Runs Ops table
attribute [local go_sem] szStr szInt Option.getD_some isNil evStr iv loadInt mapRc cellsRc newRc rowsS_len rowsEvt_len rowsSp_len fpRcGroups fpRcSteps mkEvt3 mkEvt2 mkEvts1 mkEvt0 feSpFrom_ leSpFrom_
noncomputable section
/-! ### how many steps of Swa are ahead -/
def cntSwa (R : Rc) (f : Int) : Nat → Nat
  | 0 => 0
  | n + 1 => cntSwa R f n + if swaIs R f (n : Int) = true then 1 else 0
theorem cntSwa_le (R : Rc) (f : Int) : ∀ n, cntSwa R f n ≤ n
  | 0 => Nat.le_refl _
  | n + 1 => by have := cntSwa_le R f n; rw [cntSwa]; split <;> omega
theorem cntSwa_is {R : Rc} {f e : Nat} (ho : R.swaOn = true) (he : R.swaEvery = (e : Int)) (h0 : 0 < e) : ∀ n, cntSwa R (f : Int) n = (n - f + (e - 1)) / e
  | 0 => by rw [Nat.zero_sub, Nat.zero_add, Nat.div_eq_of_lt (by omega)]; rfl
  | n + 1 => by
    rw [cntSwa, cntSwa_is ho he h0 n]
    by_cases hn : n < f
    · have hs : swaIs R (f : Int) (n : Int) = false := by
        unfold swaIs
        rw [decide_eq_false (by omega), Bool.false_and, Bool.and_false]
      rw [hs, if_neg (by decide), show n - f = 0 by omega, show n + 1 - f = 0 by omega]
      omega
    · have hs : swaIs R (f : Int) (n : Int) = decide (e ∣ (n - f)) := by
        unfold swaIs
        rw [ho, decide_eq_true (by omega), Bool.true_and, Bool.true_and, he, show (n : Int) - (f : Int) = ((n - f : Nat) : Int) by omega, tmod_nat, Bool.eq_iff_iff]
        simp only [beq_iff_eq, decide_eq_true_eq, Nat.dvd_iff_mod_eq_zero]
        omega
      rw [hs]
      have h1 : n + 1 - f + (e - 1) = (n - f + (e - 1)) + 1 := by omega
      have hsd : (n - f + (e - 1) + 1) / e = (n - f + (e - 1)) / e + if e ∣ (n - f + (e - 1)) + 1 then 1 else 0 := Nat.succ_div
      have hd : (e ∣ (n - f + (e - 1)) + 1) ↔ e ∣ (n - f) := by
        rw [show n - f + (e - 1) + 1 = n - f + e by omega]
        rw [Nat.dvd_iff_mod_eq_zero, Nat.dvd_iff_mod_eq_zero, Nat.add_mod_right]
      rw [h1, hsd]
      by_cases hdv : e ∣ (n - f)
      · rw [if_pos (hd.2 hdv), if_pos (decide_eq_true hdv)]
      · rw [if_neg (fun h => hdv (hd.1 h)), if_neg (by rw [decide_eq_false hdv]; decide)]
theorem cntSwa_at {R : Rc} {f : Int} {n : Nat} (hf : 0 ≤ f) (hev : R.swaOn = true → 0 < R.swaEvery) (h : swaIs R f (n : Int) = true) : ((cntSwa R f n : Nat) : Int) = ((n : Int) - f).tdiv R.swaEvery := by
  have h' := h
  unfold swaIs at h'
  simp only [Bool.and_eq_true, decide_eq_true_eq, beq_iff_eq] at h'
  obtain ⟨ho, hge, hz⟩ := h'
  obtain ⟨k, rfl⟩ := Int.eq_ofNat_of_zero_le hf
  obtain ⟨e, he⟩ := Int.eq_ofNat_of_zero_le (show 0 ≤ R.swaEvery by have := hev ho; omega)
  have h0 : 0 < e := by have := hev ho; omega
  rw [cntSwa_is ho he h0, he]
  rw [he, show (n : Int) - (k : Int) = ((n - k : Nat) : Int) by omega, tmod_nat] at hz
  rw [show (n : Int) - (k : Int) = ((n - k : Nat) : Int) by omega, Int.tdiv_eq_ediv_of_nonneg (by omega)]
  have hz' : (n - k) % e = 0 := by omega
  obtain ⟨q, hq⟩ := Nat.dvd_of_mod_eq_zero hz'
  rw [hq, Nat.mul_add_div h0, Nat.div_eq_of_lt (by omega), Nat.add_zero]
  rw [show (((e * q : Nat) : Int) / (e : Int)) = ((e * q / e : Nat) : Int) from rfl, Nat.mul_div_cancel_left q h0]
/-! ### the turns, group by group -/
theorem filter_flat {α β : Type} (b : α → Bool) (f : α → List β) : ∀ l : List α, (l.filter b).flatMap f = l.flatMap fun x => if b x = true then f x else []
  | [] => rfl
  | x :: l => by
    rw [List.filter_cons, List.flatMap_cons]
    split
    · rw [List.flatMap_cons, filter_flat b f l]
    · rw [filter_flat b f l, List.nil_append]
def rturnEv (R : Rc) (p step kind : Int) (g : Nat) : List Evt := if turnB R p g = true then turnEv R p step kind g else []
theorem rturns {R : Rc} {p step kind : Int} (hp : 0 ≤ p ∧ p < (R.phases.length : Int)) : turnsEv R p step kind = (List.range R.groups.length).flatMap (rturnEv R p step kind) := by
  unfold turnsEv turnsAt
  rw [filter_flat]
  have : (frozenAt R p).length = R.groups.length := by unfold frozenAt; rw [if_pos hp, List.length_map]
  rw [this]
  rfl
def revAtG : List AV → Mem → Option (AV × Mem)
  | [.agg cs, .v (.int .i64 step)], m =>
    match unRc cs with
    | some R => if R.sound = true ∧ R.fit ∧ 0 ≤ step ∧ step < R.steps then some (.lst .no 3 (rowsEvt (evAt R step)), m) else none
    | none => none
  | _, _ => none
theorem revAtG_at {R : Rc} {step : Int} {m : Mem} (h : R.sound = true) (hf : R.fit) (h1 : 0 ≤ step) (h2 : step < R.steps) : revAtG [.agg R.row, .v (.int .i64 step)] m = some (.lst .no 3 (rowsEvt (evAt R step)), m) := by
  simp only [revAtG, unRc_row]
  rw [if_pos ⟨h, hf, h1, h2⟩]
theorem range_next {β : Type} {f : Nat → List β} {n i : Nat} (h : i < n) : ((List.range n).take (i + 1)).flatMap f = ((List.range n).take i).flatMap f ++ f i := by
  rw [take_range n i h, List.flatMap_append]
  simp
def kpREvAt : Nat → Option (List Nat) := fun
  | 0 => some [1, 2]
  | 1 => some [1, 2, 5]
  | 2 => some [1, 2, 5, 6]
  | 3 => some [1, 2, 5, 6, 7]
  | 4 => some [1, 2, 5, 6, 7, 26]
  | 5 => some [1, 2, 5, 6, 7]
  | 6 => some [1, 2, 5, 6, 7, 8]
  | 7 => some [1, 2, 5, 6, 7, 8, 34]
  | 8 => some [1, 2, 5, 6, 7, 8]
  | 9 => some [1, 2, 5, 6, 7, 8, 9]
  | 10 => some [1, 2, 5, 6, 7, 8, 9, 44]
  | 11 => some [1, 2, 5, 6, 7, 8, 9]
  | 12 => some [1, 2, 5, 6, 7, 8, 9, 10, 11]
  | 13 => some [1, 2, 5, 6, 7, 8, 9, 64]
  | 14 => some [1, 2, 5, 6, 7, 8, 9]
  | 15 => some [1, 2, 5, 74]
  | 16 => some [1, 2, 5, 12]
  | 17 => some [1, 2, 5, 12, 13]
  | 18 => some [1, 2, 5, 12, 13, 77]
  | 19 => some [1, 2, 5, 12, 13]
  | 20 => some [1, 2, 5, 12, 13, 82]
  | 21 => some [1, 2, 5, 12, 13]
  | 22 => some [1, 2, 5]
  | 23 => some [1, 5, 95]
  | 24 => some [5]
  | 25 => some [4]
  | _ => none
attribute [go_sem] kpREvAt
def tab_revAt_ok : List (FuncId × (List AV → Mem → Option (AV × Mem))) := [(21, rspanAtG), (19, rspansG), (55, frozenRG), (29, rswaG)]
theorem revAt_ok : FunOk Tryz.prog 27 revAtG := by
  have hC := table_ok (P := Tryz.prog) (l := tab_revAt_ok) (table_more at22_ok (table_more spans22_ok (table_more frozenR_ok (table_more rswa_ok table_nil))))
  have t1 := fun args mm => table_at (l := tab_revAt_ok) (f := 21) (args := args) (m := mm) rfl
  have t2 := fun args mm => table_at (l := tab_revAt_ok) (f := 19) (args := args) (m := mm) rfl
  have t3 := fun args mm => table_at (l := tab_revAt_ok) (f := 55) (args := args) (m := mm) rfl
  have t4 := fun args mm => table_at (l := tab_revAt_ok) (f := 29) (args := args) (m := mm) rfl
  refine fun_ok mixed hC Tryz.func27 rfl kpREvAt false rfl fun args m r h => ?_
  unfold revAtG at h
  split at h
  · rename_i cs step
    split at h
    · rename_i R hR
      obtain rfl := unRc_some hR
      split at h
      · rename_i hyp
        obtain ⟨hs, hfit, h0, h1⟩ := hyp
        simp only [Option.some.injEq] at h
        subst h
        obtain ⟨n, rfl⟩ := Int.eq_ofNat_of_zero_le h0
        refine ⟨Nat.le_of_ble_eq_true rfl, ?_⟩
        simp only [entry, List.length_cons, List.length_nil, List.range, List.range.loop, List.zip_cons_cons, List.zip_nil_right]
        have ok := sound_ok' hs
        have hsm := Rc.may_small ok.may
        have hP64 := hsm.2.2.1
        have hst := ok.steps
        obtain ⟨i, hi, hi1, hi2, hidx⟩ := span_at ok h0 h1
        have hbe : beginEv R (n : Int) = if ((R.spans.getD (spanIdx R (n : Int)).toNat sp0).from_ == (n : Int)) = true then beginsAt R (spanIdx R (n : Int)) (n : Int) else [] := rfl
        rw [hidx, Int.toNat_natCast, show R.spans.getD i sp0 = ⟨R.at_ i, R.at_ (i + 1)⟩ from spansTo_get hi] at hbe
        have hA := above_push (cs := R.row) (above_self m)
        have hv : (m.push R.row).var m.vars.length = some R.row := push_var
        have nr := newRc (m := m) (x := R)
        have hG0 : GrowsA m .full (m.push R.row) := growsA_push growsA_full
        generalize m.push R.row = m1 at hA hv nr hG0
        have l0 := vrRc hv
        have c1 := fun mm => rspanAtG_at (m := mm) (step := (n : Int)) ok.may hfit
        rw [show firstBy (spanHas (n : Int)) R.spans 0 = (i : Int) from hidx] at c1
        have c2 := fun mm => rspansG_at (m := mm) ok.may hfit
        have f1 := atSp (g := .no) (kk := .i64) (l := R.spans) (i := i) (by rw [show R.spans.length = R.phases.length from spansTo_len]; exact hi)
        rw [show R.spans.getD i sp0 = ⟨R.at_ i, R.at_ (i + 1)⟩ from spansTo_get hi] at f1
        have hbl := beginEv_len hsm (n : Int)
        have hkl := fun kind => turnsEv_len hsm (i : Int) (n : Int) kind
        have hkd := fun kind => @rturns R (i : Int) (n : Int) kind ⟨by omega, by omega⟩
        have c3 := fun (g : Nat) mm (hg : g < R.groups.length) => frozenRG_at (R := R) (p := (i : Int)) (g := g) (m := mm) hsm hg
        have c4 := fun (g : Nat) mm (hg : g < R.groups.length) => frozenRG_at (R := R) (p := (i : Int) - 1) (g := g) (m := mm) hsm hg
        have c5 := fun (s : Nat) mm (h : s ≤ n) => rswaG_at (R := R) (step := (s : Int)) (m := mm) hs ⟨by omega, by omega⟩
        have hsw : swaEv R (n : Int) = if swaIs R R.swaSteps.1 (n : Int) = true then [⟨(n : Int), 4, ((n : Int) - R.swaSteps.1).tdiv R.swaEvery⟩] else [] := rfl
        have hct := fun h => @cntSwa_at R R.swaSteps.1 n sound_from.1 (sound_every hs) h
        have hcl := cntSwa_le R R.swaSteps.1
        have hcn : ∀ s, cntSwa R R.swaSteps.1 (s + 1) = cntSwa R R.swaSteps.1 s + if swaIs R R.swaSteps.1 (s : Int) = true then 1 else 0 := fun s => rfl
        have hen : endEv R (n : Int) = if ((n : Int) == R.steps - 1) = true then [⟨(n : Int), 11, 0⟩] else [] := rfl
        have hw1 : IntKind.i64.wrap ((i : Int) - 1) = (i : Int) - 1 := i64_wrap (by omega) (by omega)
        unfold evAt
        have hc0 : cntSwa R R.swaSteps.1 0 = 0 := rfl
        generalize cntSwa R R.swaSteps.1 = cs at hct hcl hcn hc0
        generalize swaIs R R.swaSteps.1 = sis at c5 hsw hct hcn
        refine go1 (jn @nr (jn @l0 (jn @t1 (jn @c1 (jn @t2 (jn @c2 @f1)))))) ?_
        refine runs_icut (fun e2 m2 => ∃ gr2 E, GrowsA m gr2 m2 ∧ m2.var m.vars.length = some R.row ∧ e2 = (1, AV.v (.int .i64 (n : Int))) :: (2, .ptr m.vars.length 0) :: (5, .lst gr2 3 (rowsEvt (if (R.at_ i == (n : Int)) = true then [⟨(n : Int), 1, (i : Int)⟩] else []))) :: (6, .v (.int .i64 (i : Int))) :: (7, .v (.bool (R.at_ i == (n : Int)))) :: E) ?_ ?_
        · refine runs_cond rfl (fun hc => ?_) (fun hc => ?_)
          · obtain ⟨g3, m3, a1, hG3, hV3⟩ := app_evt (g2 := .full) hG0 [] (n : Int) 1 (i : Int) (by simp)
            rw [show rowsEvt [] = [] from rfl, List.nil_append] at a1
            rw [if_pos hc]
            refine go1 @a1 ?_
            exact ⟨rfl, _, _, hG3, by rw [hV3]; exact hv, rfl⟩
          · rw [if_neg (by rw [hc]; decide)]
            refine go0 ?_
            exact ⟨rfl, _, _, hG0, hv, rfl⟩
        rintro e2 m2 ⟨gr2, E, hG2, hv2, rfl⟩
        refine next_normal ?_
        have hbe2 : beginEv R (n : Int) = (if (R.at_ i == (n : Int)) = true then [⟨(n : Int), 1, (i : Int)⟩] else []) ++ ([2, 3] : List Int).flatMap (fun kind => if (R.at_ i == (n : Int)) = true then turnsEv R (i : Int) (n : Int) kind else []) := by
          rw [show beginEv R (n : Int) = if (R.at_ i == (n : Int)) = true then beginsAt R (i : Int) (n : Int) else [] from hbe]
          cases (R.at_ i == (n : Int)) with
          | true => rfl
          | false => rfl
        have hkl2 : ∀ kind, ((fun kind => if (R.at_ i == (n : Int)) = true then turnsEv R (i : Int) (n : Int) kind else []) kind).length ≤ 64 := fun kind => by
          show (if (R.at_ i == (n : Int)) = true then turnsEv R (i : Int) (n : Int) kind else []).length ≤ 64
          split
          · exact hkl kind
          · simp
        generalize (R.at_ i == (n : Int)) = bg at hbe2 hG2 hkl2 ⊢
        have hacc1 : (if bg = true then [(⟨(n : Int), 1, (i : Int)⟩ : Evt)] else []).length ≤ 1 := by split <;> simp
        generalize (if bg = true then [(⟨(n : Int), 1, (i : Int)⟩ : Evt)] else []) = acc0 at hbe2 hG2 hacc1 ⊢
        rw [hbe2]
        refine go0 ?_
        refine runs_xcut (.exit 0) (fun e2 m2 => ∃ gr2 E, GrowsA m gr2 m2 ∧ m2.var m.vars.length = some R.row ∧ e2 = (1, AV.v (.int .i64 (n : Int))) :: (2, .ptr m.vars.length 0) :: (5, .lst gr2 3 (rowsEvt (acc0 ++ ([2, 3] : List Int).flatMap (fun kind => if bg = true then turnsEv R (i : Int) (n : Int) kind else [])))) :: E) ?_ ?_
        · refine runs_loop (fun k e m' => ∃ (q : Nat) (gr : Grow), q ≤ 2 ∧ GrowsA m gr m' ∧ m'.var m.vars.length = some R.row ∧ k = 2 - q ∧
            e = [(1, AV.v (.int .i64 (n : Int))), (2, .ptr m.vars.length 0), (5, .lst gr 3 (rowsEvt (acc0 ++ (([2, 3] : List Int).take q).flatMap (fun kind => if bg = true then turnsEv R (i : Int) (n : Int) kind else [])))), (6, .v (.int .i64 (i : Int))), (7, .v (.bool bg)), (8, .v (.int .i64 ((q + 2 : Nat) : Int)))]) (k := 2) ⟨0, _, by decide, hG2, hv2, rfl, by rw [List.take_zero, List.flatMap_nil, List.append_nil]; rfl⟩ ?_
          rintro k e m' ⟨q, gr, hq0, hG, hw, rfl, rfl⟩
          refine go0 ?_
          refine runs_cond rfl (fun hc => ?_) (fun hc => ?_)
          · have hq1 : q < 2 := by have := of_decide_eq_true hc; omega
            have hkind : (([2, 3] : List Int).getD q 0) = ((q + 2 : Nat) : Int) := by
              match q, hq1 with
              | 0, _ => rfl
              | 1, _ => rfl
            have hN : (([2, 3] : List Int).take (q + 1)).flatMap (fun kind => if bg = true then turnsEv R (i : Int) (n : Int) kind else []) = (([2, 3] : List Int).take q).flatMap (fun kind => if bg = true then turnsEv R (i : Int) (n : Int) kind else []) ++ (if bg = true then turnsEv R (i : Int) (n : Int) ((q + 2 : Nat) : Int) else []) := by
              rw [take_next (d := 0) hq1, List.flatMap_append, hkind]
              simp
            have hB := take_len (f := fun kind => if bg = true then turnsEv R (i : Int) (n : Int) kind else []) (l := ([2, 3] : List Int)) (fun kind _ => hkl2 kind) hq0
            have r6 := next_i64 (i := q + 2) (by omega)
            have hk := hkd ((q + 2 : Nat) : Int)
            have hkl3 := hkl ((q + 2 : Nat) : Int)
            generalize (([2, 3] : List Int).take q).flatMap (fun kind => if bg = true then turnsEv R (i : Int) (n : Int) kind else []) = accq at hG hN hB ⊢
            refine go0 ?_
            cases bg with
            | false =>
              rw [if_neg (by decide), List.append_nil] at hN
              refine runs_loop (fun k e m2 => m' = m2 ∧ k = 0 ∧
                e = [(1, AV.v (.int .i64 (n : Int))), (2, .ptr m.vars.length 0), (5, .lst gr 3 (rowsEvt (acc0 ++ accq))), (6, .v (.int .i64 (i : Int))), (7, .v (.bool false)), (8, .v (.int .i64 ((q + 2 : Nat) : Int))), (9, .v (.int .i64 0))]) (k := 0) ⟨rfl, rfl, rfl⟩ ?_
              rintro k e m2' ⟨rfl, rfl, rfl⟩
              have y1 := lpRcGroups hw
              cases q1 : decide ((0 : Int) < (R.groups.length : Int)) with
              | true =>
                refine go1 (jn @y1 @q1) ?_
                refine runs_cond rfl (fun hc => by cases hc) (fun hc => ?_)
                refine go1 @r6 ?_
                exact ⟨2 - (q + 1), by omega, q + 1, _, hq1, hG, hw, rfl, by rw [hN]⟩
              | false =>
                refine go1 (jn @y1 @q1) ?_
                refine runs_cond rfl (fun hc => by cases hc) (fun hc => ?_)
                refine go1 @r6 ?_
                exact ⟨2 - (q + 1), by omega, q + 1, _, hq1, hG, hw, rfl, by rw [hN]⟩
            | true =>
              rw [if_pos rfl] at hN
              generalize ((q + 2 : Nat) : Int) = kind at hN hk hkl3 r6 ⊢
              refine runs_loop (fun k e m' => ∃ (g : Nat) (gr : Grow), g ≤ R.groups.length ∧ GrowsA m gr m' ∧ m'.var m.vars.length = some R.row ∧ k = R.groups.length - g ∧
                e = [(1, AV.v (.int .i64 (n : Int))), (2, .ptr m.vars.length 0), (5, .lst gr 3 (rowsEvt (acc0 ++ (accq ++ ((List.range R.groups.length).take g).flatMap (rturnEv R (i : Int) (n : Int) kind))))), (6, .v (.int .i64 (i : Int))), (7, .v (.bool true)), (8, .v (.int .i64 kind)), (9, .v (.int .i64 (g : Int)))]) (k := R.groups.length) ⟨0, _, Nat.zero_le _, hG, hw, rfl, by rw [List.take_zero, List.flatMap_nil, List.append_nil]; rfl⟩ ?_
              rintro k e m3 ⟨g, gr3, hg0, hG3, hw3, rfl, rfl⟩
              have y1 := lpRcGroups hw3
              have y0 := vrRc hw3
              by_cases hg1 : g < R.groups.length
              · have b0 : decide ((g : Int) < (R.groups.length : Int)) = true := decide_eq_true (by omega)
                have d1 := fun mm => c3 g mm hg1
                have d2 := fun mm => c4 g mm hg1
                have hN2 := range_next (f := rturnEv R (i : Int) (n : Int) kind) hg1
                have hev : rturnEv R (i : Int) (n : Int) kind g = if ((frozenAt R (i : Int)).getD g false != (frozenAt R ((i : Int) - 1)).getD g false) = true then (if ((frozenAt R (i : Int)).getD g false == (kind == 3)) = true then [⟨(n : Int), kind, (g : Int)⟩] else []) else [] := rfl
                have hB2 : (((List.range R.groups.length).take g).flatMap (rturnEv R (i : Int) (n : Int) kind)).length ≤ g * 1 := take_len (fun x _ => by unfold rturnEv; split; exact turnEv_len ..; simp) (by rw [List.length_range]; omega)
                have hG64 := hsm.2.1
                have r7 := next_i64 (i := g) (by omega)
                generalize ((List.range R.groups.length).take g).flatMap (rturnEv R (i : Int) (n : Int) kind) = acc2 at hG3 hN2 hB2 ⊢
                generalize (frozenAt R (i : Int)).getD g false = x at d1 hev
                generalize (frozenAt R ((i : Int) - 1)).getD g false = y at d2 hev
                refine go1 (jn @y1 @b0) ?_
                refine runs_cond rfl (fun hc => ?_) (fun hc => by cases hc)
                refine go0 ?_
                refine runs_ops_drawn_kept (by kernel_rfl) ?_
                refine go1 (jn @y0 (jn @t3 (jn @d1 (jn @hw1 @d2)))) ?_
                cases q1 : (x != y) with
                | false =>
                  rw [q1, if_neg (by decide)] at hev
                  rw [hev, List.append_nil] at hN2
                  refine go1 @q1 ?_
                  refine runs_cond rfl (fun hc => by cases hc) (fun hc => ?_)
                  refine go1 @r7 ?_
                  exact ⟨R.groups.length - (g + 1), by omega, g + 1, _, hg1, hG3, hw3, rfl, by rw [hN2]⟩
                | true =>
                  rw [q1, if_pos rfl] at hev
                  cases q2 : (x == (kind == 3)) with
                  | false =>
                    rw [q2, if_neg (by decide)] at hev
                    rw [hev, List.append_nil] at hN2
                    refine go1 (jn @q1 @q2) ?_
                    refine runs_cond rfl (fun hc => by cases hc) (fun hc => ?_)
                    refine go1 @r7 ?_
                    exact ⟨R.groups.length - (g + 1), by omega, g + 1, _, hg1, hG3, hw3, rfl, by rw [hN2]⟩
                  | true =>
                    rw [q2, if_pos rfl] at hev
                    rw [hev] at hN2
                    obtain ⟨g4, m4, a1, hG4, hV4⟩ := app_evt (g2 := .full) hG3 (acc0 ++ (accq ++ acc2)) (n : Int) kind (g : Int) (by simp only [List.length_append]; omega)
                    refine go1 (jn @q1 @q2) ?_
                    refine runs_cond rfl (fun hc => ?_) (fun hc => by cases hc)
                    refine go1 (jn @a1 @r7) ?_
                    exact ⟨R.groups.length - (g + 1), by omega, g + 1, _, hg1, hG4, by rw [hV4]; exact hw3, rfl, by rw [hN2]; simp only [List.append_assoc]⟩
              · have hg2 : g = R.groups.length := by omega
                subst hg2
                have b0 : decide ((R.groups.length : Int) < (R.groups.length : Int)) = false := decide_eq_false (by omega)
                rw [List.take_of_length_le (by rw [List.length_range]; omega), ← hk, ← hN]
                refine go1 (jn @y1 @b0) ?_
                refine runs_cond rfl (fun hc => by cases hc) (fun hc => ?_)
                refine go1 @r6 ?_
                exact ⟨2 - (q + 1), by omega, q + 1, _, hq1, hG3, hw3, rfl, rfl⟩
          · have hq1 : q = 2 := by have := of_decide_eq_false hc; omega
            subst hq1
            refine go0 ?_
            exact ⟨rfl, _, _, hG, hw, rfl⟩
        rintro e3 m3 ⟨gr3, E3, hG3, hv3, rfl⟩
        have hacc2 : (acc0 ++ ([2, 3] : List Int).flatMap (fun kind => if bg = true then turnsEv R (i : Int) (n : Int) kind else [])).length ≤ 200 := by rw [← hbe2]; exact hbl
        generalize acc0 ++ ([2, 3] : List Int).flatMap (fun kind => if bg = true then turnsEv R (i : Int) (n : Int) kind else []) = acc at hG3 hacc2 ⊢
        have l3 := vrRc hv3
        have c6 := fun mm => c5 n mm (Nat.le_refl _)
        refine go1 (jn @l3 (jn @t4 @c6)) ?_
        refine runs_icut (fun e2 m2 => ∃ gr2 E, GrowsA m gr2 m2 ∧ m2.var m.vars.length = some R.row ∧ e2 = (1, AV.v (.int .i64 (n : Int))) :: (2, .ptr m.vars.length 0) :: (5, .lst gr2 3 (rowsEvt (acc ++ swaEv R (n : Int)))) :: E) ?_ ?_
        · refine runs_cond rfl (fun hc => ?_) (fun hc => ?_)
          · refine go0 ?_
            refine runs_loop (fun k e m' => ∃ (s : Nat), s ≤ n ∧ m3 = m' ∧ k = n - s ∧
              e = [(1, AV.v (.int .i64 (n : Int))), (2, .ptr m.vars.length 0), (5, .lst gr3 3 (rowsEvt acc)), (12, .v (.int .i64 ((cs s : Nat) : Int))), (13, .v (.int .i64 (s : Int)))]) (k := n) ⟨0, Nat.zero_le _, rfl, rfl, by rw [hc0]; rfl⟩ ?_
            rintro k e m' ⟨s, hs0, rfl, rfl, rfl⟩
            refine go0 ?_
            refine runs_cond rfl (fun hc2 => ?_) (fun hc2 => ?_)
            · have hs1 : s < n := by have := of_decide_eq_true hc2; omega
              have c7 := fun mm => c5 s mm (by omega)
              have hN := hcn s
              have hle := hcl s
              have r6 := next_i64 (i := s) (by omega)
              have r7 := next_i64 (i := cs s) (by omega)
              cases hq : sis (s : Int) with
              | true =>
                rw [hq] at c7
                rw [hq, if_pos rfl] at hN
                refine go1 (jn @l3 (jn @t4 @c7)) ?_
                refine runs_cond rfl (fun hc => ?_) (fun hc => by cases hc)
                refine go1 (jn @r6 @r7) ?_
                exact ⟨n - (s + 1), by omega, s + 1, hs1, rfl, rfl, by rw [hN]⟩
              | false =>
                rw [hq] at c7
                rw [hq, if_neg (by decide), Nat.add_zero] at hN
                refine go1 (jn @l3 (jn @t4 @c7)) ?_
                refine runs_cond rfl (fun hc => by cases hc) (fun hc => ?_)
                refine go1 @r6 ?_
                exact ⟨n - (s + 1), by omega, s + 1, hs1, rfl, rfl, by rw [hN]; rfl⟩
            · have hs1 : s = n := by have := of_decide_eq_false hc2; omega
              subst hs1
              rw [hsw, if_pos hc, hct hc]
              obtain ⟨g4, m4, a1, hG4, hV4⟩ := app_evt (g2 := .full) hG3 acc (s : Int) 4 (((s : Int) - R.swaSteps.1).tdiv R.swaEvery) (by omega)
              refine go1 @a1 ?_
              exact ⟨rfl, _, _, hG4, by rw [hV4]; exact hv3, rfl⟩
          · rw [hsw, if_neg (by rw [hc]; decide), List.append_nil]
            refine go0 ?_
            exact ⟨rfl, _, _, hG3, hv3, rfl⟩
        rintro e4 m4 ⟨gr4, E4, hG4, hv4, rfl⟩
        have hl2 : (acc ++ swaEv R (n : Int)).length ≤ 201 := by
          have : (swaEv R (n : Int)).length ≤ 1 := by rw [hsw]; split <;> simp
          rw [List.length_append]
          omega
        generalize acc ++ swaEv R (n : Int) = acc2 at hG4 hl2 ⊢
        have l4 := lpRcSteps hv4
        have w3 : IntKind.i64.wrap ((n : Int) + 1) = (n : Int) + 1 := i64_wrap (by omega) (by omega)
        have heq : ((n : Int) + 1 == R.steps) = ((n : Int) == R.steps - 1) := by
          rw [Bool.eq_iff_iff]
          simp only [beq_iff_eq]
          omega
        refine next_normal ?_
        refine go1 (jn @w3 (jn @l4 @heq)) ?_
        refine runs_cond rfl (fun hc => ?_) (fun hc => ?_)
        · obtain ⟨g4, m5, a1, hG5, hV4⟩ := app_evt (g2 := .full) hG4 acc2 (n : Int) 11 0 (by omega)
          rw [hen, if_pos hc]
          refine go1 @a1 ?_
          exact leaves_lst rfl rfl (growsA_fin hG5)
        · rw [hen, if_neg (by rw [hc]; decide), List.append_nil]
          refine go0 ?_
          exact leaves_lst rfl rfl (growsA_fin hG4)
      · cases h
    · cases h
  · cases h
end
end Go.Proofs.YtojaokhkbmiidaaGreat.Ev

namespace Go.Proofs.YtojaokhkbmiidaaGreat.Ev
open Go Go.Proofs
set_option maxRecDepth 10000
set_option maxHeartbeats 8000000
set_option linter.unusedVariables false
set_option linter.unusedSimpArgs false
attribute [local irreducible] Next Inside Runs Ops table
def extC : Ctx := ⟨fun _ _ => none, fun _ => false, fun f => if f = 122 then some isNameG else if f = 86 then some setsG else if f = 77 then some endsRG else none⟩
theorem extC_ok : ∀ f g, extC.ext f = some g → FunOk Tryz.prog f g := by
  intro f g h
  unfold extC at h
  simp only at h
  split at h
  · rename_i e
    cases h
    subst e
    exact is_ok
  · split at h
    · rename_i e
      cases h
      subst e
      exact sets_ok
    · split at h
      · rename_i e
        cases h
        subst e
        exact endsR_ok
      · cases h
end Go.Proofs.YtojaokhkbmiidaaGreat.Ev

namespace Go.Proofs.YtojaokhkbmiidaaGreat.Ev
open Go Go.Proofs
set_option maxRecDepth 10000
set_option maxHeartbeats 8000000
set_option linter.unusedVariables false
set_option linter.unusedSimpArgs false
attribute [local irreducible] Next Inside Runs Ops table
def thereN : List AV → Mem → Option (AV × Mem)
  | [.agg cs, .v (.int .i64 step)], m =>
    match unRc cs with
    | some R => if R.fit then some (if R.sound = true then (.tup [.agg (tabRow R R.spans R.swaSteps.1), .v (.bool (R.has step))], m) else (.tup [.agg (tabRow rc0 [] 0), .v (.bool false)], m)) else none
    | none => none
  | _, _ => none
theorem thereN_ok : FunOk Tryz.prog 52 thereN := by
  intro args m r m' h
  refine there_okG args m r m' ?_
  unfold thereN at h
  split at h
  · rename_i cs step
    split at h
    · rename_i R hR
      obtain rfl := unRc_some hR
      split at h
      · rename_i hfit
        simp only [Option.some.injEq] at h
        cases hs : R.sound with
        | true =>
          rw [if_pos hs] at h
          rw [thereG_at hfit hs, h]
        | false =>
          rw [if_neg (by rw [hs]; decide)] at h
          rw [thereG_no hfit hs, h]
      · cases h
    · cases h
  · cases h
def extD : Ctx := ⟨fun _ _ => none, fun _ => false, fun f => if f = 52 then some thereN else extC.ext f⟩
theorem extD_ok : ∀ f g, extD.ext f = some g → FunOk Tryz.prog f g := by
  intro f g h
  unfold extD at h
  simp only at h
  split at h
  · rename_i e
    cases h
    subst e
    exact thereN_ok
  · exact extC_ok f g h
theorem awakeD_of {f : FuncId} (hrun : runC Tryz.prog extD 60 f [] ⟨[], []⟩ = some (.v (.bool true), ⟨[], []⟩)) : FunOk Tryz.prog f yesG := by
  have h := wide_ok (P := Tryz.prog) (f := f) (x := .bool true) fun args m r m' hg => by
    dsimp only at hg
    split at hg
    · rename_i hc
      obtain ⟨rfl, h1, h2⟩ := hc
      obtain ⟨v, t⟩ := m
      simp only at h1 h2
      subst h1
      subst h2
      cases hg
      exact runC_ok mixed extD_ok 60 _ _ _ _ _ hrun
    · cases hg
  intro args m r m' hg
  refine h args m r m' ?_
  cases args with
  | nil => exact hg
  | cons a rest => cases hg
theorem awake27_ok : FunOk Tryz.prog 22 yesG := awakeD_of (by kernel_rfl)
end Go.Proofs.YtojaokhkbmiidaaGreat.Ev

namespace Go.Proofs.YtojaokhkbmiidaaGreat.Ev
open Go Go.Proofs
set_option maxRecDepth 10000
set_option maxHeartbeats 8000000
set_option linter.unusedVariables false
set_option linter.unusedSimpArgs false
attribute [local irreducible] Next Inside Runs Ops table
attribute [local go_sem] szStr szInt Option.getD_some isNil evStr iv loadStr loadInt rowsS_len rowsGs_len rowsPh_len rowsN_len mapRc mapPh mapGs cellsRc newRc cellsPh cellsGs ldPh ldGs zrPh zoPh znPh zsPh fpRcName fpRcMetrics fpRcGroups fpRcPhases fpRcStop fpRcStopMetric fpRcPlateau fpRcPlateauMetric fpRcKeep fpRcKeepMetric fpPhName fpPhFrozen fpPhSets feGsGroup leGsGroup feGsNodes leGsNodes
def bigS (n : Int) (s : ByteArray) : Bool := decide ((s.size : Int) > n)
def lightSets (n : Int) : List Gs → Option Int
  | [] => some n
  | s :: r => if n ≤ 60 then (if bigS 40 s.group || decide ((s.nodes.length : Int) > 60) then none else lightSets (n + (s.nodes.length : Int)) r) else some n
def lightHead (p : Ph) (n : Int) : Bool := bigS 40 p.name || (decide ((p.frozen.length : Int) > 12) || (decide ((p.sets.length : Int) > 30) || decide (n > 60)))
def lightPhases (n : Int) : List Ph → Option Int
  | [] => some n
  | p :: r => if lightHead p n then none else
    match lightSets n p.sets with
    | none => none
    | some n' => if p.frozen.any (bigS 40) then none else lightPhases n' r
def Rc.lightTop (R : Rc) : Bool := bigS 100 R.name || (decide ((R.metrics.length : Int) > 12) || (decide ((R.groups.length : Int) > 12) || (decide ((R.phases.length : Int) > 20) || decide (IntKind.i64.wrap (IntKind.i64.wrap ((R.stopMetric.size : Int) + (R.plateauMetric.size : Int)) + (R.keepMetric.size : Int)) > 100))))
def Rc.light (R : Rc) : Bool := !R.lightTop && (match lightPhases 0 R.phases with
  | none => false
  | some n => !((R.metrics ++ R.groups).any (bigS 40)) && decide (n ≤ 60))
theorem lightSets_mono : ∀ {l : List Gs} {n n' : Int}, lightSets n l = some n' → n ≤ n'
  | [], n, n', h => by simp only [lightSets, Option.some.injEq] at h; omega
  | s :: r, n, n', h => by
    unfold lightSets at h
    split at h
    · split at h
      · cases h
      · have := lightSets_mono h; omega
    · simp only [Option.some.injEq] at h; omega
theorem lightSets_all : ∀ {l : List Gs} {n n' : Int}, lightSets n l = some n' → n' ≤ 60 → ∀ s ∈ l, s.nodes.length ≤ 60
  | [], n, n', h, hn => fun s hs => by simp at hs
  | x :: r, n, n', h, hn => fun s hs => by
    unfold lightSets at h
    split at h
    · split at h
      · cases h
      · rename_i hb
        simp only [Bool.or_eq_true, decide_eq_true_eq, not_or] at hb
        rcases List.mem_cons.1 hs with rfl | hs
        · omega
        · exact lightSets_all h hn s hs
    · simp only [Option.some.injEq] at h; omega
theorem lightPhases_mono : ∀ {l : List Ph} {n n' : Int}, lightPhases n l = some n' → n ≤ n'
  | [], n, n', h => by simp only [lightPhases, Option.some.injEq] at h; omega
  | p :: r, n, n', h => by
    unfold lightPhases at h
    split at h
    · cases h
    · split at h
      · cases h
      · rename_i n1 h1
        split at h
        · cases h
        · have := lightSets_mono h1; have := lightPhases_mono h; omega
theorem lightPhases_all : ∀ {l : List Ph} {n n' : Int}, lightPhases n l = some n' → n' ≤ 60 → ∀ p ∈ l, p.frozen.length ≤ 12 ∧ p.sets.length ≤ 30 ∧ ∀ s ∈ p.sets, s.nodes.length ≤ 60
  | [], n, n', h, hn => fun s hs => by simp at hs
  | x :: r, n, n', h, hn => fun p hp => by
    unfold lightPhases at h
    split at h
    · cases h
    · rename_i hb
      split at h
      · cases h
      · rename_i n1 h1
        split at h
        · cases h
        · rcases List.mem_cons.1 hp with rfl | hp
          · have := lightPhases_mono h
            simp only [lightHead, Bool.or_eq_true, decide_eq_true_eq, not_or] at hb
            exact ⟨by omega, by omega, lightSets_all h1 (by omega)⟩
          · exact lightPhases_all h hn p hp
def Rc.wide (R : Rc) : Prop := okStr R.name ∧ (∀ s ∈ R.metrics, okStr s) ∧ (∀ s ∈ R.groups, okStr s) ∧ (∀ p ∈ R.phases, okStr p.name ∧ (∀ s ∈ p.frozen, okStr s) ∧ ∀ s ∈ p.sets, okStr s.group) ∧ okStr R.stopMetric ∧ okStr R.plateauMetric ∧ okStr R.keepMetric
instance (R : Rc) : Decidable R.wide := by unfold Rc.wide; exact inferInstance
structure Rc.Lit (R : Rc) : Prop where
  metrics : R.metrics.length ≤ 12
  groups : R.groups.length ≤ 12
  phases : R.phases.length ≤ 20
  each : ∀ p ∈ R.phases, p.frozen.length ≤ 12 ∧ p.sets.length ≤ 30 ∧ ∀ s ∈ p.sets, s.nodes.length ≤ 60
theorem light_lit {R : Rc} (h : R.light = true) : R.Lit := by
  unfold Rc.light Rc.lightTop at h
  simp only [Bool.and_eq_true, Bool.not_eq_true', Bool.or_eq_false_iff, decide_eq_false_iff_not] at h
  obtain ⟨⟨_, h1, h2, h3, _⟩, h4⟩ := h
  split at h4
  · cases h4
  · rename_i n hn
    simp only [Bool.and_eq_true, decide_eq_true_eq] at h4
    exact ⟨by omega, by omega, by omega, lightPhases_all hn h4.2⟩
theorem light_fit {R : Rc} (h : R.light = true) (hw : R.wide) : R.fit := by
  obtain ⟨h1, h2, h3, h4⟩ := light_lit h
  obtain ⟨w1, w2, w3, w4, w5⟩ := hw
  have b40 : (100 : Nat) ≤ big40 := by decide
  refine ⟨w1, ⟨by omega, w2⟩, ⟨by omega, w3⟩, ⟨by omega, fun p hp => ?_⟩, w5⟩
  obtain ⟨a1, a2, a3⟩ := h4 p hp
  obtain ⟨v1, v2, v3⟩ := w4 p hp
  exact ⟨v1, by omega, v2, by omega, fun s hs => ⟨v3 s hs, by have := a3 s hs; omega⟩⟩
def lightG : List AV → Mem → Option (AV × Mem)
  | [.agg cs], m =>
    match unRc cs with
    | some R => some (.v (.bool R.light), m)
    | none => none
  | _, _ => none
theorem lightG_at {R : Rc} {m : Mem} : lightG [.agg R.row] m = some (.v (.bool R.light), m) := by
  simp only [lightG, unRc_row]
def kpLight : Nat → Option (List Nat) := fun
  | 0 => some [1]
  | 1 => some [1, 47]
  | 2 => some [2]
  | 3 => some [1, 3]
  | 4 => some [1, 3, 4]
  | 5 => some [1, 3, 4, 52]
  | 6 => some [1, 3, 4]
  | 7 => some [1, 3, 4, 5]
  | 8 => some [1, 3, 4, 5, 79]
  | 9 => some [2]
  | 10 => some [1, 3, 4, 5, 6]
  | 11 => some [1, 3, 4, 5, 6, 88]
  | 12 => some [1, 3, 4, 5, 6]
  | 13 => some [1, 3, 4, 5, 6, 108]
  | 14 => some [2]
  | 15 => some [1, 3, 4, 5, 6]
  | 16 => some [1, 3, 4, 5, 7]
  | 17 => some [1, 3, 4, 5, 7, 122]
  | 18 => some [1, 3, 4, 5, 7]
  | 19 => some [1, 3, 4, 5, 7, 131]
  | 20 => some [2]
  | 21 => some [1, 3, 8]
  | 22 => some [1, 3, 8, 140]
  | 23 => some [1, 3, 8]
  | 24 => some [1, 3, 8, 176]
  | 25 => some [2]
  | 26 => some [2]
  | _ => none
attribute [go_sem] kpLight
theorem light_ok : FunOk Tryz.prog 9 lightG := by
  have hC := table_ok (P := Tryz.prog) (l := []) table_nil
  refine fun_ok mixed hC Tryz.func9 rfl kpLight false rfl fun args m r h => ?_
  unfold lightG at h
  split at h
  · rename_i cs
    split at h
    · rename_i R hR
      obtain rfl := unRc_some hR
      simp only [Option.some.injEq] at h
      subst h
      refine ⟨Nat.le_of_ble_eq_true rfl, ?_⟩
      simp only [entry, List.length_cons, List.length_nil, List.range, List.range.loop, List.zip_cons_cons, List.zip_nil_right]
      have hA := above_push (cs := R.row) (above_self m)
      have hv : (m.push R.row).var m.vars.length = some R.row := push_var
      have nr := newRc (m := m) (x := R)
      generalize m.push R.row = m1 at hA hv nr
      have fin : ∀ (e : Env) (m' : Mem) (b : Bool), Above m m' → Ev.get e 2 = .v (.bool b) → R.light = b → Leaves Tryz.prog false Tryz.f9 m (.v (.bool R.light), m) .ret e m' := fun e m' b hA' h1 h2 => by rw [h2]; exact leaves_fin rfl h1 (above_fin hA')
      have a1 := lpRcName hv
      have a2 := lpRcMetrics hv
      have a3 := lpRcGroups hv
      have a4 := lpRcPhases hv
      have a5 := lpRcStopMetric hv
      have a6 := lpRcPlateauMetric hv
      have a7 := lpRcKeepMetric hv
      refine go1 @nr ?_
      refine ops_rcut [(1, .ptr m.vars.length 0), (47, .v (.bool R.lightTop))] m1 ?_ ?_
      · unfold Rc.lightTop bigS
        repeat' (first | refine gos1 (jn @a1 (jn @a2 (jn @a3 (jn @a4 (jn @a5 (jn @a6 @a7)))))) ?_ | (refine ops_here ?_; (fail_if_success (refine ops_case (B := true) rfl rfl rfl ?_ ?_)); (fail_if_success (refine ops_case (B := false) rfl rfl rfl ?_ ?_)); refine ops_case rfl rfl rfl (fun hB => ?_) (fun hB => ?_) <;> rw [hB]) | (refine runs_here ?_; refine runs_cond rfl (fun hc => ?_) (fun hc => ?_) <;> first | (cases hc; done) | skip))
        all_goals refine ⟨?_, rfl⟩
        all_goals first | rfl | (simp_all; done)
      repeat (first | refine next_normal ?_ | refine runs_seq ?_)
      refine runs_cond rfl (fun hc => ?_) (fun hc => ?_)
      · have e1 : R.light = false := by unfold Rc.light; rw [hc]; rfl
        refine go0 ?_
        exact fin _ _ _ hA rfl e1
      have hlt : R.metrics.length ≤ 12 ∧ R.groups.length ≤ 12 ∧ R.phases.length ≤ 20 := by
        unfold Rc.lightTop at hc
        simp only [Bool.or_eq_false_iff, decide_eq_false_iff_not] at hc
        omega
      have eL : R.light = (match lightPhases 0 R.phases with
        | none => false
        | some n => !((R.metrics ++ R.groups).any (bigS 40)) && decide (n ≤ 60)) := by unfold Rc.light; rw [hc]; rfl
      refine go0 ?_
      refine runs_loop (fun k e m' => ∃ (i : Nat) (n : Int), i ≤ R.phases.length ∧ 0 ≤ n ∧ n ≤ 120 ∧ lightPhases n (R.phases.drop i) = lightPhases 0 R.phases ∧ Above m m' ∧ m'.var m.vars.length = some R.row ∧ k = R.phases.length - i ∧
        e = [(1, AV.ptr m.vars.length 0), (3, .v (.int .i64 n)), (4, .v (.int .i64 (i : Int)))]) (k := R.phases.length) ⟨0, 0, Nat.zero_le _, by omega, by omega, rfl, hA, hv, rfl, rfl⟩ ?_
      rintro k e m2 ⟨i, n, hi0, hn0, hn1, hf, hA2, hv2, rfl, rfl⟩
      have l1 := lpRcPhases hv2
      refine go1 @l1 ?_
      refine runs_cond rfl (fun hc => ?_) (fun hc => ?_)
      · have hi1 : i < R.phases.length := by have := of_decide_eq_true hc; omega
        have f1 := atPh (g := .no) (kk := .i64) hi1
        rw [drop_next (d := ph0) hi1] at hf
        have r6 := next_i64 (i := i) (by omega)
        generalize R.phases.getD i ph0 = p at f1 hf
        have z1 := zsPh (m := m2) (x := p)
        have hA3 := above_push (cs := p.row) hA2
        have hv3 := push_old (cs' := p.row) hv2
        have hp3 : (m2.push p.row).var m2.vars.length = some p.row := push_var
        generalize m2.push p.row = m3 at z1 hA3 hv3 hp3
        have bad : ∀ e m', Above m m' → Ev.get e 2 = .v (.bool false) → lightPhases n (p :: R.phases.drop (i + 1)) = none → Leaves Tryz.prog false Tryz.f9 m (.v (.bool R.light), m) .ret e m' := fun e m' hA' hg hb => fin e m' false hA' hg (by rw [eL, ← hf, hb])
        refine go1 (jn @l1 (jn @f1 @z1)) ?_
        generalize m2.vars.length = n4 at hp3 ⊢
        have y1 := lpPhName hp3
        have y3 := lpPhFrozen hp3
        have y4 := lpPhSets hp3
        refine ops_rcut [(1, .ptr m.vars.length 0), (3, .v (.int .i64 n)), (4, .v (.int .i64 (i : Int))), (5, .ptr n4 0), (79, .v (.bool (lightHead p n)))] m3 ?_ ?_
        · unfold lightHead bigS
          repeat' (first | refine gos1 (jn @y1 (jn @y3 @y4)) ?_ | (refine ops_here ?_; (fail_if_success (refine ops_case (B := true) rfl rfl rfl ?_ ?_)); (fail_if_success (refine ops_case (B := false) rfl rfl rfl ?_ ?_)); refine ops_case rfl rfl rfl (fun hB => ?_) (fun hB => ?_) <;> rw [hB]) | (refine runs_here ?_; refine runs_cond rfl (fun hc => ?_) (fun hc => ?_) <;> first | (cases hc; done) | skip))
          all_goals refine ⟨?_, rfl⟩
          all_goals first | rfl | (simp_all; done)
        repeat (first | refine next_normal ?_ | refine runs_seq ?_)
        refine runs_cond rfl (fun hc => ?_) (fun hc => ?_)
        · refine go0 ?_
          exact bad _ _ hA3 rfl (by unfold lightPhases; rw [hc]; rfl)
        have zh := hc
        have hP : lightPhases n (p :: R.phases.drop (i + 1)) = match lightSets n p.sets with
          | none => none
          | some n' => if p.frozen.any (bigS 40) then none else lightPhases n' (R.phases.drop (i + 1)) := by conv => lhs; unfold lightPhases
                                                                                                             rw [zh]; rfl
        have hlen : p.frozen.length ≤ 12 ∧ p.sets.length ≤ 30 ∧ n ≤ 60 := by
          unfold lightHead at zh
          simp only [Bool.or_eq_false_iff, decide_eq_false_iff_not] at zh
          omega
        refine go0 ?_
        refine runs_loop (fun k e m' => ∃ (j : Nat) (n' : Int), j ≤ p.sets.length ∧ 0 ≤ n' ∧ n' ≤ 120 ∧ lightSets n' (p.sets.drop j) = lightSets n p.sets ∧ m3 = m' ∧ k = p.sets.length - j ∧
          e = [(1, AV.ptr m.vars.length 0), (3, .v (.int .i64 n')), (4, .v (.int .i64 (i : Int))), (5, .ptr n4 0), (6, .v (.int .i64 (j : Int)))]) (k := p.sets.length) ⟨0, n, Nat.zero_le _, hn0, hn1, rfl, rfl, rfl, rfl⟩ ?_
        rintro k e m5 ⟨j, n', hj0, hn3, hn4, hS, rfl, rfl, rfl⟩
        refine go0 ?_
        refine ops_rcut [(1, .ptr m.vars.length 0), (3, .v (.int .i64 n')), (4, .v (.int .i64 (i : Int))), (5, .ptr n4 0), (6, .v (.int .i64 (j : Int))), (88, .v (.bool (decide ((j : Int) < (p.sets.length : Int)) && decide (n' ≤ 60))))] m3 ?_ ?_
        · cases q1 : decide ((j : Int) < (p.sets.length : Int)) with
          | true =>
            refine go1 (jn @y4 @q1) ?_
            exact ⟨by rw [Bool.true_and], rfl⟩
          | false =>
            refine go1 (jn @y4 @q1) ?_
            exact ⟨rfl, rfl⟩
        repeat (first | refine next_normal ?_ | refine runs_seq ?_)
        refine runs_cond rfl (fun hc => ?_) (fun hc => ?_)
        · simp only [Bool.and_eq_true, decide_eq_true_eq] at hc
          have hj1 : j < p.sets.length := by omega
          have f2 := atGs (g := .no) (kk := .i64) hj1
          rw [drop_next (d := gs0) hj1] at hS
          generalize p.sets.getD j gs0 = s at f2 hS
          have r7 := next_i64 (i := j) (by omega)
          have hS2 : lightSets n' (s :: p.sets.drop (j + 1)) = if bigS 40 s.group || decide ((s.nodes.length : Int) > 60) then none else lightSets (n' + (s.nodes.length : Int)) (p.sets.drop (j + 1)) := by
            conv => lhs; unfold lightSets
            rw [if_pos hc.2]
          rw [hS2] at hS
          refine go1 (jn @y4 @f2) ?_
          refine ops_rcut [(1, .ptr m.vars.length 0), (3, .v (.int .i64 n')), (4, .v (.int .i64 (i : Int))), (5, .ptr n4 0), (6, .v (.int .i64 (j : Int))), (108, .v (.bool (bigS 40 s.group || decide ((s.nodes.length : Int) > 60))))] m3 ?_ ?_
          · unfold bigS
            cases q1 : decide ((s.group.size : Int) > 40) with
            | true =>
              refine go1 @q1 ?_
              exact ⟨rfl, rfl⟩
            | false =>
              refine go1 (jn @q1 (jn @y4 @f2)) ?_
              exact ⟨by rw [Bool.false_or], rfl⟩
          repeat (first | refine next_normal ?_ | refine runs_seq ?_)
          refine runs_cond rfl (fun hb => ?_) (fun hb => ?_)
          · refine go0 ?_
            rw [hb, if_pos rfl] at hS
            exact bad _ _ hA3 rfl (by rw [hP, ← hS])
          · rw [hb, if_neg (by decide)] at hS
            simp only [Bool.or_eq_false_iff, decide_eq_false_iff_not] at hb
            have r8 : IntKind.i64.wrap (n' + (s.nodes.length : Int)) = n' + (s.nodes.length : Int) := i64_wrap (by omega) (by omega)
            refine go1 (jn @y4 (jn @f2 (jn @r8 @r7))) ?_
            exact ⟨p.sets.length - (j + 1), by omega, j + 1, n' + (s.nodes.length : Int), hj1, by omega, by omega, hS, rfl, rfl, rfl⟩
        have hS3 : lightSets n p.sets = some n' := by
          rw [← hS]
          by_cases hj1 : j < p.sets.length
          · rw [drop_next (d := gs0) hj1]
            unfold lightSets
            rw [if_neg]
            intro h60
            rw [decide_eq_true (show (j : Int) < (p.sets.length : Int) by omega), decide_eq_true h60] at hc
            cases hc
          · rw [List.drop_eq_nil_of_le (by omega)]
            rfl
        rw [hS3] at hP
        simp only at hP
        refine go0 ?_
        refine runs_loop (fun k e m' => ∃ (j : Nat), j ≤ p.frozen.length ∧ firstBy (bigS 40) (p.frozen.drop j) j = firstBy (bigS 40) p.frozen 0 ∧ m3 = m' ∧ k = p.frozen.length - j ∧
          e = [(1, AV.ptr m.vars.length 0), (3, .v (.int .i64 n')), (4, .v (.int .i64 (i : Int))), (5, .ptr n4 0), (7, .v (.int .i64 (j : Int)))]) (k := p.frozen.length) ⟨0, Nat.zero_le _, rfl, rfl, rfl, rfl⟩ ?_
        rintro k e m6 ⟨j, hj0, hg, rfl, rfl, rfl⟩
        refine go1 @y3 ?_
        refine runs_cond rfl (fun hc => ?_) (fun hc => ?_)
        · have hj1 : j < p.frozen.length := by have := of_decide_eq_true hc; omega
          have f2 := atStrs (g := .no) (kk := .i64) hj1
          have syes := fun hp => firstBy_yes (d := (⟨#[]⟩ : ByteArray)) (p := bigS 40) hj1 hp
          have sno := fun hp => by_no (d := (⟨#[]⟩ : ByteArray)) hj1 hp hg
          have r7 := next_i64 (i := j) (by omega)
          generalize p.frozen.getD j ⟨#[]⟩ = s at f2 syes sno
          refine go1 (jn @y3 @f2) ?_
          refine runs_cond rfl (fun hc => ?_) (fun hc => ?_)
          · refine go0 ?_
            exact bad _ _ hA3 rfl (by rw [hP, syes hc]; rfl)
          · refine go1 @r7 ?_
            exact ⟨p.frozen.length - (j + 1), by omega, j + 1, hj1, sno hc, rfl, rfl, rfl⟩
        · have hj1 : j = p.frozen.length := by have := of_decide_eq_false hc; omega
          subst hj1
          rw [firstBy_no hg, if_neg (by decide)] at hP
          refine go1 @r6 ?_
          exact ⟨R.phases.length - (i + 1), by omega, i + 1, n', hi1, hn3, hn4, by rw [← hP, hf], hA3, hv3, rfl, rfl⟩
      · have hi1 : i = R.phases.length := by have := of_decide_eq_false hc; omega
        subst hi1
        rw [List.drop_length] at hf
        rw [← hf] at eL
        have eL' : R.light = (!((R.metrics ++ R.groups).any (bigS 40)) && decide (n ≤ 60)) := eL
        generalize hL : R.metrics ++ R.groups = L at eL'
        have hLl : L.length = R.metrics.length + R.groups.length := by rw [← hL, List.length_append]
        have w0 : IntKind.i64.wrap ((R.metrics.length : Int) + (R.groups.length : Int)) = (L.length : Int) := by rw [i64_wrap (by omega) (by omega)]; omega
        refine go0 ?_
        refine runs_loop (fun k e m' => ∃ (i : Nat), i ≤ L.length ∧ firstBy (bigS 40) (L.drop i) i = firstBy (bigS 40) L 0 ∧ m2 = m' ∧ k = L.length - i ∧
          e = [(1, AV.ptr m.vars.length 0), (3, .v (.int .i64 n)), (8, .v (.int .i64 (i : Int)))]) (k := L.length) ⟨0, Nat.zero_le _, rfl, rfl, rfl, rfl⟩ ?_
        rintro k e m7 ⟨i, hi0, hg, rfl, rfl, rfl⟩
        have y1 := lpRcMetrics hv2
        have y2 := lpRcGroups hv2
        refine go1 (jn @y1 (jn @y2 @w0)) ?_
        refine runs_cond rfl (fun hc => ?_) (fun hc => ?_)
        · have hi1 : i < L.length := by have := of_decide_eq_true hc; omega
          have syes := fun hp => firstBy_yes (d := (⟨#[]⟩ : ByteArray)) (p := bigS 40) hi1 hp
          have sno := fun hp => by_no (d := (⟨#[]⟩ : ByteArray)) hi1 hp hg
          have r7 := next_i64 (i := i) (by omega)
          refine go0 ?_
          refine ops_rcut [(1, .ptr m.vars.length 0), (3, .v (.int .i64 n)), (8, .v (.int .i64 (i : Int))), (176, .v (.bool (bigS 40 (L.getD i ⟨#[]⟩))))] m2 ?_ ?_
          · by_cases hm : i < R.metrics.length
            · have b0 : decide ((i : Int) < (R.metrics.length : Int)) = true := decide_eq_true (by omega)
              have b1 : decide ((i : Int) ≥ (R.metrics.length : Int)) = false := decide_eq_false (by omega)
              have f2 := atStrs (g := .no) (kk := .i64) hm
              have e0 : L.getD i ⟨#[]⟩ = R.metrics.getD i ⟨#[]⟩ := by rw [← hL]; simp [List.getD, List.getElem?_append_left hm]
              rw [e0]
              generalize R.metrics.getD i ⟨#[]⟩ = s at f2
              unfold bigS
              cases q1 : decide ((s.size : Int) > 40) with
              | true =>
                refine go1 (jn @y1 (jn @b0 (jn @f2 @q1))) ?_
                exact ⟨rfl, rfl⟩
              | false =>
                refine go1 (jn @y1 (jn @b0 (jn @f2 (jn @q1 @b1)))) ?_
                exact ⟨rfl, rfl⟩
            · have b0 : decide ((i : Int) < (R.metrics.length : Int)) = false := decide_eq_false (by omega)
              have b1 : decide ((i : Int) ≥ (R.metrics.length : Int)) = true := decide_eq_true (by omega)
              have hm2 : i - R.metrics.length < R.groups.length := by omega
              have f2 := atStrs (g := .no) (kk := .i64) hm2
              have r8 : IntKind.i64.wrap ((i : Int) - (R.metrics.length : Int)) = ((i - R.metrics.length : Nat) : Int) := by rw [i64_wrap (by omega) (by omega)]; omega
              have e0 : L.getD i ⟨#[]⟩ = R.groups.getD (i - R.metrics.length) ⟨#[]⟩ := by rw [← hL]; simp [List.getD, List.getElem?_append_right (Nat.le_of_not_lt hm)]
              rw [e0]
              generalize R.groups.getD (i - R.metrics.length) ⟨#[]⟩ = s at f2
              unfold bigS
              refine go1 (jn @y1 (jn @b0 (jn @b1 (jn @y2 (jn @r8 @f2))))) ?_
              exact ⟨rfl, rfl⟩
          repeat (first | refine next_normal ?_ | refine runs_seq ?_)
          refine runs_cond rfl (fun hb => ?_) (fun hb => ?_)
          · refine go0 ?_
            exact fin _ _ _ hA2 rfl (by rw [eL', syes hb]; rfl)
          · refine go1 @r7 ?_
            exact ⟨L.length - (i + 1), by omega, i + 1, hi1, sno hb, rfl, rfl, rfl⟩
        · have hi1 : i = L.length := by have := of_decide_eq_false hc; omega
          subst hi1
          rw [firstBy_no hg] at eL'
          refine go0 ?_
          exact fin _ _ _ hA2 rfl (eL'.trans (by rw [Bool.not_false, Bool.true_and]))
    · cases h
  · cases h
end Go.Proofs.YtojaokhkbmiidaaGreat.Ev

namespace Go.Proofs.YtojaokhkbmiidaaGreat.Ev
open Go Go.Proofs
set_option maxRecDepth 10000
set_option maxHeartbeats 8000000
set_option linter.unusedVariables false
set_option linter.unusedSimpArgs false
attribute [local irreducible] Next Inside Runs Ops table
theorem ty_int {d : Nat} {p : List AV} (h : Typed Tryz.prog (d + 1) 3 p) : ∃ n, inI n ∧ p = [iv n] := by
  unfold Typed at h
  rw [Tryz.underlying3] at h
  obtain ⟨n, rfl, n0, n1⟩ := h
  simp [IntKind.min, IntKind.max, IntKind.signed, IntKind.bits] at n0 n1
  exact ⟨n, ⟨n0, n1⟩, rfl⟩
theorem ty_bool {d : Nat} {p : List AV} (h : Typed Tryz.prog (d + 1) 4 p) : ∃ b, p = [.v (.bool b)] := by
  unfold Typed at h
  rw [Tryz.underlying4] at h
  exact h
theorem ty_str {d : Nat} {p : List AV} (h : Typed Tryz.prog (d + 1) 9 p) : ∃ s, okStr s ∧ p = [.v (.string s)] := by
  unfold Typed at h
  rw [Tryz.underlying9] at h
  obtain ⟨s, rfl, h1⟩ := h
  exact ⟨s, h1, rfl⟩
theorem ty_strs {d : Nat} : ∀ {rows : List (List AV)}, (∀ row ∈ rows, Typed Tryz.prog (d + 1) 9 row) → ∃ l, (∀ s ∈ l, okStr s) ∧ rows = rowsS l
  | [], _ => ⟨[], (fun s hs => by simp at hs), rfl⟩
  | row :: rows, h => by
    obtain ⟨l, h1, rfl⟩ := ty_strs fun r hr => h r (List.mem_cons_of_mem _ hr)
    obtain ⟨s, h2, rfl⟩ := ty_str (h row (List.mem_cons_self ..))
    refine ⟨s :: l, fun x hx => ?_, rfl⟩
    rcases List.mem_cons.1 hx with rfl | hx
    · exact h2
    · exact h1 x hx
theorem ty_strsP {d : Nat} {p : List AV} (h : Typed Tryz.prog (d + 2) 22 p) : ∃ l, (∀ s ∈ l, okStr s) ∧ p = [.lst .no 1 (rowsS l)] := by
  unfold Typed at h
  rw [Tryz.underlying22] at h
  obtain ⟨rows, rfl, _, h2⟩ := h
  obtain ⟨l, h3, rfl⟩ := ty_strs h2
  exact ⟨l, h3, by rw [size_cells szStr]⟩
theorem ty_nodesP {d : Nat} {p : List AV} (h : Typed Tryz.prog (d + 4) 70 p) : ∃ l, OkN l ∧ p = [.lst .no 7 (rowsN l)] := by
  unfold Typed at h
  rw [Tryz.underlying70] at h
  obtain ⟨rows, rfl, _, h2⟩ := h
  obtain ⟨l, h3, rfl⟩ := rows_nodes h2
  exact ⟨l, h3, by rw [size_cells szNode]⟩
theorem ty_len {d : Nat} {p : List AV} (h : Typed Tryz.prog (d + 2) 33 p) : ∃ u n, p = [iv u, iv n] := by
  unfold Typed at h
  rw [Tryz.underlying33] at h
  obtain ⟨parts, rfl, hl, h⟩ := h
  match parts, hl with
  | [p0, p1], _ =>
    obtain ⟨a, a0, rfl⟩ := ty_int (h 0 _ p0 rfl rfl)
    obtain ⟨b, b0, rfl⟩ := ty_int (h 1 _ p1 rfl rfl)
    exact ⟨a, b, rfl⟩
theorem ty_gs {d : Nat} {p : List AV} (h : Typed Tryz.prog (d + 5) 72 p) : ∃ x : Gs, okStr x.group ∧ p = x.row := by
  unfold Typed at h
  rw [Tryz.underlying72] at h
  obtain ⟨parts, rfl, hl, h⟩ := h
  match parts, hl with
  | [p0, p1, p2], _ =>
    obtain ⟨a, a0, rfl⟩ := ty_str (h 0 _ p0 rfl rfl)
    obtain ⟨b, b0, rfl⟩ := ty_int (h 1 _ p1 rfl rfl)
    obtain ⟨c, c0, rfl⟩ := ty_nodesP (h 2 _ p2 rfl rfl)
    exact ⟨⟨a, b, c⟩, a0, rfl⟩
theorem ty_gss {d : Nat} : ∀ {rows : List (List AV)}, (∀ row ∈ rows, Typed Tryz.prog (d + 5) 72 row) → ∃ l : List Gs, (∀ s ∈ l, okStr s.group) ∧ rows = rowsGs l
  | [], _ => ⟨[], (fun s hs => by simp at hs), rfl⟩
  | row :: rows, h => by
    obtain ⟨l, h1, rfl⟩ := ty_gss fun r hr => h r (List.mem_cons_of_mem _ hr)
    obtain ⟨s, h2, rfl⟩ := ty_gs (h row (List.mem_cons_self ..))
    refine ⟨s :: l, fun x hx => ?_, rfl⟩
    rcases List.mem_cons.1 hx with rfl | hx
    · exact h2
    · exact h1 x hx
theorem ty_gssP {d : Nat} {p : List AV} (h : Typed Tryz.prog (d + 6) 67 p) : ∃ l : List Gs, (∀ s ∈ l, okStr s.group) ∧ p = [.lst .no 3 (rowsGs l)] := by
  unfold Typed at h
  rw [Tryz.underlying67] at h
  obtain ⟨rows, rfl, _, h2⟩ := h
  obtain ⟨l, h3, rfl⟩ := ty_gss h2
  exact ⟨l, h3, by rw [size_cells szGs]⟩
def Ph.wide (p : Ph) : Prop := okStr p.name ∧ (∀ s ∈ p.frozen, okStr s) ∧ ∀ s ∈ p.sets, okStr s.group
theorem ty_ph {d : Nat} {p : List AV} (h : Typed Tryz.prog (d + 7) 69 p) : ∃ x : Ph, x.wide ∧ p = x.row := by
  unfold Typed at h
  rw [Tryz.underlying69] at h
  obtain ⟨parts, rfl, hl, h⟩ := h
  match parts, hl with
  | [p0, p1, p2, p3], _ =>
    obtain ⟨a, a0, rfl⟩ := ty_str (h 0 _ p0 rfl rfl)
    obtain ⟨u, n, rfl⟩ := ty_len (h 1 _ p1 rfl rfl)
    obtain ⟨b, b0, rfl⟩ := ty_strsP (h 2 _ p2 rfl rfl)
    obtain ⟨c, c0, rfl⟩ := ty_gssP (h 3 _ p3 rfl rfl)
    exact ⟨⟨a, u, n, b, c⟩, ⟨a0, b0, c0⟩, rfl⟩
theorem ty_phs {d : Nat} : ∀ {rows : List (List AV)}, (∀ row ∈ rows, Typed Tryz.prog (d + 7) 69 row) → ∃ l : List Ph, (∀ s ∈ l, s.wide) ∧ rows = rowsPh l
  | [], _ => ⟨[], (fun s hs => by simp at hs), rfl⟩
  | row :: rows, h => by
    obtain ⟨l, h1, rfl⟩ := ty_phs fun r hr => h r (List.mem_cons_of_mem _ hr)
    obtain ⟨s, h2, rfl⟩ := ty_ph (h row (List.mem_cons_self ..))
    refine ⟨s :: l, fun x hx => ?_, rfl⟩
    rcases List.mem_cons.1 hx with rfl | hx
    · exact h2
    · exact h1 x hx
theorem ty_phsP {d : Nat} {p : List AV} (h : Typed Tryz.prog (d + 8) 23 p) : ∃ l : List Ph, (∀ s ∈ l, s.wide) ∧ p = [.lst .no 5 (rowsPh l)] := by
  unfold Typed at h
  rw [Tryz.underlying23] at h
  obtain ⟨rows, rfl, _, h2⟩ := h
  obtain ⟨l, h3, rfl⟩ := ty_phs h2
  exact ⟨l, h3, by rw [size_cells szPh]⟩
theorem ty_tp {d : Nat} {p : List AV} (h : Typed Tryz.prog (d + 2) 25 p) : ∃ x : Tp, okStr x.Metric ∧ p = x.row := by
  unfold Typed at h
  rw [Tryz.underlying25] at h
  obtain ⟨parts, rfl, hl, h⟩ := h
  match parts, hl with
  | [p0, p1, p2, p3, p4, p5], _ =>
    obtain ⟨a, rfl⟩ := ty_bool (h 0 _ p0 rfl rfl)
    obtain ⟨b, b0, rfl⟩ := ty_str (h 1 _ p1 rfl rfl)
    obtain ⟨c, rfl⟩ := ty_bool (h 2 _ p2 rfl rfl)
    obtain ⟨e, e0, rfl⟩ := ty_int (h 3 _ p3 rfl rfl)
    obtain ⟨f, f0, rfl⟩ := ty_int (h 4 _ p4 rfl rfl)
    obtain ⟨g, rfl⟩ := ty_bool (h 5 _ p5 rfl rfl)
    exact ⟨⟨a, b, c, e, f, g⟩, b0, rfl⟩
theorem ty_pt {d : Nat} {p : List AV} (h : Typed Tryz.prog (d + 2) 27 p) : ∃ x : Pt, okStr x.Metric ∧ p = x.row := by
  unfold Typed at h
  rw [Tryz.underlying27] at h
  obtain ⟨parts, rfl, hl, h⟩ := h
  match parts, hl with
  | [p0, p1, p2, p3, p4, p5, p6, p7], _ =>
    obtain ⟨a, rfl⟩ := ty_bool (h 0 _ p0 rfl rfl)
    obtain ⟨b, b0, rfl⟩ := ty_str (h 1 _ p1 rfl rfl)
    obtain ⟨c, rfl⟩ := ty_bool (h 2 _ p2 rfl rfl)
    obtain ⟨e, e0, rfl⟩ := ty_int (h 3 _ p3 rfl rfl)
    obtain ⟨f, f0, rfl⟩ := ty_int (h 4 _ p4 rfl rfl)
    obtain ⟨g, g0, rfl⟩ := ty_int (h 5 _ p5 rfl rfl)
    obtain ⟨i, i0, rfl⟩ := ty_int (h 6 _ p6 rfl rfl)
    obtain ⟨j, j0, rfl⟩ := ty_int (h 7 _ p7 rfl rfl)
    exact ⟨⟨a, b, c, e, f, g, i, j⟩, b0, rfl⟩
theorem ty_kp {d : Nat} {p : List AV} (h : Typed Tryz.prog (d + 2) 29 p) : ∃ x : Kp, okStr x.Metric ∧ p = x.row := by
  unfold Typed at h
  rw [Tryz.underlying29] at h
  obtain ⟨parts, rfl, hl, h⟩ := h
  match parts, hl with
  | [p0, p1, p2, p3], _ =>
    obtain ⟨a, rfl⟩ := ty_bool (h 0 _ p0 rfl rfl)
    obtain ⟨b, b0, rfl⟩ := ty_str (h 1 _ p1 rfl rfl)
    obtain ⟨c, rfl⟩ := ty_bool (h 2 _ p2 rfl rfl)
    obtain ⟨e, e0, rfl⟩ := ty_int (h 3 _ p3 rfl rfl)
    exact ⟨⟨a, b, c, e⟩, b0, rfl⟩
theorem ty_em {d : Nat} {p : List AV} (h : Typed Tryz.prog (d + 2) 31 p) : ∃ x : Em, p = x.row := by
  unfold Typed at h
  rw [Tryz.underlying31] at h
  obtain ⟨parts, rfl, hl, h⟩ := h
  match parts, hl with
  | [p0, p1], _ =>
    obtain ⟨a, rfl⟩ := ty_bool (h 0 _ p0 rfl rfl)
    obtain ⟨b, b0, rfl⟩ := ty_int (h 1 _ p1 rfl rfl)
    exact ⟨⟨a, b⟩, rfl⟩
theorem ty_sw {d : Nat} {p : List AV} (h : Typed Tryz.prog (d + 3) 35 p) : ∃ x : Sw, p = x.row := by
  unfold Typed at h
  rw [Tryz.underlying35] at h
  obtain ⟨parts, rfl, hl, h⟩ := h
  match parts, hl with
  | [p0, p1, p2], _ =>
    obtain ⟨a, rfl⟩ := ty_bool (h 0 _ p0 rfl rfl)
    obtain ⟨u, n, rfl⟩ := ty_len (h 1 _ p1 rfl rfl)
    obtain ⟨b, b0, rfl⟩ := ty_int (h 2 _ p2 rfl rfl)
    exact ⟨⟨a, u, n, b⟩, rfl⟩
theorem ty_rc {d : Nat} {p : List AV} (h : Typed Tryz.prog (d + 9) 37 p) : ∃ R : Rc, R.wide ∧ (inI R.steps ∧ inI R.epoch ∧ inI R.eval) ∧ p = R.row := by
  unfold Typed at h
  rw [Tryz.underlying37] at h
  obtain ⟨parts, rfl, hl, h⟩ := h
  match parts, hl with
  | [p0, p1, p2, p3, p4, p5, p6, p7, p8, p9, p10, p11, p12], _ =>
    obtain ⟨c0, a0, rfl⟩ := ty_str (h 0 _ p0 rfl rfl)
    obtain ⟨c1, a1, rfl⟩ := ty_int (h 1 _ p1 rfl rfl)
    obtain ⟨c2, a2, rfl⟩ := ty_int (h 2 _ p2 rfl rfl)
    obtain ⟨c3, a3, rfl⟩ := ty_int (h 3 _ p3 rfl rfl)
    obtain ⟨c4, a4, rfl⟩ := ty_strsP (h 4 _ p4 rfl rfl)
    obtain ⟨c5, a5, rfl⟩ := ty_strsP (h 5 _ p5 rfl rfl)
    obtain ⟨c6, a6, rfl⟩ := ty_int (h 6 _ p6 rfl rfl)
    obtain ⟨c7, a7, rfl⟩ := ty_phsP (h 7 _ p7 rfl rfl)
    obtain ⟨s, s0, rfl⟩ := ty_tp (h 8 _ p8 rfl rfl)
    obtain ⟨t, t0, rfl⟩ := ty_pt (h 9 _ p9 rfl rfl)
    obtain ⟨k, k0, rfl⟩ := ty_kp (h 10 _ p10 rfl rfl)
    obtain ⟨e, rfl⟩ := ty_em (h 11 _ p11 rfl rfl)
    obtain ⟨w, rfl⟩ := ty_sw (h 12 _ p12 rfl rfl)
    exact ⟨⟨c0, c1, c2, c3, c4, c5, c6, c7, s.On, s.Metric, s.Max, s.Patience, s.Delta, s.Rel, t.On, t.Metric, t.Max, t.Factor, t.Patience, t.Cooldown, t.Floor, t.Delta, k.On, k.Metric, k.Max, k.Count, e.On, e.Decay, w.On, w.FromU, w.FromN, w.Every⟩, ⟨a0, a4, a5, a7, s0, t0, k0⟩, ⟨a1, a2, a6⟩, rfl⟩
theorem arg_rc {d : Nat} {a : AV} (h : TypedArg Tryz.prog (d + 9) 37 a) : ∃ R : Rc, R.wide ∧ (inI R.steps ∧ inI R.epoch ∧ inI R.eval) ∧ a = .agg R.row := by
  unfold TypedArg at h
  rw [Tryz.underlying37] at h
  obtain ⟨cs, rfl, h⟩ := h
  obtain ⟨R, h1, h2, rfl⟩ := ty_rc h
  exact ⟨R, h1, h2, rfl⟩
theorem lit_lite {R : Rc} (h : R.light = true) (hw : R.wide) : R.fit ∧ R.metrics.length ≤ 1000 ∧ R.groups.length ≤ 1000 ∧ R.phases.length ≤ 1000 ∧ ∀ p ∈ R.phases, p.frozen.length ≤ 1000 ∧ p.sets.length ≤ 1000 := by
  obtain ⟨h1, h2, h3, h4⟩ := light_lit h
  exact ⟨light_fit h hw, by omega, by omega, by omega, fun p hp => by obtain ⟨a1, a2, _⟩ := h4 p hp; exact ⟨by omega, by omega⟩⟩
end Go.Proofs.YtojaokhkbmiidaaGreat.Ev
