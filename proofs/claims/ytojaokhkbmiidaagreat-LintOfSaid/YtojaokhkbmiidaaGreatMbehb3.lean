/- Rules: sets of no group, of frozen ones, or there already. -/
import Derived.Test.YtojaokhkbmiidaaGreatMbehb2
import Derived.Test.YtojaokhkbmiidaaGreatMa5
import Derived.Test.YtojaokhkbmiidaaGreatMa6
namespace Go.Proofs.YtojaokhkbmiidaaGreat.Ev
open Go Go.Proofs
set_option maxRecDepth 10000
set_option maxHeartbeats 8000000
set_option linter.unusedVariables false
set_option linter.unusedSimpArgs false
section
attribute [local irreducible] Next Inside Runs Ops table
attribute [local irreducible] XRuns XOps XNext XInside XAny XStep
/-! ### flaws place by place -/
def upto (n : Nat) (f : Nat → List Fl) : List Fl := (List.range n).flatMap f
theorem upto_zero {f : Nat → List Fl} : upto 0 f = [] := rfl
theorem upto_next {n : Nat} {f : Nat → List Fl} : upto (n + 1) f = upto n f ++ f n := by
 unfold upto
 rw [List.range_succ, List.flatMap_append]
 simp
theorem upto_len {f : Nat → List Fl} {c : Nat} : ∀ (n : Nat), (∀ i, i < n → (f i).length ≤ c) → (upto n f).length ≤ n * c
 | 0, _ => by simp [upto]
 | n + 1, h => by
  rw [upto_next, List.length_append, Nat.add_mul]
  have := upto_len n fun i hi => h i (by omega)
  have := h n (by omega)
  omega
def flawIf (b : Bool) (rule i k : Int) : List Fl := if b then [⟨rule, i, k⟩] else []
theorem flawIf_len (b : Bool) (rule i k : Int) : (flawIf b rule i k).length ≤ 1 := by unfold flawIf; split <;> simp
theorem flawIf_app (fl : List Fl) (b : Bool) (rule i k : Int) : (if b then fl ++ [⟨rule, i, k⟩] else fl) = fl ++ flawIf b rule i k := by unfold flawIf; cases b <;> simp
/-- Recipes that are not great. -/
def Rc.small (r : Rc) : Prop := r.metrics.length ≤ 64 ∧ r.groups.length ≤ 64 ∧ r.phases.length ≤ 64 ∧ ∀ p ∈ r.phases, p.frozen.length ≤ 64 ∧ p.sets.length ≤ 64 ∧ ∀ s ∈ p.sets, s.nodes.length ≤ 100
instance (r : Rc) : Decidable r.small := by unfold Rc.small; exact inferInstance
theorem Rc.small.phase {r : Rc} (h : r.small) (i : Nat) : (r.phases.getD i ph0).frozen.length ≤ 64 ∧ (r.phases.getD i ph0).sets.length ≤ 64 ∧ ∀ s ∈ (r.phases.getD i ph0).sets, s.nodes.length ≤ 100 := by
 rw [List.getD]
 cases hp : r.phases[i]? with
 | none => simp [ph0]
 | some p => exact h.2.2.2 p (List.mem_of_getElem? hp)
/-! ### whose hyperparameter -/
def encPl (k : ByteArray × Int) : Value := .agg #[.string k.1, .int .i64 k.2]
theorem placeKey : KeyOk Tryz.prog 148 (ByteArray × Int) encPl where
 ck em k w := by kernel_rfl
 eq a b w := by
  have h : eqTy Tryz.prog 8 148 (.agg [.v (.string a.1), .v (.int .i64 a.2)]) (.agg [.v (.string b.1), .v (.int .i64 b.2)]) = some ((a.1 == b.1) && ((a.2 == b.2) && true)) := by kernel_rfl
  have rep : ∀ c : ByteArray × Int, Rep (phiW w) ⟨[], []⟩ w (.agg [.v (.string c.1), .v (.int .i64 c.2)]) (encPl c) := fun c => .agg _ _ rfl fun i x u e1 e2 => by
   match i, e1, e2 with
   | 0, e1, e2 => cases e1; cases e2; exact .v _
   | 1, e1, e2 => cases e1; cases e2; exact .v _
   | i + 2, e1, e2 => simp at e1
  have := eqTy_sound (φ := phiW w) (m := ⟨[], []⟩) (w := w) 9992 8 _ _ _ _ _ _ h (rep a) (rep b)
  have e : ((a.1 == b.1) && ((a.2 == b.2) && true)) = decide (a = b) := by
   rw [bytes_dec, Bool.and_true, Bool.eq_iff_iff]
   obtain ⟨a1, a2⟩ := a
   obtain ⟨b1, b2⟩ := b
   simp
  rw [e] at this
  exact this
 wide := by kernel_rfl
 stay k := by
  obtain ⟨g, p⟩ := k
  simp [encPl, Instr.sameBits, bytes_self]
theorem x_icut {P : Program} {φ₀ : Phi} {m₀ : Mem} {w₀ : World} {nt : Nat} {x : Code} {e : Env} {m : Mem} {F : Objs} {Q : PostF} (I : Env → Mem → Objs → Prop) (h : XRuns P φ₀ m₀ w₀ nt x e m F fun z e m F => match z with | .normal => I e m F | _ => False) (hk : ∀ e m F, I e m F → Q .normal e m F) :
  XRuns P φ₀ m₀ w₀ nt x e m F Q :=
 x_mono h fun z e m F hz => by
  cases z with
  | normal => exact hk e m F hz
  | exit id => exact hz.elim
  | ret => exact hz.elim
theorem x_ncut {P : Program} {φ₀ : Phi} {m₀ : Mem} {w₀ : World} {nt : Nat} {x : Code} {e : Env} {m : Mem} {F : Objs} {Q : PostF} {K : Env → Mem → Objs → Prop} (I : Env → Mem → Objs → Prop) (h : XRuns P φ₀ m₀ w₀ nt x e m F fun z e m F => match z with | .normal => I e m F | _ => False) (hk : ∀ e m F, I e m F → K e m F) :
  XRuns P φ₀ m₀ w₀ nt x e m F (XNext K Q) :=
 x_mono h fun z e m F hz => by
  cases z with
  | normal => exact xn_normal (hk e m F hz)
  | exit id => exact hz.elim
  | ret => exact hz.elim
/-! ### sets -/
def keyOf (s : Gs) : ByteArray × Int := (s.group, s.param)
def cnt (l : List Gs) (q : ByteArray × Int) : Nat := (l.filter fun s => decide (keyOf s = q)).length
theorem cnt_next {l : List Gs} {k : Nat} (hk : k < l.length) (q : ByteArray × Int) : cnt (l.take (k + 1)) q = cnt (l.take k) q + if q = keyOf (l.getD k gs0) then 1 else 0 := by
 unfold cnt
 rw [take_next (d := gs0) hk, List.filter_append, List.length_append]
 congr 1
 generalize l.getD k gs0 = s
 by_cases h : keyOf s = q
 ·rw [if_pos h.symm]
  simp [h]
 ·rw [if_neg (fun e => h e.symm)]
  simp [h]
theorem cnt_le (l : List Gs) (q : ByteArray × Int) : cnt l q ≤ l.length := List.length_filter_le ..
def dupAt (l : List Gs) (k : Nat) : Bool := decide (0 < cnt (l.take k) (keyOf (l.getD k gs0)))
def setBad (R : Rc) (p : Ph) (k : Nat) : Bool := !among R.groups (p.sets.getD k gs0).group || (among p.frozen (p.sets.getD k gs0).group || dupAt p.sets k)
def setsFl (rule : Int) (R : Rc) : List Fl := upto R.phases.length fun i => upto (R.phases.getD i ph0).sets.length fun k => flawIf (setBad R (R.phases.getD i ph0) k) rule i k
def setsG : List AV → Mem → Option (AV × Mem)
 | [.ptr r 0, .agg cs], m =>
  match unRc cs, m.var r with
  | some R, some [.v (.int .i64 rule), .lst .full 3 []] => if R.small then some (.tup [], flMem m r rule (setsFl rule R)) else none
  | _, _ => none
 | _, _ => none
theorem mem_setObjs {F : Objs} {b : Nat} {o o' : Obj} (h : (b, o) ∈ F) : (b, o') ∈ setObjs F b o' := List.mem_map.2 ⟨(b, o), h, if_pos rfl⟩
theorem zeroInt_run (w : World) : (zeroValue 3).run Tryz.prog w = .ok (.int .i64 0) w := by kernel_rfl
theorem underMap : Tryz.prog.underlying 146 = some (.map 148 3) := by simp only [Tryz.underlying146]
theorem mkPl {g : ByteArray} {p : Int} : evBuild Tryz.prog 148 [(0, .v (.string g)), (1, .v (.int .i64 p))] = some (.agg [.v (.string g), .v (.int .i64 p)]) := by kernel_rfl
theorem zrPl : zeroCells Tryz.prog 148 = some [.v (.string ⟨#[]⟩), .v (.int .i64 0)] := by kernel_rfl
theorem zoPl : ([AV.v (.string ⟨#[]⟩), .v (.int .i64 0)].all okCell) = true := rfl
theorem znPl {m : Mem} : newVar m m.vars.length [.v (.string ⟨#[]⟩), .v (.int .i64 0)] = some (m.push [.v (.string ⟨#[]⟩), .v (.int .i64 0)]) := newVar_push rfl
theorem zsPl {m : Mem} {g : ByteArray} {p : Int} : evStore Tryz.prog (m.push [.v (.string ⟨#[]⟩), .v (.int .i64 0)]) 148 (.ptr m.vars.length 0) (.agg [.v (.string g), .v (.int .i64 p)]) = some (m.push [.v (.string g), .v (.int .i64 p)]) := by
 rw [store_push (cs := [.v (.string g), .v (.int .i64 p)]) rfl (show tSize Tryz.prog 148 = some 2 by kernel_rfl) (Nat.le_refl _) rfl]
 rfl
theorem lpPl {m : Mem} {r : Nat} {cs : List AV} {g : ByteArray} {p : Int} (hv : m.var r = some [.v (.string g), .v (.int .i64 p)]) : evLoad Tryz.prog m 148 (.ptr r 0) = some (.agg [.v (.string g), .v (.int .i64 p)]) := by
 unfold evLoad
 simp only [ptrCells, hv, Option.map_some]
 rw [show tAgg Tryz.prog 148 = some true by kernel_rfl, show tSize Tryz.prog 148 = some 2 by kernel_rfl]
 rfl
attribute [local go_sem] szStr szInt Option.getD_some isNil evStr loadStr loadInt rowsS_len rowsPh_len rowsGs_len fpRcPhases fpRcGroups fpPhSets fpPhFrozen fpGsGroup fpGsParam cellsRc newRc mapRc zrPh zoPh znPh zsPh ldPh zrGs zoGs znGs zsGs ldGs mkPl zrPl zoPl znPl zsPl
def kpSets : Nat → Option (List Nat) := fun
 | 0 => some [0, 3]
 | 1 => some [0, 3, 11, 12, 13]
 | 2 => some [0, 3, 11, 12, 13, 14]
 | 3 => some [0, 3, 4, 5, 11, 12, 13]
 | 4 => some [0, 3, 4, 5, 6, 11, 12, 13]
 | 5 => some [0, 3, 4, 5, 6, 11, 12, 13, 20, 21, 22]
 | 6 => some [0, 3, 4, 5, 6, 11, 12, 13, 20, 21, 22, 23]
 | 7 => some [0, 3, 4, 5, 6, 7, 8, 11, 12, 13, 20, 21, 22]
 | 8 => some [0, 3, 4, 5, 6, 7, 8, 9, 11, 12, 13, 20, 21, 22]
 | 9 => some [0, 3, 4, 5, 6, 9, 11, 12, 13, 20, 21, 22]
 | 10 => some [0, 3, 4, 5, 6, 11, 12, 13, 20, 21, 22]
 | 11 => some [0, 3, 4, 5, 6, 11, 12, 13, 20, 21, 22]
 | 12 => some [0, 3, 11, 12, 13]
 | _ => none
attribute [go_sem] kpSets
def tab_sets : List (FuncId × (List AV → Mem → Option (AV × Mem))) := [(132, amongG), (78, noteG)]
theorem sets_ok : FunOk Tryz.prog 86 setsG := by
 have hC := table_ok (P := Tryz.prog) (l := tab_sets) (table_more among_ok (table_more note_ok table_nil))
 have t1 := fun args mm => table_at (l := tab_sets) (f := 132) (args := args) (m := mm) rfl
 have t2 := fun args mm => table_at (l := tab_sets) (f := 78) (args := args) (m := mm) rfl
 refine fun_okX Tryz.func86 rfl false rfl fun args m r h => ?_
 unfold setsG at h
 split at h
 ·rename_i r0 cs
  split at h
  ·rename_i R rule hR hv
   obtain rfl := unRc_some hR
   split at h
   ·rename_i hsm
    simp only [Option.some.injEq] at h
    subst h
    have hr0 := (var_lt hv).1
    have hP64 := hsm.2.2.1
    refine ⟨Nat.le_of_ble_eq_true rfl, fun φ w => ?_⟩
    refine en ?_
    repeat (first | refine x_seq ?_ | refine x_block ?_ | refine xn_normal ?_ | refine xi_normal ?_ | refine xn_exit ?_ | refine xi_exit ?_ | refine xi_other (by decide) ?_ | refine xn_ret ?_ | refine xi_ret ?_ | refine x_skip ?_ | refine x_exit ?_ | refine x_ret ?_)
    refine x_region (kp := kpSets) mixed hC ?_
    refine go0 ?_
    repeat (first | refine x_seq ?_ | refine x_block ?_ | refine xn_normal ?_ | refine xi_normal ?_ | refine xn_exit ?_ | refine xi_exit ?_ | refine xi_other (by decide) ?_ | refine xn_ret ?_ | refine xi_ret ?_ | refine x_skip ?_ | refine x_exit ?_ | refine x_ret ?_)
    have hv3 : (m.push R.row).var m.vars.length = some R.row := push_var
    have f1 := lpRcPhases hv3
    refine x_region (kp := kpSets) mixed hC ?_
    refine go1 @f1 ?_
    repeat (first | refine x_seq ?_ | refine x_block ?_ | refine xn_normal ?_ | refine xi_normal ?_ | refine xn_exit ?_ | refine xi_exit ?_ | refine xi_other (by decide) ?_ | refine xn_ret ?_ | refine xi_ret ?_ | refine x_skip ?_ | refine x_exit ?_ | refine x_ret ?_)
    refine x_loop (fun k e m' F => ∃ (i : Nat), i ≤ R.phases.length ∧ Above (flMem m r0 rule (upto i fun i => upto (R.phases.getD i ph0).sets.length fun k => flawIf (setBad R (R.phases.getD i ph0) k) rule i k)) m' ∧ m'.var m.vars.length = some R.row ∧ k = R.phases.length - i ∧
     e = [(0, .ptr r0 0), (3, .ptr m.vars.length 0), (11, .lst .no 5 (rowsPh R.phases)), (12, .v (.int .i64 (R.phases.length : Int))), (13, .v (.int .i64 (i : Int)))]) (k := R.phases.length) ⟨0, Nat.zero_le _, by rw [upto_zero, flMem_nil]; exact above_push (above_self m), hv3, rfl, rfl⟩ ?_
    rintro k e m' F ⟨i, hi0, hA, hv3, rfl, rfl⟩
    repeat (first | refine x_seq ?_ | refine x_block ?_ | refine xn_normal ?_ | refine xi_normal ?_ | refine xn_exit ?_ | refine xi_exit ?_ | refine xi_other (by decide) ?_ | refine xn_ret ?_ | refine xi_ret ?_ | refine x_skip ?_ | refine x_exit ?_ | refine x_ret ?_)
    refine x_region (kp := kpSets) mixed hC ?_
    refine go0 ?_
    repeat (first | refine x_seq ?_ | refine x_block ?_ | refine xn_normal ?_ | refine xi_normal ?_ | refine xn_exit ?_ | refine xi_exit ?_ | refine xi_other (by decide) ?_ | refine xn_ret ?_ | refine xi_ret ?_ | refine x_skip ?_ | refine x_exit ?_ | refine x_ret ?_)
    refine x_cond rfl (fun hc => ?_) (fun hc => ?_)
    ·have hi1 : i < R.phases.length := by have := of_decide_eq_true hc; omega
     have f2 := atPh (g := .no) (kk := .i64) hi1
     have hp := hsm.phase i
     have hN := @upto_next i (fun i => upto (R.phases.getD i ph0).sets.length fun k => flawIf (setBad R (R.phases.getD i ph0) k) rule i k)
     have hB := @upto_len (fun i => upto (R.phases.getD i ph0).sets.length fun k => flawIf (setBad R (R.phases.getD i ph0) k) rule i k) 64 i (fun j _ => by
      have := @upto_len (fun k => flawIf (setBad R (R.phases.getD j ph0) k) rule j k) 1 (R.phases.getD j ph0).sets.length fun k _ => flawIf_len ..
      have := (hsm.phase j).2.1
      omega)
     generalize hfl : (upto i fun i => upto (R.phases.getD i ph0).sets.length fun k => flawIf (setBad R (R.phases.getD i ph0) k) rule i k) = fl at hA hN hB
     generalize R.phases.getD i ph0 = p at f2 hp hN
     repeat (first | refine x_seq ?_ | refine x_block ?_ | refine xn_normal ?_ | refine xi_normal ?_ | refine xn_exit ?_ | refine xi_exit ?_ | refine xi_other (by decide) ?_ | refine xn_ret ?_ | refine xi_ret ?_ | refine x_skip ?_ | refine x_exit ?_ | refine x_ret ?_)
     refine x_region (kp := kpSets) mixed hC ?_
     refine go1 @f2 ?_
     repeat (first | refine x_seq ?_ | refine x_block ?_ | refine xn_normal ?_ | refine xi_normal ?_ | refine xn_exit ?_ | refine xi_exit ?_ | refine xi_other (by decide) ?_ | refine xn_ret ?_ | refine xi_ret ?_ | refine x_skip ?_ | refine x_exit ?_ | refine x_ret ?_)
     refine x_ops (l2 := kpSets 4) ?_
     refine xops_step (xs_makeMap (enc := encPl) rfl rfl (by decide) rfl fun b hb => ?_)
     refine gox0 hC ?_
     repeat (first | refine x_seq ?_ | refine x_block ?_ | refine xn_normal ?_ | refine xi_normal ?_ | refine xn_exit ?_ | refine xi_exit ?_ | refine xi_other (by decide) ?_ | refine xn_ret ?_ | refine xi_ret ?_ | refine x_skip ?_ | refine x_exit ?_ | refine x_ret ?_)
     have hq5 : m'.vars.length ≠ r0 := by have := above_len hA; rw [flMem_len] at this; omega
     have hq3 : m.vars.length ≠ r0 := by omega
     have hA1 := above_push (cs := p.row) hA
     have hv5 : (m'.push p.row).var m'.vars.length = some p.row := push_var
     have hv3' : (m'.push p.row).var m.vars.length = some R.row := push_old hv3
     generalize m'.vars.length = n5 at hq5 hv5
     generalize m'.push p.row = m5 at hA1 hv5 hv3'
     have f3 := lpPhSets hv5
     refine x_region (kp := kpSets) mixed hC ?_
     refine go1 @f3 ?_
     repeat (first | refine x_seq ?_ | refine x_block ?_ | refine xn_normal ?_ | refine xi_normal ?_ | refine xn_exit ?_ | refine xi_exit ?_ | refine xi_other (by decide) ?_ | refine xn_ret ?_ | refine xi_ret ?_ | refine x_skip ?_ | refine x_exit ?_ | refine x_ret ?_)
     refine x_loop (fun k e m' F => ∃ (j : Nat) (ml : List ((ByteArray × Int) × Value)), j ≤ p.sets.length ∧ (∀ q, valAt (.int .i64 0) q ml = .int .i64 ((cnt (p.sets.take j) q : Nat) : Int)) ∧ (b, mapOb encPl ml) ∈ F ∧ Above (flMem m r0 rule (fl ++ upto j fun k => flawIf (setBad R p k) rule i k)) m' ∧ m'.var m.vars.length = some R.row ∧ m'.var n5 = some p.row ∧ k = p.sets.length - j ∧
      e = [(0, .ptr r0 0), (3, .ptr m.vars.length 0), (4, .v (.int .i64 (i : Int))), (5, .ptr n5 0), (6, .v (.map (some b))), (11, .lst .no 5 (rowsPh R.phases)), (12, .v (.int .i64 (R.phases.length : Int))), (13, .v (.int .i64 (i : Int))), (20, .lst .no 3 (rowsGs p.sets)), (21, .v (.int .i64 (p.sets.length : Int))), (22, .v (.int .i64 (j : Int)))])
      (k := p.sets.length) ⟨0, [], Nat.zero_le _, fun q => rfl, List.mem_cons_self .., by rw [upto_zero, List.append_nil]; exact hA1, hv3', hv5, rfl, rfl⟩ ?_
     rintro k e m'' F2 ⟨j, ml, hj0, hml, hbF, hA2, hw3, hw5, rfl, rfl⟩
     repeat (first | refine x_seq ?_ | refine x_block ?_ | refine xn_normal ?_ | refine xi_normal ?_ | refine xn_exit ?_ | refine xi_exit ?_ | refine xi_other (by decide) ?_ | refine xn_ret ?_ | refine xi_ret ?_ | refine x_skip ?_ | refine x_exit ?_ | refine x_ret ?_)
     refine x_region (kp := kpSets) mixed hC ?_
     refine go0 ?_
     repeat (first | refine x_seq ?_ | refine x_block ?_ | refine xn_normal ?_ | refine xi_normal ?_ | refine xn_exit ?_ | refine xi_exit ?_ | refine xi_other (by decide) ?_ | refine xn_ret ?_ | refine xi_ret ?_ | refine x_skip ?_ | refine x_exit ?_ | refine x_ret ?_)
     refine x_cond rfl (fun hc => ?_) (fun hc => ?_)
     ·have hj1 : j < p.sets.length := by have := of_decide_eq_true hc; omega
      have f4 := atGs (g := .no) (kk := .i64) hj1
      have hcn := fun q => cnt_next hj1 q
      have hcl : cnt (p.sets.take j) (keyOf (p.sets.getD j gs0)) ≤ 64 := by have := cnt_le (p.sets.take j) (keyOf (p.sets.getD j gs0)); rw [List.length_take] at this; omega
      have hN2 := @upto_next j (fun k => flawIf (setBad R p k) rule i k)
      have hB2 := @upto_len (fun k => flawIf (setBad R p k) rule i k) 1 j fun k _ => flawIf_len ..
      have hbad : setBad R p j = (!among R.groups (p.sets.getD j gs0).group || (among p.frozen (p.sets.getD j gs0).group || decide (0 < cnt (p.sets.take j) (keyOf (p.sets.getD j gs0))))) := rfl
      generalize (upto j fun k => flawIf (setBad R p k) rule i k) = fl2 at hA2 hN2 hB2
      generalize p.sets.getD j gs0 = s at f4 hcn hcl hbad
      have hkey : (s.group, s.param) = keyOf s := rfl
      generalize hc0 : cnt (p.sets.take j) (keyOf s) = c at hcl hbad
      repeat (first | refine x_seq ?_ | refine x_block ?_ | refine xn_normal ?_ | refine xi_normal ?_ | refine xn_exit ?_ | refine xi_exit ?_ | refine xi_other (by decide) ?_ | refine xn_ret ?_ | refine xi_ret ?_ | refine x_skip ?_ | refine x_exit ?_ | refine x_ret ?_)
      refine x_region (kp := kpSets) mixed hC ?_
      refine go1 @f4 ?_
      repeat (first | refine x_seq ?_ | refine x_block ?_ | refine xn_normal ?_ | refine xi_normal ?_ | refine xn_exit ?_ | refine xi_exit ?_ | refine xi_other (by decide) ?_ | refine xn_ret ?_ | refine xi_ret ?_ | refine x_skip ?_ | refine x_exit ?_ | refine x_ret ?_)
      have hB1 := above_push (cs := s.row) hA2
      have hu8 : (m''.push s.row).var m''.vars.length = some s.row := push_var
      have hu3 : (m''.push s.row).var m.vars.length = some R.row := push_old hw3
      have hu5 : (m''.push s.row).var n5 = some p.row := push_old hw5
      generalize m''.vars.length = n8 at hu8
      generalize m''.push s.row = m8 at hB1 hu8 hu3 hu5
      have f5 := lpGsGroup hu8
      have f6 := lpGsParam hu8
      simp only [iv] at f6
      refine x_region (kp := kpSets) mixed hC ?_
      refine go1 (jn @f5 @f6) ?_
      repeat (first | refine x_seq ?_ | refine x_block ?_ | refine xn_normal ?_ | refine xi_normal ?_ | refine xn_exit ?_ | refine xi_exit ?_ | refine xi_other (by decide) ?_ | refine xn_ret ?_ | refine xi_ret ?_ | refine x_skip ?_ | refine x_exit ?_ | refine x_ret ?_)
      have hB9 := above_push (cs := [.v (.string s.group), .v (.int .i64 s.param)]) hB1
      have hz9 : (m8.push [.v (.string s.group), .v (.int .i64 s.param)]).var m8.vars.length = some [.v (.string s.group), .v (.int .i64 s.param)] := push_var
      have hz3 : (m8.push [.v (.string s.group), .v (.int .i64 s.param)]).var m.vars.length = some R.row := push_old hu3
      have hz5 : (m8.push [.v (.string s.group), .v (.int .i64 s.param)]).var n5 = some p.row := push_old hu5
      have hz8 : (m8.push [.v (.string s.group), .v (.int .i64 s.param)]).var n8 = some s.row := push_old hu8
      have hq9 : m8.vars.length ≠ r0 := by have := above_len hB1; rw [flMem_len] at this; omega
      generalize m8.vars.length = n9 at hz9 hq9
      generalize m8.push [.v (.string s.group), .v (.int .i64 s.param)] = m9 at hB9 hz9 hz3 hz5 hz8
      refine x_ncut (fun e m10 F => (b, mapOb encPl ml) ∈ F ∧ Above (flMem m r0 rule (fl ++ upto (j + 1) fun k => flawIf (setBad R p k) rule i k)) m10 ∧ m10.var m.vars.length = some R.row ∧ m10.var n5 = some p.row ∧ m10.var n9 = some [.v (.string s.group), .v (.int .i64 s.param)] ∧
       e = [(0, .ptr r0 0), (3, .ptr m.vars.length 0), (4, .v (.int .i64 (i : Int))), (5, .ptr n5 0), (6, .v (.map (some b))), (9, .ptr n9 0), (11, .lst .no 5 (rowsPh R.phases)), (12, .v (.int .i64 (R.phases.length : Int))), (13, .v (.int .i64 (i : Int))), (20, .lst .no 3 (rowsGs p.sets)), (21, .v (.int .i64 (p.sets.length : Int))), (22, .v (.int .i64 (j : Int)))]) ?_ ?_
      ·have g1 := lpRcGroups hz3
       have g2 := lpGsGroup hz8
       have g3 := lpPhFrozen hz5
       have g4 := lpPl (cs := []) hz9
       have a1 := fun mm => amongG_eq (m := mm) (g := .no) (l := R.groups) (s := s.group) (by have := hsm.2.1; omega)
       have a2 := fun mm => amongG_eq (m := mm) (g := .no) (l := p.frozen) (s := s.group) (by have := hp.1; omega)
       obtain ⟨m10, hn10, hA10, ho10⟩ := note_step hv hB9 (by rw [List.length_append]; omega) (setBad R p j) (i : Int) (j : Int)
       rw [flawIf_app, List.append_assoc, ← hN2] at hA10
       have hl : valAt (.int .i64 0) (s.group, s.param) ml = .int .i64 ((c : Nat) : Int) := by rw [hml, hkey, hc0]
       have hcb : decide (((c : Nat) : Int) > 0) = decide (0 < c) := by rw [Bool.eq_iff_iff, decide_eq_true_eq, decide_eq_true_eq]; omega
       have done : ∀ (x : AV), (b, mapOb encPl ml) ∈ F2 ∧ Above (flMem m r0 rule (fl ++ upto (j + 1) fun k => flawIf (setBad R p k) rule i k)) m10 ∧ m10.var m.vars.length = some R.row ∧ m10.var n5 = some p.row ∧ m10.var n9 = some [.v (.string s.group), .v (.int .i64 s.param)] ∧ x = x :=
        fun x => ⟨hbF, hA10, ho10 _ _ hq3 hz3, ho10 _ _ hq5 hz5, ho10 _ _ hq9 hz9, rfl⟩
       refine x_ops (l2 := kpSets 9) ?_
       rw [hbad] at hn10
       cases hG : among R.groups s.group with
       | false =>
        rw [hG] at a1 hn10
        have b1 : (!false) = true := rfl
        rw [b1, Bool.true_or] at hn10
        refine gox1 hC (jn @g1 (jn @g2 (jn @g3 (jn @g4 (jn @t1 (jn @a1 (jn @b1 (jn @t2 @hn10)))))))) ?_
        exact ⟨hbF, hA10, ho10 _ _ hq3 hz3, ho10 _ _ hq5 hz5, ho10 _ _ hq9 hz9, rfl⟩
       | true =>
        rw [hG] at a1 hn10
        have b1 : (!true) = false := rfl
        rw [b1, Bool.false_or] at hn10
        cases hf : among p.frozen s.group with
        | true =>
         rw [hf] at a2 hn10
         rw [Bool.true_or] at hn10
         refine gox1 hC (jn @g1 (jn @g2 (jn @g3 (jn @g4 (jn @t1 (jn @a1 (jn @a2 (jn @b1 (jn @t2 @hn10))))))))) ?_
         exact ⟨hbF, hA10, ho10 _ _ hq3 hz3, ho10 _ _ hq5 hz5, ho10 _ _ hq9 hz9, rfl⟩
        | false =>
         rw [hf] at a2 hn10
         rw [Bool.false_or] at hn10
         refine gox1 hC (jn @g1 (jn @g2 (jn @g3 (jn @g4 (jn @t1 (jn @a1 (jn @a2 @b1))))))) ?_
         refine xops_step (xs_lookup (t := 0) placeKey underMap zeroInt_run hbF (s.group, s.param) rfl rfl rfl rfl rfl ?_)
         refine gox1 hC (jn @hl (jn @hcb (jn @t2 @hn10))) ?_
         exact ⟨hbF, hA10, ho10 _ _ hq3 hz3, ho10 _ _ hq5 hz5, ho10 _ _ hq9 hz9, rfl⟩
      ·rintro e m10 F3 ⟨hb3, hA10, hu3, hu5, hu9, rfl⟩
       have g4 := lpPl (cs := []) hu9
       have hl : valAt (.int .i64 0) (s.group, s.param) ml = .int .i64 ((c : Nat) : Int) := by rw [hml, hkey, hc0]
       have hl2 : valAt (.int .i64 0) (s.group, s.param) (mapWith (.int .i64 0) (s.group, s.param) ml) = .int .i64 ((c : Nat) : Int) := by rw [valAt_eq, vAt_with, ← valAt_eq, hl]
       have r1 : IntKind.i64.wrap (((c : Nat) : Int) + 1) = ((c + 1 : Nat) : Int) := next_i64 (by omega)
       repeat (first | refine x_seq ?_ | refine x_block ?_ | refine xn_normal ?_ | refine xi_normal ?_ | refine xn_exit ?_ | refine xi_exit ?_ | refine xi_other (by decide) ?_ | refine xn_ret ?_ | refine xi_ret ?_ | refine x_skip ?_ | refine x_exit ?_ | refine x_ret ?_)
       refine x_icut (fun e m11 F => (b, mapOb encPl (putK (s.group, s.param) (.int .i64 ((c + 1 : Nat) : Int)) ml)) ∈ F ∧ m11 = m10 ∧
        e = [(0, .ptr r0 0), (3, .ptr m.vars.length 0), (4, .v (.int .i64 (i : Int))), (5, .ptr n5 0), (6, .v (.map (some b))), (11, .lst .no 5 (rowsPh R.phases)), (12, .v (.int .i64 (R.phases.length : Int))), (13, .v (.int .i64 (i : Int))), (20, .lst .no 3 (rowsGs p.sets)), (21, .v (.int .i64 (p.sets.length : Int))), (22, .v (.int .i64 (j : Int)))]) ?_ ?_
       ·refine x_any (n := 7) (l2 := kpSets 10) mixed rfl ?_
        have hin : ∀ {F : Objs}, (b, mapOb encPl ml) ∈ F → (b, mapOb encPl (putK (s.group, s.param) (.int .i64 ((c + 1 : Nat) : Int)) ml)) ∈ setObjs (setObjs F b (mapOb encPl (mapWith (.int .i64 0) (s.group, s.param) ml))) b (mapOb encPl (setV (mapWith (.int .i64 0) (s.group, s.param) ml) (stampOf (s.group, s.param) ml) (.int .i64 ((c + 1 : Nat) : Int)))) := fun h => by
         rw [← putK_eq (.int .i64 0)]
         exact mem_setObjs (mem_setObjs h)
        repeat' (first | refine xany_one (i := 0) (by decide +kernel) rfl rfl ?_ | refine xany_one (i := 1) (by decide +kernel) rfl rfl ?_ | refine xany_one (i := 2) (by decide +kernel) rfl rfl ?_ | refine xany_one (i := 3) (by decide +kernel) rfl rfl ?_ | refine xany_one (i := 4) (by decide +kernel) rfl rfl ?_ | refine xany_one (i := 5) (by decide +kernel) rfl rfl ?_ | refine xany_one (i := 6) (by decide +kernel) rfl rfl ?_ | refine xany_two (i := 0) (j := 1) (by decide +kernel) rfl rfl rfl rfl ?_ ?_ | refine xany_two (i := 2) (j := 4) (by decide +kernel) rfl rfl rfl rfl ?_ ?_ | refine xany_two (i := 2) (j := 5) (by decide +kernel) rfl rfl rfl rfl ?_ ?_ | refine xany_two (i := 3) (j := 4) (by decide +kernel) rfl rfl rfl rfl ?_ ?_ | refine xany_two (i := 3) (j := 5) (by decide +kernel) rfl rfl rfl rfl ?_ ?_ | refine xs_op hC rfl (by simp only [go_sem, reduceIte, Nat.reduceEqDiff, reduceCtorEq, Int.reduceEq, g4, hl, hl2, r1]; rfl) rfl ?_ | refine xs_lookup (t := 0) placeKey underMap zeroInt_run hb3 (s.group, s.param) rfl rfl rfl rfl rfl ?_ | refine xs_lookup (t := 0) placeKey underMap zeroInt_run (mem_setObjs hb3) (s.group, s.param) rfl rfl rfl rfl rfl ?_ | refine xs_entry (t := 0) placeKey underMap zeroInt_run hb3 (s.group, s.param) rfl rfl rfl rfl rfl (by decide) ?_ | refine xs_entryStore (t := 0) (t2 := 0) (v := .int .i64 ((c + 1 : Nat) : Int)) (mem_setObjs hb3) (stamp_lt (.int .i64 0) (s.group, s.param) ml) rfl rfl rfl rfl rfl rfl ?_ | refine xany_done (by decide +kernel) ?_)
        all_goals (intro e2 h2; simp only [restr, kpSets, List.map_cons, List.map_nil, Ev.get, reduceIte, Nat.reduceEqDiff] at h2; subst h2; exact ⟨hin hb3, rfl, rfl⟩)
       ·rintro e m11 F4 ⟨hb4, rfl, rfl⟩
        have r6 := next_i64 (i := j) (by omega)
        repeat (first | refine x_seq ?_ | refine x_block ?_ | refine xn_normal ?_ | refine xi_normal ?_ | refine xn_exit ?_ | refine xi_exit ?_ | refine xi_other (by decide) ?_ | refine xn_ret ?_ | refine xi_ret ?_ | refine x_skip ?_ | refine x_exit ?_ | refine x_ret ?_)
        refine x_region (kp := kpSets) mixed hC ?_
        refine go1 @r6 ?_
        refine xn_normal ⟨p.sets.length - (j + 1), by omega, j + 1, _, hj1, fun q => ?_, hb4, hA10, hu3, hu5, rfl, rfl⟩
        rw [valAt_eq, vAt_put, hcn q, hkey]
        by_cases hq : q = keyOf s
        ·rw [if_pos hq, if_pos hq, hq, hc0]
         rfl
        ·rw [if_neg hq, if_neg hq, ← valAt_eq, hml]
         rfl
     ·have hj1 : j = p.sets.length := by have := of_decide_eq_false hc; omega
      subst hj1
      have r6 := next_i64 (i := i) (by omega)
      repeat (first | refine x_seq ?_ | refine x_block ?_ | refine xn_normal ?_ | refine xi_normal ?_ | refine xn_exit ?_ | refine xi_exit ?_ | refine xi_other (by decide) ?_ | refine xn_ret ?_ | refine xi_ret ?_ | refine x_skip ?_ | refine x_exit ?_ | refine x_ret ?_)
      refine x_region (kp := kpSets) mixed hC ?_
      refine go1 @r6 ?_
      refine xn_normal ⟨R.phases.length - (i + 1), by omega, i + 1, hi1, ?_, hw3, rfl, rfl⟩
      rw [hN]
      exact hA2
    ·have hi1 : i = R.phases.length := by have := of_decide_eq_false hc; omega
     subst hi1
     repeat (first | refine x_seq ?_ | refine x_block ?_ | refine xn_normal ?_ | refine xi_normal ?_ | refine xn_exit ?_ | refine xi_exit ?_ | refine xi_other (by decide) ?_ | refine xn_ret ?_ | refine xi_ret ?_ | refine x_skip ?_ | refine x_exit ?_ | refine x_ret ?_)
     exact leaves_none rfl (fin_flMem hv hA)
   ·cases h
  ·cases h
 ·cases h
end
section
attribute [local irreducible] Next Inside Runs Ops table XRuns XOps XNext XInside
attribute [local go_sem] szStr szInt Option.getD_some isNil loadStr loadInt mkInts0 mkInts1 mkStrs0 mkStrs1 rowsS_len rowsI_len evStr
/-! ### letters -/
def letterB (c : Int) (first : Bool) : Bool := (decide (97 ≤ c) && decide (c ≤ 122)) || (!first && ((decide (48 ≤ c) && decide (c ≤ 57)) || decide (c = 95)))
def letterG : List AV → Mem → Option (AV × Mem)
 | [.v (.int .i32 c), .v (.bool f)], m => some (.v (.bool (letterB c f)), m)
 | _, _ => none
def kpLetter : Nat → Option (List Nat) := fun _ => some [0, 1, 4, 5, 12]
attribute [go_sem] kpLetter
theorem letter_ok : FunOk Tryz.prog 154 letterG := by
 have hC := table_ok (P := Tryz.prog) (l := []) table_nil
 refine fun_ok mixed hC Tryz.func154 rfl kpLetter false rfl fun args m r h => ?_
 unfold letterG at h
 split at h
 ·rename_i c f
  simp only [Option.some.injEq] at h
  subst h
  refine ⟨Nat.le_of_ble_eq_true rfl, ?_⟩
  refine en ?_
  by_cases h1 : 97 ≤ c
  ·have d1 : decide (c ≥ 97) = true := decide_eq_true h1
   by_cases h2 : c ≤ 122
   ·have d2 : decide (c ≤ 122) = true := decide_eq_true h2
    refine go1 (jn @d1 @d2) ?_
    refine runs_cond rfl (fun hc => ?_) (fun hc => by cases hc)
    refine go0 ?_
    exact leaves_v rfl (by simp [letterB, h1, h2]; rfl)
   ·have d2 : decide (c ≤ 122) = false := decide_eq_false h2
    refine go1 (jn @d1 @d2) ?_
    refine runs_cond rfl (fun hc => by cases hc) (fun hc => ?_)
    refine go0 ?_
    refine runs_cond rfl (fun hc => ?_) (fun hc => ?_)
    ·refine go0 ?_
     exact leaves_v rfl (by simp [letterB, h2, hc]; rfl)
    ·have d3 : decide (c ≥ 48) = true := decide_eq_true (by omega)
     have d4 : decide (c ≤ 57) = false := decide_eq_false (by omega)
     have d5 : (c == 95) = false := beq_eq_false_iff_ne.2 (by omega)
     refine go1 (jn @d3 (jn @d4 @d5)) ?_
     exact leaves_v rfl (by simp [letterB, h2, hc, show ¬ c ≤ 57 by omega, show ¬ c = 95 by omega]; rfl)
  ·have d1 : decide (c ≥ 97) = false := decide_eq_false h1
   refine go1 @d1 ?_
   refine runs_cond rfl (fun hc => by cases hc) (fun hc => ?_)
   refine go0 ?_
   refine runs_cond rfl (fun hc => ?_) (fun hc => ?_)
   ·refine go0 ?_
    exact leaves_v rfl (by simp [letterB, h1, hc]; rfl)
   ·by_cases h3 : 48 ≤ c
    ·have d3 : decide (c ≥ 48) = true := decide_eq_true h3
     by_cases h4 : c ≤ 57
     ·have d4 : decide (c ≤ 57) = true := decide_eq_true h4
      refine go1 (jn @d3 @d4) ?_
      exact leaves_v rfl (by simp [letterB, h1, hc, h3, h4]; rfl)
     ·have d4 : decide (c ≤ 57) = false := decide_eq_false h4
      refine go1 (jn @d3 @d4) ?_
      exact leaves_v rfl (by simp [letterB, h1, hc, h4]; rfl)
    ·have d3 : decide (c ≥ 48) = false := decide_eq_false h3
     refine go1 @d3 ?_
     exact leaves_v rfl (by simp [letterB, h1, hc, h3]; rfl)
 ·cases h
end
section
attribute [local irreducible] Next Inside Runs Ops table XRuns XOps XNext XInside
attribute [local go_sem] szStr szInt Option.getD_some isNil loadStr loadInt mkInts0 mkInts1 mkStrs0 mkStrs1 rowsS_len rowsI_len evStr
def lettersTo (s : ByteArray) : Nat → Bool
 | 0 => true
 | n + 1 => lettersTo s n && letterB ((s.get! n).toNat : Nat) (n == 0)
theorem letters_no {s : ByteArray} {i : Nat} (h : letterB ((s.get! i).toNat : Nat) (i == 0) = false) : ∀ {n : Nat}, i < n → lettersTo s n = false
 | 0, hn => by omega
 | n + 1, hn => by
  unfold lettersTo
  rcases Nat.lt_succ_iff_lt_or_eq.1 hn with hn | rfl
  ·rw [letters_no h hn]; rfl
  ·rw [h, Bool.and_false]
def isName (s : ByteArray) : Bool := lettersTo s s.size && (decide (1 ≤ s.size) && decide (s.size ≤ 16) && !keyword s)
theorem name_no {s : ByteArray} {i : Nat} (hi : i < s.size) (h : letterB ((s.get! i).toNat : Nat) (i == 0) = false) : isName s = false := by
 unfold isName
 rw [letters_no h hi]
 rfl
theorem letter_high {c : Nat} (h : 128 ≤ c) (f : Bool) : letterB (c : Int) f = false := by
 unfold letterB
 rw [decide_eq_false (by omega : ¬ (c : Int) ≤ 122), decide_eq_false (by omega : ¬ (c : Int) ≤ 57), decide_eq_false (by omega : ¬ (c : Int) = 95)]
 simp
theorem get_bang {s : ByteArray} {i : Nat} (h : i < s.size) : s.get! i = s[i]'h := by
 show s.get! i = _
 simp [ByteArray.get!, getElem!_pos, h]
 rfl
theorem size_zero {s : ByteArray} : (s != ⟨#[]⟩) = decide (1 ≤ s.size) := by
 by_cases h : s = ⟨#[]⟩
 ·subst h; rfl
 ·rw [bytes_ne.2 h]
  refine (decide_eq_true ?_).symm
  rcases Nat.eq_zero_or_pos s.size with h0 | h0
  ·exfalso
   apply h
   obtain ⟨a⟩ := s
   have : a.size = 0 := h0
   rw [Array.eq_empty_of_size_eq_zero this]
  ·exact h0
def isNameG : List AV → Mem → Option (AV × Mem)
 | [.v (.string s)], m => if s.size ≤ 9223372036854775807 then some (.v (.bool (isName s)), m) else none
 | _, _ => none
theorem isNameG_eq {s : ByteArray} {m : Mem} (h : s.size ≤ 9223372036854775807) : isNameG [.v (.string s)] m = some (.v (.bool (isName s)), m) := if_pos h
def kpIs : Nat → Option (List Nat) := fun _ => some [0, 2, 3, 4, 6, 7, 8, 15]
attribute [go_sem] kpIs
def tabIs : List (FuncId × (List AV → Mem → Option (AV × Mem))) := [(154, letterG), (155, keywordG)]
theorem is_ok : FunOk Tryz.prog 122 isNameG := by
 have hC := table_ok (P := Tryz.prog) (l := tabIs) (table_more letter_ok (table_more keyword_ok table_nil))
 have t1 := fun args mm => table_at (l := tabIs) (f := 154) (args := args) (m := mm) rfl
 have t2 := fun args mm => table_at (l := tabIs) (f := 155) (args := args) (m := mm) rfl
 refine fun_okX Tryz.func122 rfl false rfl fun args m r h => ?_
 unfold isNameG at h
 split at h
 ·rename_i s
  split at h
  ·rename_i hlen
   simp only [Option.some.injEq] at h
   subst h
   refine ⟨Nat.le_of_ble_eq_true rfl, fun φ w => ?_⟩
   refine en ?_
   repeat (first | refine x_seq ?_ | refine x_block ?_ | refine xn_normal ?_ | refine xi_normal ?_ | refine xn_exit ?_ | refine xi_exit ?_ | refine xi_other (by decide) ?_ | refine xn_ret ?_ | refine xi_ret ?_ | refine x_skip ?_ | refine x_exit ?_ | refine x_ret ?_)
   refine x_region (kp := kpIs) mixed hC ?_
   refine go0 ?_
   repeat (first | refine x_seq ?_ | refine x_block ?_ | refine xn_normal ?_ | refine xi_normal ?_ | refine xn_exit ?_ | refine xi_exit ?_ | refine xi_other (by decide) ?_ | refine xn_ret ?_ | refine xi_ret ?_ | refine x_skip ?_ | refine x_exit ?_ | refine x_ret ?_)
   refine x_ops (l2 := some [0, 2, 3, 4, 6, 7, 8, 15]) ?_
   refine xo_op hC rfl rfl (by decide) (by simp only [go_sem, reduceIte, Nat.reduceEqDiff, reduceCtorEq, Int.reduceEq]; rfl) ?_
   refine xo_range rfl rfl (by decide) rfl strS rfl fun b => ?_
   refine xo_nil ?_
   intro e2 h2
   simp only [restr, List.map_cons, List.map_nil, Ev.get, reduceIte, Nat.reduceEqDiff] at h2
   subst h2
   repeat (first | refine x_seq ?_ | refine x_block ?_ | refine xn_normal ?_ | refine xi_normal ?_ | refine xn_exit ?_ | refine xi_exit ?_ | refine xi_other (by decide) ?_ | refine xn_ret ?_ | refine xi_ret ?_ | refine x_skip ?_ | refine x_exit ?_ | refine x_ret ?_)
   refine x_loop (fun k e m' F => ∃ (pos : Nat) (x3 x4 x7 x8 x15 : AV), pos ≤ s.size ∧ lettersTo s pos = true ∧ m = m' ∧ F = [(b, .stringIter s pos)] ∧ k = s.size - pos ∧
    e = [(0, AV.v (.string s)), (2, .v (.bool false)), (3, x3), (4, x4), (6, .v (.pointer (some ⟨b, 0, none⟩))), (7, x7), (8, x8), (15, x15)]) (k := s.size) ⟨0, _, _, _, _, _, Nat.zero_le _, rfl, rfl, rfl, rfl, rfl⟩ ?_
   rintro k e m' F ⟨pos, x3, x4, x7, x8, x15, hpos, hok, rfl, rfl, rfl, rfl⟩
   repeat (first | refine x_seq ?_ | refine x_block ?_ | refine xn_normal ?_ | refine xi_normal ?_ | refine xn_exit ?_ | refine xi_exit ?_ | refine xi_other (by decide) ?_ | refine xn_ret ?_ | refine xi_ret ?_ | refine x_skip ?_ | refine x_exit ?_ | refine x_ret ?_)
   refine x_ops (l2 := some [0, 2, 3, 4, 6, 7, 8, 15]) ?_
   refine xo_next rfl rfl (by decide) rfl rfl (List.mem_singleton.2 rfl) (fun hp => ?_) (fun hp => ?_)
   ·refine xo_op hC rfl rfl (by decide) (by simp only [go_sem, reduceIte, Nat.reduceEqDiff, reduceCtorEq, Int.reduceEq]; rfl) ?_
    refine xo_nil ?_
    intro e2 h2
    simp only [restr, List.map_cons, List.map_nil, Ev.get, reduceIte, Nat.reduceEqDiff] at h2
    subst h2
    repeat (first | refine x_seq ?_ | refine x_block ?_ | refine xn_normal ?_ | refine xi_normal ?_ | refine xn_exit ?_ | refine xi_exit ?_ | refine xi_other (by decide) ?_ | refine xn_ret ?_ | refine xi_ret ?_ | refine x_skip ?_ | refine x_exit ?_ | refine x_ret ?_)
    refine x_cond rfl (fun hc => ?_) (fun hc => by cases hc)
    repeat (first | refine x_seq ?_ | refine x_block ?_ | refine xn_normal ?_ | refine xi_normal ?_ | refine xn_exit ?_ | refine xi_exit ?_ | refine xi_other (by decide) ?_ | refine xn_ret ?_ | refine xi_ret ?_ | refine x_skip ?_ | refine x_exit ?_ | refine x_ret ?_)
    refine x_region (kp := kpIs) mixed hC ?_
    refine go0 ?_
    repeat (first | refine x_seq ?_ | refine x_block ?_ | refine xn_normal ?_ | refine xi_normal ?_ | refine xn_exit ?_ | refine xi_exit ?_ | refine xi_other (by decide) ?_ | refine xn_ret ?_ | refine xi_ret ?_ | refine x_skip ?_ | refine x_exit ?_ | refine x_ret ?_)
    have hgb := get_bang hp
    have fl : ∀ c f mm, letterG [.v (.int .i32 c), .v (.bool f)] mm = some (.v (.bool (letterB c f)), mm) := fun _ _ _ => rfl
    refine x_region (kp := kpIs) mixed hC ?_
    have hz : ((pos : Int) == 0) = (pos == 0) := by
     cases pos <;> rfl
    refine go1 (jn @t1 @fl) ?_
    repeat (first | refine x_seq ?_ | refine x_block ?_ | refine xn_normal ?_ | refine xi_normal ?_ | refine xn_exit ?_ | refine xi_exit ?_ | refine xi_other (by decide) ?_ | refine xn_ret ?_ | refine xi_ret ?_ | refine x_skip ?_ | refine x_exit ?_ | refine x_ret ?_)
    refine x_cond rfl (fun hc => ?_) (fun hc => ?_)
    ·have hbad : letterB ((s.get! pos).toNat : Nat) (pos == 0) = false := by
      rcases Nat.lt_or_ge (s.get! pos).toNat 128 with ha | ha
      ·rw [hgb] at ha ⊢
       rw [decode_ascii s pos hp ha, hz] at hc
       simpa using hc
      ·exact letter_high ha _
     rw [name_no hp hbad]
     repeat (first | refine x_seq ?_ | refine x_block ?_ | refine xn_normal ?_ | refine xi_normal ?_ | refine xn_exit ?_ | refine xi_exit ?_ | refine xi_other (by decide) ?_ | refine xn_ret ?_ | refine xi_ret ?_ | refine x_skip ?_ | refine x_exit ?_ | refine x_ret ?_)
     refine x_region (kp := kpIs) mixed hC ?_
     refine go0 ?_
     repeat (first | refine x_seq ?_ | refine x_block ?_ | refine xn_normal ?_ | refine xi_normal ?_ | refine xn_exit ?_ | refine xi_exit ?_ | refine xi_other (by decide) ?_ | refine xn_ret ?_ | refine xi_ret ?_ | refine x_skip ?_ | refine x_exit ?_ | refine x_ret ?_)
     exact x_leaves (leaves_v rfl rfl)
    ·have ha : (s.get! pos).toNat < 128 := by
      rcases Nat.lt_or_ge (s.get! pos).toNat 128 with ha | ha
      ·exact ha
      ·rw [hgb] at ha
       have := letter_high (decode_high s pos hp ha).1 ((pos : Int) == 0)
       rw [this] at hc
       cases hc
     have hgood : letterB ((s.get! pos).toNat : Nat) (pos == 0) = true := by
      rw [hgb] at ha ⊢
      rw [decode_ascii s pos hp ha, hz] at hc
      simpa using hc
     rw [hgb] at ha
     repeat (first | refine x_seq ?_ | refine x_block ?_ | refine xn_normal ?_ | refine xi_normal ?_ | refine xn_exit ?_ | refine xi_exit ?_ | refine xi_other (by decide) ?_ | refine xn_ret ?_ | refine xi_ret ?_ | refine x_skip ?_ | refine x_exit ?_ | refine x_ret ?_)
     rw [decode_ascii s pos hp ha]
     exact ⟨s.size - (pos + 1), by omega, pos + 1, _, _, _, _, _, hp, by rw [lettersTo, hok, hgood]; rfl, rfl, by simp [setObjs], rfl, rfl⟩
   ·refine xo_op hC rfl rfl (by decide) (by simp only [go_sem, reduceIte, Nat.reduceEqDiff, reduceCtorEq, Int.reduceEq]; rfl) ?_
    refine xo_nil ?_
    intro e2 h2
    simp only [restr, List.map_cons, List.map_nil, Ev.get, reduceIte, Nat.reduceEqDiff] at h2
    subst h2
    have hend : pos = s.size := by omega
    subst hend
    repeat (first | refine x_seq ?_ | refine x_block ?_ | refine xn_normal ?_ | refine xi_normal ?_ | refine xn_exit ?_ | refine xi_exit ?_ | refine xi_other (by decide) ?_ | refine xn_ret ?_ | refine xi_ret ?_ | refine x_skip ?_ | refine x_exit ?_ | refine x_ret ?_)
    refine x_cond rfl (fun hc => by cases hc) (fun hc => ?_)
    repeat (first | refine x_seq ?_ | refine x_block ?_ | refine xn_normal ?_ | refine xi_normal ?_ | refine xn_exit ?_ | refine xi_exit ?_ | refine xi_other (by decide) ?_ | refine xn_ret ?_ | refine xi_ret ?_ | refine x_skip ?_ | refine x_exit ?_ | refine x_ret ?_)
    refine x_region (kp := kpIs) mixed hC ?_
    have hz := size_zero (s := s)
    have fk : ∀ s mm, keywordG [.v (.string s)] mm = some (.v (.bool (keyword s)), mm) := fun _ _ => rfl
    by_cases h1 : 1 ≤ s.size
    ·have b1 : (s != ⟨#[]⟩) = true := hz.trans (decide_eq_true h1)
     by_cases h2 : s.size ≤ 16
     ·have b2 : decide ((s.size : Int) ≤ 16) = true := decide_eq_true (by omega)
      refine go1 (jn @b1 (jn @b2 (jn @t2 @fk))) ?_
      repeat (first | refine x_seq ?_ | refine x_block ?_ | refine xn_normal ?_ | refine xi_normal ?_ | refine xn_exit ?_ | refine xi_exit ?_ | refine xi_other (by decide) ?_ | refine xn_ret ?_ | refine xi_ret ?_ | refine x_skip ?_ | refine x_exit ?_ | refine x_ret ?_)
      exact x_leaves (leaves_v rfl (by simp [isName, hok, h1, h2]; rfl))
     ·have b2 : decide ((s.size : Int) ≤ 16) = false := decide_eq_false (by omega)
      refine go1 (jn @b1 (jn @b2 (jn @t2 @fk))) ?_
      repeat (first | refine x_seq ?_ | refine x_block ?_ | refine xn_normal ?_ | refine xi_normal ?_ | refine xn_exit ?_ | refine xi_exit ?_ | refine xi_other (by decide) ?_ | refine xn_ret ?_ | refine xi_ret ?_ | refine x_skip ?_ | refine x_exit ?_ | refine x_ret ?_)
      exact x_leaves (leaves_v rfl (by simp [isName, h2]; rfl))
    ·have b1 : (s != ⟨#[]⟩) = false := hz.trans (decide_eq_false h1)
     refine go1 (jn @b1 (jn @t2 @fk)) ?_
     repeat (first | refine x_seq ?_ | refine x_block ?_ | refine xn_normal ?_ | refine xi_normal ?_ | refine xn_exit ?_ | refine xi_exit ?_ | refine xi_other (by decide) ?_ | refine xn_ret ?_ | refine xi_ret ?_ | refine x_skip ?_ | refine x_exit ?_ | refine x_ret ?_)
     exact x_leaves (leaves_v rfl (by simp [isName, h1]; rfl))
  ·cases h
 ·cases h
end
section
attribute [local irreducible] Next Inside Runs Ops table
attribute [local irreducible] XRuns XOps XNext XInside XAny XStep
attribute [local go_sem] szStr szInt Option.getD_some isNil evStr
def kpPCount : Nat → Option (List Nat) := fun
 | 0 => some [0]
 | 1 => some [2]
 | _ => none
attribute [go_sem] kpPCount
theorem pcount_ok : FunOk Tryz.prog 72 (upTo 1099511627776) := by
 have hC := table_ok (P := Tryz.prog) (l := []) table_nil
 refine fun_ok mixed hC Tryz.func72 rfl kpPCount false rfl fun args m r h => ?_
 unfold upTo at h
 split at h
 ·rename_i x
  simp only [Option.some.injEq] at h
  subst h
  refine ⟨Nat.le_of_ble_eq_true rfl, ?_⟩
  refine en ?_
  have fin : ∀ (e : Env) (b : Bool), Ev.get e 2 = .v (.bool b) → b = decide (0 ≤ x ∧ x ≤ 1099511627776) → Leaves Tryz.prog false Tryz.f72 m (.v (.bool (decide (0 ≤ x ∧ x ≤ 1099511627776))), m) .ret e m := fun e b h1 h2 => by rw [← h2]; exact leaves_v rfl h1
  repeat' (first | refine gos0 ?_ | (refine ops_here ?_; (fail_if_success (refine ops_case (B := true) rfl rfl rfl ?_ ?_)); (fail_if_success (refine ops_case (B := false) rfl rfl rfl ?_ ?_)); refine ops_case rfl rfl rfl (fun hB => ?_) (fun hB => ?_) <;> rw [hB]) | (refine runs_here ?_; refine runs_cond rfl (fun hc => ?_) (fun hc => ?_) <;> first | (cases hc; done) | skip))
  all_goals exact fin _ _ rfl (by rw [Bool.eq_iff_iff]; simp only [decide_eq_true_eq, decide_eq_false_iff_not, Bool.false_eq_true, false_iff, true_iff] at *; omega)
 ·cases h
def kpPValue : Nat → Option (List Nat) := fun
 | 0 => some [0]
 | 1 => some [2]
 | _ => none
attribute [go_sem] kpPValue
theorem pvalue_ok : FunOk Tryz.prog 126 (upTo 4503599627370496) := by
 have hC := table_ok (P := Tryz.prog) (l := []) table_nil
 refine fun_ok mixed hC Tryz.func126 rfl kpPValue false rfl fun args m r h => ?_
 unfold upTo at h
 split at h
 ·rename_i x
  simp only [Option.some.injEq] at h
  subst h
  refine ⟨Nat.le_of_ble_eq_true rfl, ?_⟩
  refine en ?_
  have fin : ∀ (e : Env) (b : Bool), Ev.get e 2 = .v (.bool b) → b = decide (0 ≤ x ∧ x ≤ 4503599627370496) → Leaves Tryz.prog false Tryz.f126 m (.v (.bool (decide (0 ≤ x ∧ x ≤ 4503599627370496))), m) .ret e m := fun e b h1 h2 => by rw [← h2]; exact leaves_v rfl h1
  repeat' (first | refine gos0 ?_ | (refine ops_here ?_; (fail_if_success (refine ops_case (B := true) rfl rfl rfl ?_ ?_)); (fail_if_success (refine ops_case (B := false) rfl rfl rfl ?_ ?_)); refine ops_case rfl rfl rfl (fun hB => ?_) (fun hB => ?_) <;> rw [hB]) | (refine runs_here ?_; refine runs_cond rfl (fun hc => ?_) (fun hc => ?_) <;> first | (cases hc; done) | skip))
  all_goals exact fin _ _ rfl (by rw [Bool.eq_iff_iff]; simp only [decide_eq_true_eq, decide_eq_false_iff_not, Bool.false_eq_true, false_iff, true_iff] at *; omega)
 ·cases h
/-! ### the parts of a recipe -/
def Rc.tp (R : Rc) : Tp := ⟨R.stopOn, R.stopMetric, R.stopMax, R.stopPatience, R.stopDelta, R.stopRel⟩
def Rc.pt (R : Rc) : Pt := ⟨R.plateauOn, R.plateauMetric, R.plateauMax, R.plateauFactor, R.plateauPatience, R.plateauCooldown, R.plateauFloor, R.plateauDelta⟩
def Rc.kp (R : Rc) : Kp := ⟨R.keepOn, R.keepMetric, R.keepMax, R.keepCount⟩
def Rc.em (R : Rc) : Em := ⟨R.emaOn, R.emaDecay⟩
def Rc.sw (R : Rc) : Sw := ⟨R.swaOn, R.swaFromU, R.swaFromN, R.swaEvery⟩
def countB (x : Int) : Bool := decide (0 ≤ x ∧ x ≤ 1099511627776)
def valueB (x : Int) : Bool := decide (0 ≤ x ∧ x ≤ 4503599627370496)
def tpEq (x y : Tp) : Bool := (x.On == y.On) && ((x.Metric == y.Metric) && ((x.Max == y.Max) && ((x.Patience == y.Patience) && ((x.Delta == y.Delta) && ((x.Rel == y.Rel) && true)))))
def ptEq (x y : Pt) : Bool := (x.On == y.On) && ((x.Metric == y.Metric) && ((x.Max == y.Max) && ((x.Factor == y.Factor) && ((x.Patience == y.Patience) && ((x.Cooldown == y.Cooldown) && ((x.Floor == y.Floor) && ((x.Delta == y.Delta) && true)))))))
def kpEq (x y : Kp) : Bool := (x.On == y.On) && ((x.Metric == y.Metric) && ((x.Max == y.Max) && ((x.Count == y.Count) && true)))
def emEq (x y : Em) : Bool := (x.On == y.On) && ((x.Decay == y.Decay) && true)
def swEq (x y : Sw) : Bool := (x.On == y.On) && (((x.FromU == y.FromU) && ((x.FromN == y.FromN) && true)) && ((x.Every == y.Every) && true))
theorem eqTp' {x y : Tp} : eqTy Tryz.prog 8 25 (.agg x.row) (.agg y.row) = some (tpEq x y) := eqTp
theorem eqPt' {x y : Pt} : eqTy Tryz.prog 8 27 (.agg x.row) (.agg y.row) = some (ptEq x y) := eqPt
theorem eqKp' {x y : Kp} : eqTy Tryz.prog 8 29 (.agg x.row) (.agg y.row) = some (kpEq x y) := eqKp
theorem eqEm' {x y : Em} : eqTy Tryz.prog 8 31 (.agg x.row) (.agg y.row) = some (emEq x y) := eqEm
theorem eqSw' {x y : Sw} : eqTy Tryz.prog 8 35 (.agg x.row) (.agg y.row) = some (swEq x y) := eqSw
def Tp.bad (x : Tp) : Bool := x.On && !(isName x.Metric && (countB x.Patience && valueB x.Delta))
def Pt.bad (x : Pt) : Bool := x.On && !(isName x.Metric && (valueB x.Factor && (countB x.Patience && (countB x.Cooldown && (valueB x.Floor && valueB x.Delta)))))
def Kp.bad (x : Kp) : Bool := x.On && !(isName x.Metric && countB x.Count)
def Em.bad (x : Em) : Bool := x.On && !valueB x.Decay
def Sw.bad (x : Sw) : Bool := x.On && (!decide (lenMay x.FromU x.FromN) || (x.FromU == 3 || !countB x.Every))
def Tp.may (x : Tp) : Bool := !x.bad && (x.On || tpEq x tp0)
def Pt.may (x : Pt) : Bool := !x.bad && (x.On || ptEq x pt0)
def Kp.may (x : Kp) : Bool := !x.bad && (x.On || kpEq x kp0)
def Em.may (x : Em) : Bool := !x.bad && (x.On || emEq x em0)
def Sw.may (x : Sw) : Bool := !x.bad && (x.On || swEq x sw0)
def Rc.endsMay (R : Rc) : Bool := R.tp.may && (R.pt.may && (R.kp.may && (R.em.may && R.sw.may)))
def endsRG : List AV → Mem → Option (AV × Mem)
 | [.agg cs], m =>
  match unRc cs with
  | some R => if R.stopMetric.size ≤ 9223372036854775807 ∧ R.plateauMetric.size ≤ 9223372036854775807 ∧ R.keepMetric.size ≤ 9223372036854775807 then some (.v (.bool R.endsMay), m) else none
  | none => none
 | _, _ => none
theorem runs_rcut {P : Program} {call : CallF} {nt : Nat} {kp : Nat → Option (List Nat)} {c : Code} {e : Env} {m : Mem} {Q : Ex → Env → Mem → Prop} (E : Env) (M : Mem) (h : Runs P call nt kp c e m fun x e2 m2 => x = .normal ∧ e2 = E ∧ m2 = M) (hk : Q .normal E M) : Runs P call nt kp c e m Q :=
 runs_mono h fun x e2 m2 ⟨h1, h2, h3⟩ => by rw [h1, h2, h3]; exact hk
def setv (m : Mem) (q : Nat) (cs : List AV) : Mem := { m with vars := m.vars.set q (some cs) }
theorem store_var {P : Program} {m : Mem} {t : TypeId} {q : Nat} {x : AV} {old cs : List AV} (hc : cellsOf x = some cs) (ht : tSize P t = some cs.length) (hv : m.var q = some old) (ho : old.length = cs.length) (hr : cs.all (refLe q) = true) : evStore P m t (.ptr q 0) x = some (setv m q cs) := by
 unfold evStore
 simp only [hc, ht, hv]
 rw [if_pos ⟨trivial, by omega, hr⟩]
 have : splice old 0 cs = cs := by
  unfold splice
  simp [ho]
 rw [this]
 rfl
theorem push_len {m : Mem} {cs : List AV} : (m.push cs).vars.length = m.vars.length + 1 := by simp [Mem.push]
theorem newVar_hole {m : Mem} {p : Nat} {cs : List AV} (h : cs.all (refLe p) = true) (hp : m.vars[p]? = some none) : newVar m p cs = some (setv m p cs) := by
 have hlt : p < m.vars.length := (List.getElem?_eq_some_iff.1 hp).1
 unfold newVar
 rw [if_pos h, if_neg (by omega), hp]
 rfl
theorem setv_app {V L : List (Option (List AV))} {T : List Nat} {q : Nat} {cs : List AV} : setv { vars := V ++ L, toks := T } (V.length + q) cs = { vars := V ++ L.set q (some cs), toks := T } := by
 unfold setv
 simp only [List.set_append_right _ _ (Nat.le_add_right V.length q), Nat.add_sub_cancel_left]
def slotS (a b : Bool) (z r : List AV) : Option (List AV) := if a then some (if b then r else z) else none
def kpEndsR : Nat → Option (List Nat) := fun
 | 0 => some [1]
 | 1 => some [1, 3, 4, 5]
 | 2 => some [1, 3, 4, 5, 12]
 | 3 => some [1, 3, 4, 5, 12]
 | 5 => some [1, 4, 5, 39]
 | 6 => some [1, 4, 5, 39]
 | 8 => some [1, 5, 81]
 | 9 => some [1, 5, 81]
 | 11 => some [1, 103]
 | 12 => some [1, 103]
 | 14 => some [1, 124]
 | _ => some [2]
attribute [go_sem] kpEndsR
attribute [local go_sem] iv fpRcStop fpRcPlateau fpRcKeep cellsRc newRc zrTp zoTp znTp zrPt zoPt znPt zrKp zoKp znKp fpTpOn fpTpMetric fpTpPatience fpTpDelta mk0Tp niTp eqTp' fpPtOn fpPtMetric fpPtFactor fpPtPatience fpPtCooldown fpPtFloor fpPtDelta mk0Pt niPt eqPt' fpKpOn fpKpMetric fpKpCount mk0Kp niKp eqKp' fpRcEma fpRcEmaOn fpRcEmaDecay mk0Em niEm eqEm' fpRcSwa fpRcSwaOn fpRcSwaFrom fpRcSwaFromU fpRcSwaEvery mk0Sw niSw eqSw'
theorem endsR_ok : FunOk Tryz.prog 77 endsRG := by
 have hC := table_ok (P := Tryz.prog) (l := [(122, isNameG), (72, upTo 1099511627776), (126, upTo 4503599627370496), (104, lenCheckG)]) (table_more is_ok (table_more pcount_ok (table_more pvalue_ok (table_more lenCheck_ok table_nil))))
 have t1 := fun args mm => table_at (l := [(122, isNameG), (72, upTo 1099511627776), (126, upTo 4503599627370496), (104, lenCheckG)]) (f := 122) (args := args) (m := mm) rfl
 have t2 := fun args mm => table_at (l := [(122, isNameG), (72, upTo 1099511627776), (126, upTo 4503599627370496), (104, lenCheckG)]) (f := 72) (args := args) (m := mm) rfl
 have t3 := fun args mm => table_at (l := [(122, isNameG), (72, upTo 1099511627776), (126, upTo 4503599627370496), (104, lenCheckG)]) (f := 126) (args := args) (m := mm) rfl
 have t4 := fun args mm => table_at (l := [(122, isNameG), (72, upTo 1099511627776), (126, upTo 4503599627370496), (104, lenCheckG)]) (f := 104) (args := args) (m := mm) rfl
 refine fun_okX Tryz.func77 rfl false rfl fun args m r h => ?_
 unfold endsRG at h
 split at h
 ·rename_i cs
  split at h
  ·rename_i R hR
   obtain rfl := unRc_some hR
   split at h
   ·rename_i hs
    simp only [Option.some.injEq] at h
    subst h
    refine ⟨Nat.le_of_ble_eq_true rfl, fun φ w => ?_⟩
    refine en ?_
    repeat (first | refine x_seq ?_ | refine x_block ?_ | refine xn_normal ?_ | refine xi_normal ?_ | refine xn_exit ?_ | refine xi_exit ?_ | refine xi_other (by decide) ?_ | refine xn_ret ?_ | refine xi_ret ?_ | refine x_skip ?_ | refine x_exit ?_ | refine x_ret ?_)
    refine x_region (kp := kpEndsR) mixed hC ?_
    refine go0 ?_
    have hA := above_push (cs := R.row) (above_self m)
    have hv1 : (m.push R.row).var m.vars.length = some R.row := push_var
    have hlt : m.vars.length < (m.push R.row).vars.length := by rw [push_len]; omega
    generalize m.push R.row = m1 at hA hv1 hlt
    generalize hn : m.vars.length = n1 at hv1 hlt
    repeat (first | refine x_seq ?_ | refine x_block ?_ | refine xn_normal ?_ | refine xi_normal ?_ | refine xn_exit ?_ | refine xi_exit ?_ | refine xi_other (by decide) ?_ | refine xn_ret ?_ | refine xi_ret ?_ | refine x_skip ?_ | refine x_exit ?_ | refine x_ret ?_)
    refine x_icut (fun e m2 F => ∃ n3 n4 n5, Above m m2 ∧ m2.var n1 = some R.row ∧ m2.var n3 = some R.tp.row ∧ m2.var n4 = some R.pt.row ∧ m2.var n5 = some R.kp.row ∧ e = [(1, .ptr n1 0), (3, .ptr n3 0), (4, .ptr n4 0), (5, .ptr n5 0)]) ?_ ?_
    ·let MS : (Nat → Bool) → Mem := fun S => { vars := m1.vars ++ [slotS (S 6) (S 9) zeroTp R.tp.row, slotS (S 7) (S 10) zeroPt R.pt.row, slotS (S 8) (S 11) zeroKp R.kp.row], toks := m1.toks }
     have hMv : ∀ S, (MS S).var n1 = some R.row := fun S => by
      apply var_of
      show (m1.vars ++ _)[n1]? = _
      rw [List.getElem?_append_left hlt, (var_lt hv1).2]
     have hQ : ∀ S (q : Nat), (MS S).var (m1.vars.length + q) = ([slotS (S 6) (S 9) zeroTp R.tp.row, slotS (S 7) (S 10) zeroPt R.pt.row, slotS (S 8) (S 11) zeroKp R.kp.row][q]?).join := fun S q => by
      show ((m1.vars ++ _)[m1.vars.length + q]?).join = _
      rw [List.getElem?_append_right (by omega), Nat.add_sub_cancel_left]
     refine x_sets0 (l2 := kpEndsR 1) mixed hC (by decide +kernel) (by decide +kernel) (fun i => [.ptr n1 8, .agg R.tp.row, .ptr n1 14, .agg R.pt.row, .ptr n1 22, .agg R.kp.row, .ptr (m1.vars.length + 0) 0, .ptr (m1.vars.length + 1) 0, .ptr (m1.vars.length + 2) 0, .v (.tuple #[]), .v (.tuple #[]), .v (.tuple #[])].getD i .junk) MS
      (m' := { vars := m1.vars ++ [some R.tp.row, some R.pt.row, some R.kp.row], toks := m1.toks }) ?_ rfl ?_ ?_ ?_
     ·intro r
      show (m1.vars[r]?).join = ((m1.vars ++ [none, none, none])[r]?).join
      by_cases h : r < m1.vars.length
      ·rw [List.getElem?_append_left h]
      ·rw [List.getElem?_append_right (by omega), List.getElem?_eq_none (by omega)]
       match r - m1.vars.length with
       | 0 => rfl
       | 1 => rfl
       | 2 => rfl
       | n + 3 => rfl
     ·intro S i o ho hc hi hr
      match i, ho with
      | 0, ho =>
       cases ho
       refine .inl ?_
       show _ = some (_, MS S)
       simp only [go_sem, reduceIte, Nat.reduceEqDiff, reduceCtorEq, Int.reduceEq, envOf, List.getElem?_cons_zero, List.getElem?_cons_succ, Option.bind_some, List.getD_cons_zero, List.getD_cons_succ, List.getElem?_toArray]
       try rfl
      | 1, ho =>
       cases ho
       refine .inl ?_
       show _ = some (_, MS S)
       have l1 := lpRcStop (hMv S)
       simp only [go_sem, reduceIte, Nat.reduceEqDiff, reduceCtorEq, Int.reduceEq, envOf, List.getElem?_cons_zero, List.getElem?_cons_succ, Option.bind_some, List.getD_cons_zero, List.getD_cons_succ, List.getElem?_toArray, l1]
       try rfl
      | 2, ho =>
       cases ho
       refine .inl ?_
       show _ = some (_, MS S)
       simp only [go_sem, reduceIte, Nat.reduceEqDiff, reduceCtorEq, Int.reduceEq, envOf, List.getElem?_cons_zero, List.getElem?_cons_succ, Option.bind_some, List.getD_cons_zero, List.getD_cons_succ, List.getElem?_toArray]
       try rfl
      | 3, ho =>
       cases ho
       refine .inl ?_
       show _ = some (_, MS S)
       have l1 := lpRcPlateau (hMv S)
       simp only [go_sem, reduceIte, Nat.reduceEqDiff, reduceCtorEq, Int.reduceEq, envOf, List.getElem?_cons_zero, List.getElem?_cons_succ, Option.bind_some, List.getD_cons_zero, List.getD_cons_succ, List.getElem?_toArray, l1]
       try rfl
      | 4, ho =>
       cases ho
       refine .inl ?_
       show _ = some (_, MS S)
       simp only [go_sem, reduceIte, Nat.reduceEqDiff, reduceCtorEq, Int.reduceEq, envOf, List.getElem?_cons_zero, List.getElem?_cons_succ, Option.bind_some, List.getD_cons_zero, List.getD_cons_succ, List.getElem?_toArray]
       try rfl
      | 5, ho =>
       cases ho
       refine .inl ?_
       show _ = some (_, MS S)
       have l1 := lpRcKeep (hMv S)
       simp only [go_sem, reduceIte, Nat.reduceEqDiff, reduceCtorEq, Int.reduceEq, envOf, List.getElem?_cons_zero, List.getElem?_cons_succ, Option.bind_some, List.getD_cons_zero, List.getD_cons_succ, List.getElem?_toArray, l1]
       try rfl
      | 6, ho =>
       cases ho
       have h9 : S 9 = false := by
        cases h : S 9 with
        | false => rfl
        | true =>
         have := hc 9 _ rfl h ⟨6, .data⟩ (by simp) rfl
         rw [this] at hi
         cases hi
       refine .inr ⟨_, zeroTp, m1.vars.length + 0, rfl, zrTp, zoTp, ?_, rfl⟩
       rw [newVar_hole rfl (by show (m1.vars ++ _)[m1.vars.length + 0]? = _; rw [List.getElem?_append_right (by omega), Nat.add_sub_cancel_left]; show some (slotS (S 6) (S 9) zeroTp _) = _; rw [hi]; rfl)]
       show some (setv { vars := _ ++ _, toks := _ } _ _) = _
       rw [setv_app]
       show some ({ vars := _ ++ [_, _, _], toks := _ } : Mem) = some { vars := _ ++ [_, _, _], toks := _ }
       simp only [ins, slotS, h9]
       rfl
      | 7, ho =>
       cases ho
       have h9 : S 10 = false := by
        cases h : S 10 with
        | false => rfl
        | true =>
         have := hc 10 _ rfl h ⟨7, .data⟩ (by simp) rfl
         rw [this] at hi
         cases hi
       refine .inr ⟨_, zeroPt, m1.vars.length + 1, rfl, zrPt, zoPt, ?_, rfl⟩
       rw [newVar_hole rfl (by show (m1.vars ++ _)[m1.vars.length + 1]? = _; rw [List.getElem?_append_right (by omega), Nat.add_sub_cancel_left]; show some (slotS (S 7) (S 10) zeroPt _) = _; rw [hi]; rfl)]
       show some (setv { vars := _ ++ _, toks := _ } _ _) = _
       rw [setv_app]
       show some ({ vars := _ ++ [_, _, _], toks := _ } : Mem) = some { vars := _ ++ [_, _, _], toks := _ }
       simp only [ins, slotS, h9]
       rfl
      | 8, ho =>
       cases ho
       have h9 : S 11 = false := by
        cases h : S 11 with
        | false => rfl
        | true =>
         have := hc 11 _ rfl h ⟨8, .data⟩ (by simp) rfl
         rw [this] at hi
         cases hi
       refine .inr ⟨_, zeroKp, m1.vars.length + 2, rfl, zrKp, zoKp, ?_, rfl⟩
       rw [newVar_hole rfl (by show (m1.vars ++ _)[m1.vars.length + 2]? = _; rw [List.getElem?_append_right (by omega), Nat.add_sub_cancel_left]; show some (slotS (S 8) (S 11) zeroKp _) = _; rw [hi]; rfl)]
       show some (setv { vars := _ ++ _, toks := _ } _ _) = _
       rw [setv_app]
       show some ({ vars := _ ++ [_, _, _], toks := _ } : Mem) = some { vars := _ ++ [_, _, _], toks := _ }
       simp only [ins, slotS, h9]
       rfl
      | 9, ho =>
       cases ho
       have h6 : S 6 = true := hr ⟨6, .data⟩ (by simp) rfl
       refine .inl ?_
       have hv := hQ S 0
       have hs : ([slotS (S 6) (S 9) zeroTp R.tp.row, slotS (S 7) (S 10) zeroPt R.pt.row, slotS (S 8) (S 11) zeroKp R.kp.row][0]?).join = some zeroTp := by
        show (some (slotS (S 6) (S 9) zeroTp _)).join = _
        rw [h6, hi]
        rfl
       rw [hs] at hv
       have st := store_var (P := Tryz.prog) (t := 25) (x := .agg R.tp.row) (cs := R.tp.row) rfl szTp hv rfl rfl
       simp only [go_sem, reduceIte, Nat.reduceEqDiff, reduceCtorEq, Int.reduceEq, envOf, List.getElem?_cons_zero, List.getElem?_cons_succ, Option.bind_some, List.getD_cons_zero, List.getD_cons_succ, List.getElem?_toArray, st]
       show some (_, setv { vars := _ ++ _, toks := _ } _ _) = _
       rw [setv_app]
       show some (_, ({ vars := _ ++ [_, _, _], toks := _ } : Mem)) = some (_, { vars := _ ++ [_, _, _], toks := _ })
       simp only [ins, slotS, h6]
       rfl
      | 10, ho =>
       cases ho
       have h6 : S 7 = true := hr ⟨7, .data⟩ (by simp) rfl
       refine .inl ?_
       have hv := hQ S 1
       have hs : ([slotS (S 6) (S 9) zeroTp R.tp.row, slotS (S 7) (S 10) zeroPt R.pt.row, slotS (S 8) (S 11) zeroKp R.kp.row][1]?).join = some zeroPt := by
        show (some (slotS (S 7) (S 10) zeroPt _)).join = _
        rw [h6, hi]
        rfl
       rw [hs] at hv
       have st := store_var (P := Tryz.prog) (t := 27) (x := .agg R.pt.row) (cs := R.pt.row) rfl szPt hv rfl rfl
       simp only [go_sem, reduceIte, Nat.reduceEqDiff, reduceCtorEq, Int.reduceEq, envOf, List.getElem?_cons_zero, List.getElem?_cons_succ, Option.bind_some, List.getD_cons_zero, List.getD_cons_succ, List.getElem?_toArray, st]
       show some (_, setv { vars := _ ++ _, toks := _ } _ _) = _
       rw [setv_app]
       show some (_, ({ vars := _ ++ [_, _, _], toks := _ } : Mem)) = some (_, { vars := _ ++ [_, _, _], toks := _ })
       simp only [ins, slotS, h6]
       rfl
      | 11, ho =>
       cases ho
       have h6 : S 8 = true := hr ⟨8, .data⟩ (by simp) rfl
       refine .inl ?_
       have hv := hQ S 2
       have hs : ([slotS (S 6) (S 9) zeroTp R.tp.row, slotS (S 7) (S 10) zeroPt R.pt.row, slotS (S 8) (S 11) zeroKp R.kp.row][2]?).join = some zeroKp := by
        show (some (slotS (S 8) (S 11) zeroKp _)).join = _
        rw [h6, hi]
        rfl
       rw [hs] at hv
       have st := store_var (P := Tryz.prog) (t := 29) (x := .agg R.kp.row) (cs := R.kp.row) rfl szKp hv rfl rfl
       simp only [go_sem, reduceIte, Nat.reduceEqDiff, reduceCtorEq, Int.reduceEq, envOf, List.getElem?_cons_zero, List.getElem?_cons_succ, Option.bind_some, List.getD_cons_zero, List.getD_cons_succ, List.getElem?_toArray, st]
       show some (_, setv { vars := _ ++ _, toks := _ } _ _) = _
       rw [setv_app]
       show some (_, ({ vars := _ ++ [_, _, _], toks := _ } : Mem)) = some (_, { vars := _ ++ [_, _, _], toks := _ })
       simp only [ins, slotS, h6]
       rfl
      | n + 12, ho => simp at ho
     ·intro S hS
      have h6 := hS 6 (by decide)
      have h7 := hS 7 (by decide)
      have h8 := hS 8 (by decide)
      have h9 := hS 9 (by decide)
      have h10 := hS 10 (by decide)
      have h11 := hS 11 (by decide)
      show ({ vars := _, toks := _ } : Mem) = _
      simp only [h6, h7, h8, h9, h10, h11]
      rfl
     ·rintro e2 rfl
      refine ⟨m1.vars.length + 0, m1.vars.length + 1, m1.vars.length + 2, ?_, ?_, ?_, ?_, ?_, rfl⟩
      ·obtain ⟨L, rfl⟩ := hA
       exact ⟨L ++ [some R.tp.row, some R.pt.row, some R.kp.row], by simp⟩
      ·exact var_of (by show (m1.vars ++ _)[n1]? = _; rw [List.getElem?_append_left hlt, (var_lt hv1).2])
      ·exact var_of (by show (m1.vars ++ _)[m1.vars.length + 0]? = _; rw [List.getElem?_append_right (by omega), Nat.add_sub_cancel_left]; rfl)
      ·exact var_of (by show (m1.vars ++ _)[m1.vars.length + 1]? = _; rw [List.getElem?_append_right (by omega), Nat.add_sub_cancel_left]; rfl)
      ·exact var_of (by show (m1.vars ++ _)[m1.vars.length + 2]? = _; rw [List.getElem?_append_right (by omega), Nat.add_sub_cancel_left]; rfl)
    ·rintro e m2 F ⟨n3, n4, n5, hA2, h1, h3, h4, h5, rfl⟩
     have fin := above_fin hA2
     have ct : ∀ x mm, upTo 1099511627776 [.v (.int .i64 x)] mm = some (.v (.bool (countB x)), mm) := fun _ _ => rfl
     have vt : ∀ x mm, upTo 4503599627370496 [.v (.int .i64 x)] mm = some (.v (.bool (valueB x)), mm) := fun _ _ => rfl
     have a1 := lpTpOn h3
     have a2 := lpTpMetric h3
     have a3 := lpTpPatience h3
     have a4 := lpTpDelta h3
     have a5 := vrTp h3
     have i1 := fun mm => isNameG_eq (s := R.tp.Metric) (m := mm) hs.1
     refine xn_normal ?_
     refine x_lift (kp := kpEndsR) mixed hC ?_
     refine runs_seq ?_
     refine runs_block ?_
     refine runs_seq ?_
     refine runs_rcut [(1, .ptr n1 0), (3, .ptr n3 0), (4, .ptr n4 0), (5, .ptr n5 0), (12, .v (.bool (!R.tp.may)))] m2 ?_ ?_
     ·repeat' (first | refine gos1 (jn @a1 (jn @a2 (jn @a3 (jn @a4 (jn @a5 (jn @t1 (jn @t2 (jn @t3 (jn @i1 (jn @ct @vt)))))))))) ?_ | (refine ops_here ?_; (fail_if_success (refine ops_case (B := true) rfl rfl rfl ?_ ?_)); (fail_if_success (refine ops_case (B := false) rfl rfl rfl ?_ ?_)); refine ops_case rfl rfl rfl (fun hB => ?_) (fun hB => ?_) <;> rw [hB]) | (refine runs_here ?_; refine runs_cond rfl (fun hc => ?_) (fun hc => ?_) <;> first | (cases hc; done) | skip))
      all_goals refine ⟨rfl, ?_, rfl⟩
      all_goals simp_all [Tp.bad, Tp.may]
     ·refine next_normal ?_
      refine runs_cond rfl (fun hc => ?_) (fun hc => ?_)
      ·have e1 : R.endsMay = false := by simp only [Bool.not_eq_true'] at hc; simp [Rc.endsMay, hc]
       rw [e1]
       refine go0 ?_
       exact leaves_fin rfl rfl fin
      have m1' : R.tp.may = true := by simpa using hc
      have b1 := lpPtOn h4
      have b2 := lpPtMetric h4
      have b3 := lpPtFactor h4
      have b4 := lpPtPatience h4
      have b5 := lpPtCooldown h4
      have b6 := lpPtFloor h4
      have b7 := lpPtDelta h4
      have b8 := vrPt h4
      have i2 := fun mm => isNameG_eq (s := R.pt.Metric) (m := mm) hs.2.1
      refine runs_seq ?_
      refine runs_rcut [(1, .ptr n1 0), (4, .ptr n4 0), (5, .ptr n5 0), (39, .v (.bool (!R.pt.may)))] m2 ?_ ?_
      ·repeat' (first | refine gos1 (jn @b1 (jn @b2 (jn @b3 (jn @b4 (jn @b5 (jn @b6 (jn @b7 (jn @b8 (jn @t1 (jn @t2 (jn @t3 (jn @i2 (jn @ct @vt))))))))))))) ?_ | (refine ops_here ?_; (fail_if_success (refine ops_case (B := true) rfl rfl rfl ?_ ?_)); (fail_if_success (refine ops_case (B := false) rfl rfl rfl ?_ ?_)); refine ops_case rfl rfl rfl (fun hB => ?_) (fun hB => ?_) <;> rw [hB]) | (refine runs_here ?_; refine runs_cond rfl (fun hc => ?_) (fun hc => ?_) <;> first | (cases hc; done) | skip))
       all_goals refine ⟨rfl, ?_, rfl⟩
       all_goals simp_all [Pt.bad, Pt.may]
      refine next_normal ?_
      refine runs_cond rfl (fun hc => ?_) (fun hc => ?_)
      ·have e1 : R.endsMay = false := by simp only [Bool.not_eq_true'] at hc; simp [Rc.endsMay, hc]
       rw [e1]
       refine go0 ?_
       exact leaves_fin rfl rfl fin
      have m2' : R.pt.may = true := by simpa using hc
      have c1 := lpKpOn h5
      have c2 := lpKpMetric h5
      have c3 := lpKpCount h5
      have c4 := vrKp h5
      have i3 := fun mm => isNameG_eq (s := R.kp.Metric) (m := mm) hs.2.2
      refine runs_seq ?_
      refine runs_rcut [(1, .ptr n1 0), (5, .ptr n5 0), (81, .v (.bool (!R.kp.may)))] m2 ?_ ?_
      ·repeat' (first | refine gos1 (jn @c1 (jn @c2 (jn @c3 (jn @c4 (jn @t1 (jn @t2 (jn @t3 (jn @i3 (jn @ct @vt))))))))) ?_ | (refine ops_here ?_; (fail_if_success (refine ops_case (B := true) rfl rfl rfl ?_ ?_)); (fail_if_success (refine ops_case (B := false) rfl rfl rfl ?_ ?_)); refine ops_case rfl rfl rfl (fun hB => ?_) (fun hB => ?_) <;> rw [hB]) | (refine runs_here ?_; refine runs_cond rfl (fun hc => ?_) (fun hc => ?_) <;> first | (cases hc; done) | skip))
       all_goals refine ⟨rfl, ?_, rfl⟩
       all_goals simp_all [Kp.bad, Kp.may]
      refine next_normal ?_
      refine runs_cond rfl (fun hc => ?_) (fun hc => ?_)
      ·have e1 : R.endsMay = false := by simp only [Bool.not_eq_true'] at hc; simp [Rc.endsMay, hc]
       rw [e1]
       refine go0 ?_
       exact leaves_fin rfl rfl fin
      have m3' : R.kp.may = true := by simpa using hc
      have d1 : evLoad Tryz.prog m2 4 (.ptr n1 26) = some (.v (.bool R.em.On)) := lpRcEmaOn h1
      have d2 : evLoad Tryz.prog m2 3 (.ptr n1 27) = some (.v (.int .i64 R.em.Decay)) := lpRcEmaDecay h1
      have d3 : evLoad Tryz.prog m2 31 (.ptr n1 26) = some (.agg R.em.row) := lpRcEma h1
      refine runs_seq ?_
      refine runs_rcut [(1, .ptr n1 0), (103, .v (.bool (!R.em.may)))] m2 ?_ ?_
      ·repeat' (first | refine gos1 (jn @d1 (jn @d2 (jn @d3 (jn @t1 (jn @t2 (jn @t3 (jn @ct @vt))))))) ?_ | (refine ops_here ?_; (fail_if_success (refine ops_case (B := true) rfl rfl rfl ?_ ?_)); (fail_if_success (refine ops_case (B := false) rfl rfl rfl ?_ ?_)); refine ops_case rfl rfl rfl (fun hB => ?_) (fun hB => ?_) <;> rw [hB]) | (refine runs_here ?_; refine runs_cond rfl (fun hc => ?_) (fun hc => ?_) <;> first | (cases hc; done) | skip))
       all_goals refine ⟨rfl, ?_, rfl⟩
       all_goals simp_all [Em.bad, Em.may]
      refine next_normal ?_
      refine runs_cond rfl (fun hc => ?_) (fun hc => ?_)
      ·have e1 : R.endsMay = false := by simp only [Bool.not_eq_true'] at hc; simp [Rc.endsMay, hc]
       rw [e1]
       refine go0 ?_
       exact leaves_fin rfl rfl fin
      have m4' : R.em.may = true := by simpa using hc
      have f1 : evLoad Tryz.prog m2 4 (.ptr n1 28) = some (.v (.bool R.sw.On)) := lpRcSwaOn h1
      have f2 : evLoad Tryz.prog m2 33 (.ptr n1 29) = some (.agg [.v (.int .i64 R.sw.FromU), .v (.int .i64 R.sw.FromN)]) := lpRcSwaFrom h1
      have f3 : evLoad Tryz.prog m2 3 (.ptr n1 29) = some (.v (.int .i64 R.sw.FromU)) := lpRcSwaFromU h1
      have f4 : evLoad Tryz.prog m2 3 (.ptr n1 31) = some (.v (.int .i64 R.sw.Every)) := lpRcSwaEvery h1
      have f5 : evLoad Tryz.prog m2 35 (.ptr n1 28) = some (.agg R.sw.row) := lpRcSwa h1
      have lc : ∀ u n mm, lenCheckG [.agg [.v (.int .i64 u), .v (.int .i64 n)]] mm = some (.v (.int .i64 (if lenMay u n then 0 else 1)), mm) := fun _ _ _ => rfl
      have le : ∀ u n, ((if lenMay u n then (0 : Int) else 1) != 0) = !decide (lenMay u n) := fun u n => by
       by_cases h : lenMay u n
       ·rw [if_pos h, decide_eq_true h]; rfl
       ·rw [if_neg h, decide_eq_false h]; rfl
      refine runs_seq ?_
      refine runs_rcut [(1, .ptr n1 0), (124, .v (.bool R.sw.bad))] m2 ?_ ?_
      ·repeat' (first | refine gos1 (jn @f1 (jn @f2 (jn @f3 (jn @f4 (jn @t1 (jn @t2 (jn @t3 (jn @t4 (jn @ct (jn @vt (jn @lc @le))))))))))) ?_ | (refine ops_here ?_; (fail_if_success (refine ops_case (B := true) rfl rfl rfl ?_ ?_)); (fail_if_success (refine ops_case (B := false) rfl rfl rfl ?_ ?_)); refine ops_case rfl rfl rfl (fun hB => ?_) (fun hB => ?_) <;> rw [hB]) | (refine runs_here ?_; refine runs_cond rfl (fun hc => ?_) (fun hc => ?_) <;> first | (cases hc; done) | skip))
       all_goals refine ⟨rfl, ?_, rfl⟩
       all_goals simp_all [Sw.bad]
      refine next_normal ?_
      refine runs_cond rfl (fun hc => ?_) (fun hc => ?_)
      ·have e1 : R.endsMay = false := by simp [Rc.endsMay, Sw.may, hc]
       rw [e1]
       refine go0 ?_
       exact leaves_fin rfl rfl fin
      refine go0 ?_
      cases ho : R.sw.On with
      | true =>
       have e1 : R.endsMay = true := by simp [Rc.endsMay, Sw.may, m1', m2', m3', m4', hc, ho]
       rw [ho] at f1
       rw [e1]
       refine go1 (jn @f1 @f5) ?_
       exact leaves_fin rfl rfl fin
      | false =>
       have e1 : R.endsMay = swEq R.sw sw0 := by simp [Rc.endsMay, Sw.may, m1', m2', m3', m4', hc, ho]
       rw [ho] at f1
       rw [e1]
       refine go1 (jn @f1 @f5) ?_
       exact leaves_fin rfl rfl fin
   ·cases h
  ·cases h
 ·cases h
end
section
set_option maxHeartbeats 16000000
set_option linter.unusedVariables false
set_option linter.unusedSimpArgs false
def inQ (x : Int) : Prop := 0 ≤ x ∧ x ≤ 4503599627370496
instance (x : Int) : Decidable (inQ x) := by unfold inQ; exact inferInstance
def mayN (x : Nd) : Prop := 1 ≤ x.op ∧ x.op ≤ 9 ∧ inQ x.a ∧ inQ x.b ∧ inQ x.c ∧ 0 ≤ x.k ∧ (x.op = 9 → x.a = 0) ∧ ((x.op < 2 ∨ 7 < x.op) → x.b = 0) ∧ (x.op ≠ 6 → x.c = 0) ∧
 ((x.op ≠ 3 ∧ x.op ≠ 4 ∧ x.op ≠ 6 ∧ x.op ≠ 7) → x.k = 0) ∧ (x.op < 7 → x.u = 0 ∧ x.n = 0) ∧ ((x.op = 3 ∨ x.op = 7) → x.k ≤ 1099511627776) ∧ (x.op = 4 → x.k ≤ 4503599627370496) ∧ (x.op = 6 → x.k ≤ 100) ∧ lenMay x.u x.n ∧ x.u ≠ 3
instance (x : Nd) : Decidable (mayN x) := by unfold mayN; exact inferInstance
def mayAt (p : Int → Bool) : List AV → Mem → Option (AV × Mem)
 | [.agg cs], m =>
  match unNd cs with
  | some x => if p x.op = true then some (.v (.bool (decide (mayN x))), m) else none
  | none => none
 | _, _ => none
def mayG : List AV → Mem → Option (AV × Mem) := mayAt fun _ => true
theorem may_all {P : Program} {f : FuncId} (h : ∀ op, ∃ p : Int → Bool, p op = true ∧ FunOk P f (mayAt p)) : FunOk P f mayG := by
 intro args m r m' hg
 unfold mayG mayAt at hg
 split at hg
 ·rename_i cs
  split at hg
  ·rename_i x hx
   obtain ⟨p, hp, hok⟩ := h x.op
   refine hok _ m r m' ?_
   simp only [mayAt, hx]
   rw [if_pos hp]
   simpa using hg
  ·cases hg
 ·cases hg
theorem nf0 {r : Nat} : evFieldAddr Tryz.prog 102 (.ptr r 0) 0 = some (.ptr r 0) := by kernel_rfl
theorem nf1 {r : Nat} : evFieldAddr Tryz.prog 102 (.ptr r 0) 1 = some (.ptr r (0 + 1)) := by kernel_rfl
theorem nf2 {r : Nat} : evFieldAddr Tryz.prog 102 (.ptr r 0) 2 = some (.ptr r (0 + 2)) := by kernel_rfl
theorem nf3 {r : Nat} : evFieldAddr Tryz.prog 102 (.ptr r 0) 3 = some (.ptr r (0 + 3)) := by kernel_rfl
theorem nf4 {r : Nat} : evFieldAddr Tryz.prog 102 (.ptr r 0) 4 = some (.ptr r (0 + 4)) := by kernel_rfl
theorem nf5 {r : Nat} : evFieldAddr Tryz.prog 102 (.ptr r 0) 5 = some (.ptr r (0 + 5)) := by kernel_rfl
theorem lf0 {r : Nat} : evFieldAddr Tryz.prog 33 (.ptr r 5) 0 = some (.ptr r 5) := by kernel_rfl
def nrow (op a b c k u n : Int) : List AV := [.v (.int .i64 op), .v (.int .i64 a), .v (.int .i64 b), .v (.int .i64 c), .v (.int .i64 k), .v (.int .i64 u), .v (.int .i64 n)]
theorem nh0 {op a b c k u n : Int} : ((nrow op a b c k u n).drop 0).head? = some (.v (.int .i64 op)) := rfl
theorem nh1 {op a b c k u n : Int} : ((nrow op a b c k u n).drop 1).head? = some (.v (.int .i64 a)) := rfl
theorem nh2 {op a b c k u n : Int} : ((nrow op a b c k u n).drop 2).head? = some (.v (.int .i64 b)) := rfl
theorem nh3 {op a b c k u n : Int} : ((nrow op a b c k u n).drop 3).head? = some (.v (.int .i64 c)) := rfl
theorem nh4 {op a b c k u n : Int} : ((nrow op a b c k u n).drop 4).head? = some (.v (.int .i64 k)) := rfl
theorem nh5 {op a b c k u n : Int} : ((nrow op a b c k u n).drop 5).head? = some (.v (.int .i64 u)) := rfl
theorem newNode {m : Mem} {op a b c k u n : Int} : newVar m m.vars.length (nrow op a b c k u n) = some (m.push (nrow op a b c k u n)) := newVar_push rfl
theorem cellsNode {op a b c k u n : Int} : cellsOf (.agg (nrow op a b c k u n)) = some (nrow op a b c k u n) := rfl
theorem loadNodeLen {m : Mem} {op a b c k u n : Int} : evLoad Tryz.prog (m.push (nrow op a b c k u n)) 33 (.ptr m.vars.length 5) = some (.agg [.v (.int .i64 u), .v (.int .i64 n)]) := by
 unfold evLoad
 simp only [ptrCells, push_var, Option.map_some]
 rw [show tAgg Tryz.prog 33 = some true by kernel_rfl, show tSize Tryz.prog 33 = some 2 by kernel_rfl]
 rfl
theorem zeroLen : evBuild Tryz.prog 33 [] = some (.agg [.v (.int .i64 0), .v (.int .i64 0)]) := by kernel_rfl
theorem niLen : noIface Tryz.prog 8 33 = true := by kernel_rfl
theorem eqLen {u n u2 n2 : Int} : eqTy Tryz.prog 8 33 (.agg [.v (.int .i64 u), .v (.int .i64 n)]) (.agg [.v (.int .i64 u2), .v (.int .i64 n2)]) = some ((u == u2) && ((n == n2) && true)) := by kernel_rfl
theorem unNd_row {cs : List AV} {x : Nd} (h : unNd cs = some x) : cs = nrow x.op x.a x.b x.c x.k x.u x.n := unNd_some h
attribute [local irreducible] Next Inside Runs Ops table nrow
attribute [local go_sem] szStr szInt Option.getD_some isNil evStr loadOne newNode cellsNode nf0 nf1 nf2 nf3 nf4 nf5 lf0 nh0 nh1 nh2 nh3 nh4 nh5 loadNodeLen zeroLen niLen eqLen Nat.zero_add
def kpRefMay : Nat → Option (List Nat) := fun _ => some [0, 1, 2, 3, 4, 5, 65, 111, 145]
attribute [go_sem] kpRefMay
def tabRefMay : List (FuncId × (List AV → Mem → Option (AV × Mem))) := [(136, upTo 4503599627370496), (43, lenMayG)]
theorem q_eq (c x : Int) (mm : Mem) : upTo c [.v (.int .i64 x)] mm = some (.v (.bool (decide (0 ≤ x ∧ x ≤ c))), mm) := rfl
theorem lm_eq (u n : Int) (mm : Mem) : lenMayG [.agg [.v (.int .i64 u), .v (.int .i64 n)]] mm = some (.v (.bool (decide (lenMay u n))), mm) := rfl
end
end Go.Proofs.YtojaokhkbmiidaaGreat.Ev
