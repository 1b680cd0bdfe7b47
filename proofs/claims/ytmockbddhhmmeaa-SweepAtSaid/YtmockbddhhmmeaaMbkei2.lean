/- Cuts; recipes that fit (what other texts have, too, for seats without those). -/
import Derived.Test.YtmockbddhhmmeaaMbkei1
import Derived.Test.YtmockbddhhmmeaaMa7
namespace Go.Proofs.Ytmockbddhhmmeaa.Ev
open Go Go.Proofs
set_option maxRecDepth 10000
set_option maxHeartbeats 8000000
set_option linter.unusedVariables false
set_option linter.unusedSimpArgs false
section
attribute [local irreducible] Next Inside Runs Ops table
theorem var_lt {m : Mem} {r : Nat} {cs : List AV} (h : m.var r = some cs) : r < m.vars.length ∧ m.vars[r]? = some (some cs) := by
 unfold Mem.var at h
 cases hx : m.vars[r]? with
 | none => rw [hx] at h; cases h
 | some y => rw [hx] at h; cases y with
  | none => cases h
  | some z =>
   cases h
   exact ⟨(List.getElem?_eq_some_iff.1 hx).1, rfl⟩
theorem var_of {m : Mem} {r : Nat} {cs : List AV} (h : m.vars[r]? = some (some cs)) : m.var r = some cs := by
 unfold Mem.var
 rw [h]
 rfl
theorem var_set_ne {m : Mem} {r q : Nat} {cs cs' : List AV} {T : List Nat} (hq : q ≠ r) (h : m.var q = some cs) : ({ vars := m.vars.set r (some cs'), toks := T } : Mem).var q = some cs := by
 apply var_of
 show (m.vars.set r _)[q]? = _
 rw [List.getElem?_set_ne (fun h => hq h.symm), (var_lt h).2]
theorem push_old {m : Mem} {q : Nat} {cs cs' : List AV} (h : m.var q = some cs) : (m.push cs').var q = some cs := by
 apply var_of
 show (m.vars ++ [_])[q]? = _
 rw [List.getElem?_append_left (var_lt h).1, (var_lt h).2]
def GrowsA (m : Mem) (g : Grow) (m' : Mem) : Prop := ∃ m1, Grows m g m1 ∧ Above m1 m'
theorem growsA_full {m : Mem} : GrowsA m .full m := ⟨m, grows_full, above_self m⟩
theorem growsA_fin {m m' : Mem} {g : Grow} (h : GrowsA m g m') : finMem m m' = m := by
 obtain ⟨m1, h1, L, rfl⟩ := h
 rcases h1 with ⟨_, rfl⟩ | ⟨v, _, rfl⟩
 ·exact above_fin ⟨L, rfl⟩
 ·unfold finMem Mem.tk
  rw [if_pos (by simp)]
  simp
theorem app_growsV {P : Program} {m : Mem} {t t2 : TypeId} {k : Nat} (ha : appB P t t2 k = true) {g : Grow} {m' : Mem} (hG : GrowsA m g m') {y : AV} {g2 : Grow} {xs ys : List (List AV)} (hy : asList k y = some (g2, ys)) (hl : xs.length + ys.length ≤ lim) :
  ∃ g' m'', evAppend P t t2 m' (.lst g k xs) y = some (.lst g' k (xs ++ ys), m'') ∧ GrowsA m g' m'' ∧ ∀ q, m''.var q = m'.var q := by
 obtain ⟨m1, h1, L, rfl⟩ := hG
 rcases h1 with ⟨rfl, rfl⟩ | ⟨v, rfl, rfl⟩
 ·refine ⟨_, _, app_of ha asList_lst hy hl, ⟨m1.tk [0], grows_tok, L, rfl⟩, fun q => rfl⟩
 ·refine ⟨_, { vars := m.vars ++ L, toks := m.toks ++ [v + 1] }, ?_, ⟨m.tk [v + 1], grows_tok, L, rfl⟩, fun q => rfl⟩
  rw [app_of ha asList_lst hy hl]
  have h : ({ vars := (m.tk [v]).vars ++ L, toks := (m.tk [v]).toks } : Mem).toks[m.toks.length]? = some v := by simp [Mem.tk]
  simp only [h, if_true]
  simp [Mem.tk, List.set_append]
theorem push_len {m : Mem} {cs : List AV} : (m.push cs).vars.length = m.vars.length + 1 := by simp [Mem.push]
theorem firstBy_yes {α : Type} {d : α} {p : α → Bool} {l : List α} {i : Nat} (hi : i < l.length) (hp : p (l.getD i d) = true) : l.any p = true := by
 rw [List.any_eq_true]
 refine ⟨_, ?_, hp⟩
 rw [List.getD, List.getElem?_eq_getElem hi]
 exact List.getElem_mem _
theorem firstBy_no {α : Type} {p : α → Bool} {l : List α} (h : firstBy p (l.drop l.length) l.length = firstBy p l 0) : l.any p = false := by
 rw [← firstBy_any p l 0, by_end h]
 rfl
theorem ops_rcut {P : Program} {call : CallF} {nt : Nat} {kp : Nat → Option (List Nat)} {ops : Array Oper} {pu : Bool} {l : List Oper} {e : Env} {m : Mem} {id : Nat} {Q : Env → Mem → Prop} (E : Env) (M : Mem)
  (h : Ops P call nt ops pu l e m fun e' m' => ∀ e2, Ev.restr (kp id) e' = e2 → e2 = E ∧ m' = M) (hk : Q E M) : Ops P call nt ops pu l e m fun e' m' => ∀ e2, Ev.restr (kp id) e' = e2 → Q e2 m' :=
 ops_cut h fun e' m' hh e2 he => by obtain ⟨a, b⟩ := hh e2 he; rw [a, b]; exact hk
theorem getD_in {α : Type} {d : α} {l : List α} {i : Nat} (h : i < l.length) : l.getD i d ∈ l := by
 rw [List.getD, List.getElem?_eq_getElem h]
 exact List.getElem_mem _
theorem runs_ops_drawn_tight {P : Program} {call : CallF} {nt : Nat} {kp : Nat → Option (List Nat)} {e : Env} {m : Mem} {Q : Ex → Env → Mem → Prop} {id : Nat} {l : List Oper} (hok : drawnOk P l = true) (hl : anyLoose P l = false) (h : Ops P call nt l.toArray false l e m fun e' m' => ∀ e2, restr (kp id) e' = e2 → Q .normal e2 m') : Runs P call nt kp (.region id l.toArray true) e m Q :=
 runs_ops_drawn_kept hok (by rw [hl]; exact h)
def okStr (s : ByteArray) : Prop := s.size ≤ 9223372036854775807
def Gs.fit (x : Gs) : Prop := okStr x.group ∧ x.nodes.length ≤ big40
def Ph.fit (x : Ph) : Prop := okStr x.name ∧ x.frozen.length ≤ big40 ∧ (∀ s ∈ x.frozen, okStr s) ∧ x.sets.length ≤ big40 ∧ ∀ s ∈ x.sets, s.fit
def Rc.fit (R : Rc) : Prop := okStr R.name ∧ (R.metrics.length ≤ big40 ∧ ∀ s ∈ R.metrics, okStr s) ∧ (R.groups.length ≤ big40 ∧ ∀ s ∈ R.groups, okStr s) ∧ (R.phases.length ≤ big40 ∧ ∀ p ∈ R.phases, p.fit) ∧ okStr R.stopMetric ∧ okStr R.plateauMetric ∧ okStr R.keepMetric
instance (s : ByteArray) : Decidable (okStr s) := by unfold okStr; exact inferInstance
instance (x : Gs) : Decidable x.fit := by unfold Gs.fit; exact inferInstance
instance (x : Ph) : Decidable x.fit := by unfold Ph.fit; exact inferInstance
instance (x : Rc) : Decidable x.fit := by unfold Rc.fit; exact inferInstance
end
section
attribute [local irreducible] Next Inside Runs Ops table
def prodL : List Nat → Nat
 | [] => 1
 | a :: r => a * prodL r
def digL : List Nat → Nat → List Nat
 | [], _ => []
 | a :: r, n => n / prodL r % a :: digL r n
theorem prodL_pos : ∀ {l : List Nat}, (∀ a ∈ l, 0 < a) → 0 < prodL l
 | [], _ => Nat.one_pos
 | a :: r, h => Nat.mul_pos (h a (List.mem_cons_self ..)) (prodL_pos fun b hb => h b (List.mem_cons_of_mem _ hb))
theorem digL_len : ∀ (l : List Nat) (n : Nat), (digL l n).length = l.length
 | [], _ => rfl
 | a :: r, n => by rw [digL, List.length_cons, digL_len r n, List.length_cons]
theorem prodL_le : ∀ {l : List Nat}, (∀ a ∈ l, a ≤ 100) → prodL l ≤ 100 ^ l.length
 | [], _ => Nat.le_refl _
 | a :: r, h => by
  rw [prodL, List.length_cons, Nat.pow_succ, Nat.mul_comm]
  exact Nat.mul_le_mul (prodL_le fun b hb => h b (List.mem_cons_of_mem _ hb)) (h a (List.mem_cons_self ..))
theorem prodL_app : ∀ (l r : List Nat), prodL (l ++ r) = prodL l * prodL r
 | [], r => by simp [prodL]
 | a :: l, r => by rw [List.cons_append, prodL, prodL, prodL_app l r, Nat.mul_assoc]
end
section
attribute [local irreducible] Next Inside Runs Ops table
attribute [local go_sem] szStr szInt Option.getD_some isNil evStr iv loadInt rowsI_len rowsAx_len mapAx cellsAx newAx ldAx fpAxVals
def inB (x lo hi : Int) : Bool := decide (lo ≤ x ∧ x ≤ hi)
def inBG : List AV → Mem → Option (AV × Mem)
 | [.v (.int .i64 x), .v (.int .i64 lo), .v (.int .i64 hi)], m => some (.v (.bool (inB x lo hi)), m)
 | _, _ => none
theorem inBG_eq {x lo hi : Int} {m : Mem} : inBG [.v (.int .i64 x), .v (.int .i64 lo), .v (.int .i64 hi)] m = some (.v (.bool (inB x lo hi)), m) := rfl
def kpInB : Nat → Option (List Nat) := fun
 | 0 => some [0, 1, 2]
 | 1 => some [6]
 | _ => none
attribute [go_sem] kpInB
theorem inB_ok : FunOk Try.prog 29 inBG := by
 have hC := table_ok (P := Try.prog) (l := []) table_nil
 refine fun_ok mixed hC Try.func29 rfl kpInB false rfl fun args m r h => ?_
 unfold inBG at h
 split at h
 ·rename_i x lo hi
  simp only [Option.some.injEq] at h
  subst h
  refine ⟨Nat.le_of_ble_eq_true rfl, ?_⟩
  refine en ?_
  have fin : ∀ (e : Env) (b : Bool), Ev.get e 6 = .v (.bool b) → b = inB x lo hi → Leaves Try.prog false Try.f29 m (.v (.bool (inB x lo hi)), m) .ret e m := fun e b h1 h2 => by rw [← h2]; exact leaves_v rfl h1
  repeat' (first | refine gos0 ?_ | (refine ops_here ?_; (fail_if_success (refine ops_case (B := true) rfl rfl rfl ?_ ?_)); (fail_if_success (refine ops_case (B := false) rfl rfl rfl ?_ ?_)); refine ops_case rfl rfl rfl (fun hB => ?_) (fun hB => ?_) <;> rw [hB]) | (refine runs_here ?_; refine runs_cond rfl (fun hc => ?_) (fun hc => ?_) <;> first | (cases hc; done) | skip))
  all_goals exact fin _ _ rfl (by unfold inB; rw [Bool.eq_iff_iff]; simp only [decide_eq_true_eq, decide_eq_false_iff_not, Bool.false_eq_true, false_iff, true_iff] at *; omega)
 ·cases h
def badVal (x : Int) : Bool := !inB x 0 4503599627370496
def badValG : List AV → Mem → Option (AV × Mem)
 | [.v (.int .i64 x)], m => some (.v (.bool (badVal x)), m)
 | _, _ => none
theorem badValG_eq (x : Int) (m : Mem) : badValG [.v (.int .i64 x)] m = some (.v (.bool (badVal x)), m) := rfl
def kpBadVal : Nat → Option (List Nat) := fun
 | 0 => some [0]
 | 1 => some [2]
 | _ => none
attribute [go_sem] kpBadVal
def tab_badVal_ok : List (FuncId × (List AV → Mem → Option (AV × Mem))) := [(29, inBG)]
theorem badVal_ok : FunOk Try.prog 36 badValG := by
 have hC := table_ok (P := Try.prog) (l := tab_badVal_ok) (table_more inB_ok table_nil)
 have t1 := fun args mm => table_at (l := tab_badVal_ok) (f := 29) (args := args) (m := mm) rfl
 refine fun_ok mixed hC Try.func36 rfl kpBadVal false rfl fun args m r h => ?_
 unfold badValG at h
 split at h
 ·rename_i x
  simp only [Option.some.injEq] at h
  subst h
  refine ⟨Nat.le_of_ble_eq_true rfl, ?_⟩
  refine en ?_
  have f1 := fun mm => inBG_eq (x := x) (lo := 0) (hi := 4503599627370496) (m := mm)
  unfold badVal
  refine go1 (jn @t1 @f1) ?_
  exact leaves_v rfl rfl
 ·cases h

def bvFindG : List AV → Mem → Option (AV × Mem)
 | [.lst _ 1 rows, .fn (.func 36) [] []], m =>
  match unJ rows with
  | some l => if l.length ≤ big40 then some (.v (.int .i64 (firstBy badVal l 0)), m) else none
  | none => none
 | _, _ => none
theorem bvFindG_eq {m : Mem} {g : Grow} {l : List Int} (h : l.length ≤ big40) : bvFindG [.lst g 1 (rowsI l), .fn (.func 36) [] []] m = some (.v (.int .i64 (firstBy badVal l 0)), m) := by
 simp only [bvFindG, unJ_rowsI]
 rw [if_pos h]
def kp_bvFind : Nat → Option (List Nat) := fun _ => some [0, 1, 4, 5, 7, 8, 9, 16]
attribute [go_sem] kp_bvFind
def tab_bvFind_ok : List (FuncId × (List AV → Mem → Option (AV × Mem))) := [(36, badValG)]
theorem bvFind_ok : FunOk Try.prog 37 bvFindG := by
 have hC := table_ok (P := Try.prog) (l := tab_bvFind_ok) (table_more badVal_ok table_nil)
 have t1 := fun args mm => table_at (l := tab_bvFind_ok) (f := 36) (args := args) (m := mm) rfl
 refine fun_ok mixed hC Try.func37 rfl kp_bvFind false rfl fun args m r h => ?_
 unfold bvFindG at h
 split at h
 ·rename_i g rows
  split at h
  ·rename_i l hl0
   obtain rfl := unJ_some hl0
   split at h
   ·rename_i hyp
    simp only [Option.some.injEq] at h
    subst h
    refine ⟨Nat.le_of_ble_eq_true rfl, ?_⟩
    refine en ?_
    have hlen := hyp
    have hlen' := hlen
    unfold big40 at hlen'
    refine go0 ?_
    refine runs_loop (fun k e m' => ∃ (i : Nat) (x5 x9 x16 : AV), i ≤ l.length ∧ firstBy badVal (l.drop i) i = firstBy badVal l 0 ∧ m = m' ∧ k = l.length - i ∧
     e = [(0, AV.lst g 1 (rowsI l)), (1, .fn (.func 36) [] []), (4, .v (.int .i64 0)), (5, x5), (7, .v (.int .i64 l.length)), (8, .v (.int .i64 (i : Int))), (9, x9), (16, x16)]) (k := l.length) ⟨0, _, _, _, Nat.zero_le _, rfl, rfl, rfl, rfl⟩ ?_
    rintro k e m' ⟨i, x5, x9, x16, hi, hf, rfl, rfl, rfl⟩
    refine go0 ?_
    refine runs_cond rfl (fun hc => ?_) (fun hc => ?_)
    ·have hi1 : i < l.length := by have := of_decide_eq_true hc; omega
     have f1 := atInts (g := g) (kk := .i64) hi1
     have f2 := fun mm => badValG_eq (l.getD i 0) mm
     refine go1 (jn @f1 (jn @t1 @f2)) ?_
     refine runs_cond rfl (fun hc => ?_) (fun hc => ?_)
     ·rw [by_yes hi1 hc hf]
      refine go0 ?_
      exact leaves_v rfl rfl
     ·have r6 := next_i64 (i := i) (by omega)
      refine go1 @r6 ?_
      exact ⟨l.length - (i + 1), by omega, i + 1, _, _, _, hi1, by_no hi1 hc hf, rfl, rfl, rfl⟩
    ·have hi1 : i = l.length := by have := of_decide_eq_false hc; omega
     subst hi1
     rw [by_end hf]
     refine go0 ?_
     exact leaves_v rfl rfl
   ·cases h
  ·cases h
 ·cases h
def bvAnyG : List AV → Mem → Option (AV × Mem)
 | [.lst _ 1 rows, .fn (.func 36) [] []], m =>
  match unJ rows with
  | some l => if l.length ≤ big40 then some (.v (.bool (l.any badVal)), m) else none
  | none => none
 | _, _ => none
theorem bvAnyG_eq {m : Mem} {g : Grow} {l : List Int} (h : l.length ≤ big40) : bvAnyG [.lst g 1 (rowsI l), .fn (.func 36) [] []] m = some (.v (.bool (l.any badVal)), m) := by
 simp only [bvAnyG, unJ_rowsI]
 rw [if_pos h]
def kp_bvAny : Nat → Option (List Nat) := fun _ => some [0, 1, 4]
attribute [go_sem] kp_bvAny
def tab_bvAny_ok : List (FuncId × (List AV → Mem → Option (AV × Mem))) := [(37, bvFindG)]
theorem bvAny_ok : FunOk Try.prog 35 bvAnyG := by
 have hC := table_ok (P := Try.prog) (l := tab_bvAny_ok) (table_more bvFind_ok table_nil)
 have t1 := fun args mm => table_at (l := tab_bvAny_ok) (f := 37) (args := args) (m := mm) rfl
 refine fun_ok mixed hC Try.func35 rfl kp_bvAny false rfl fun args m r h => ?_
 unfold bvAnyG at h
 split at h
 ·rename_i g rows
  split at h
  ·rename_i l hl0
   obtain rfl := unJ_some hl0
   split at h
   ·rename_i hyp
    simp only [Option.some.injEq] at h
    subst h
    refine ⟨Nat.le_of_ble_eq_true rfl, ?_⟩
    refine en ?_
    have f1 := fun mm => bvFindG_eq (m := mm) (g := .no) hyp
    have f3 : decide (firstBy badVal l 0 ≥ 0) = l.any badVal := firstBy_any badVal l 0
    refine go1 (jn @t1 (jn @f1 @f3)) ?_
    exact leaves_v rfl rfl
   ·cases h
  ·cases h
 ·cases h

def mayAx (x : Ax) : Bool := inB x.vals.length 1 100 && !(x.vals.any badVal)
def mayAxG : List AV → Mem → Option (AV × Mem)
 | [.agg cs], m =>
  match unAx cs with
  | some x => if x.vals.length ≤ big40 then some (.v (.bool (mayAx x)), m) else none
  | none => none
 | _, _ => none
theorem mayAxG_eq {x : Ax} {m : Mem} (h : x.vals.length ≤ big40) : mayAxG [.agg x.row] m = some (.v (.bool (mayAx x)), m) := by
 simp only [mayAxG, unAx_row]
 rw [if_pos h]
def kpMayAx : Nat → Option (List Nat) := fun
 | 0 => some [1]
 | 1 => some [2]
 | _ => none
attribute [go_sem] kpMayAx
def tab_mayAx_ok : List (FuncId × (List AV → Mem → Option (AV × Mem))) := [(29, inBG), (35, bvAnyG)]
theorem mayAx_ok : FunOk Try.prog 28 mayAxG := by
 have hC := table_ok (P := Try.prog) (l := tab_mayAx_ok) (table_more inB_ok (table_more bvAny_ok table_nil))
 have t1 := fun args mm => table_at (l := tab_mayAx_ok) (f := 29) (args := args) (m := mm) rfl
 have t2 := fun args mm => table_at (l := tab_mayAx_ok) (f := 35) (args := args) (m := mm) rfl
 refine fun_ok mixed hC Try.func28 rfl kpMayAx false rfl fun args m r h => ?_
 unfold mayAxG at h
 split at h
 ·rename_i cs
  split at h
  ·rename_i x hx
   obtain rfl := unAx_some hx
   split at h
   ·rename_i hlen
    simp only [Option.some.injEq] at h
    subst h
    refine ⟨Nat.le_of_ble_eq_true rfl, ?_⟩
    refine en ?_
    have hA := above_push (cs := x.row) (above_self m)
    have hv : (m.push x.row).var m.vars.length = some x.row := push_var
    have nr := newAx (m := m) (x := x)
    generalize m.push x.row = m1 at hA hv nr
    have l1 := lpAxVals hv
    have f1 := fun mm => inBG_eq (x := x.vals.length) (lo := 1) (hi := 100) (m := mm)
    have f2 := fun mm => bvAnyG_eq (m := mm) (g := .no) hlen
    unfold mayAx
    cases h0 : inB x.vals.length 1 100 with
    | false =>
     rw [h0] at f1
     refine go1 (jn @nr (jn @l1 (jn @t1 @f1))) ?_
     exact leaves_fin rfl rfl (above_fin hA)
    | true =>
     rw [h0] at f1
     rw [Bool.true_and]
     refine go1 (jn @nr (jn @l1 (jn @t1 (jn @f1 (jn @t2 @f2))))) ?_
     exact leaves_fin rfl rfl (above_fin hA)
   ·cases h
  ·cases h
 ·cases h
def badAx (x : Ax) : Bool := !mayAx x
def badAxG : List AV → Mem → Option (AV × Mem)
 | [.agg cs], m =>
  match unAx cs with
  | some x => if x.vals.length ≤ big40 then some (.v (.bool (badAx x)), m) else none
  | none => none
 | _, _ => none
theorem badAxG_eq (x : Ax) (m : Mem) (h : x.vals.length ≤ big40) : badAxG [.agg x.row] m = some (.v (.bool (badAx x)), m) := by
 simp only [badAxG, unAx_row]
 rw [if_pos h]
def kpBadAx : Nat → Option (List Nat) := fun
 | 0 => some [1]
 | 1 => some [2]
 | _ => none
attribute [go_sem] kpBadAx
def tab_badAx_ok : List (FuncId × (List AV → Mem → Option (AV × Mem))) := [(28, mayAxG)]
theorem badAx_ok : FunOk Try.prog 27 badAxG := by
 have hC := table_ok (P := Try.prog) (l := tab_badAx_ok) (table_more mayAx_ok table_nil)
 have t1 := fun args mm => table_at (l := tab_badAx_ok) (f := 28) (args := args) (m := mm) rfl
 refine fun_ok mixed hC Try.func27 rfl kpBadAx false rfl fun args m r h => ?_
 unfold badAxG at h
 split at h
 ·rename_i cs
  split at h
  ·rename_i x hx
   obtain rfl := unAx_some hx
   split at h
   ·rename_i hlen
    simp only [Option.some.injEq] at h
    subst h
    refine ⟨Nat.le_of_ble_eq_true rfl, ?_⟩
    refine en ?_
    have hA := above_push (cs := x.row) (above_self m)
    have hv : (m.push x.row).var m.vars.length = some x.row := push_var
    have nr := newAx (m := m) (x := x)
    generalize m.push x.row = m1 at hA hv nr
    have l1 := vrAx hv
    have f2 := fun mm => mayAxG_eq (m := mm) hlen
    unfold badAx
    refine go1 (jn @nr (jn @l1 (jn @t1 @f2))) ?_
    exact leaves_fin rfl rfl (above_fin hA)
   ·cases h
  ·cases h
 ·cases h

def baFindG : List AV → Mem → Option (AV × Mem)
 | [.lst _ 5 rows, .fn (.func 27) [] []], m =>
  match unsAx rows with
  | some l => if l.length ≤ big40 ∧ (∀ x ∈ l, x.vals.length ≤ big40) then some (.v (.int .i64 (firstBy badAx l 0)), m) else none
  | none => none
 | _, _ => none
theorem baFindG_eq {m : Mem} {g : Grow} {l : List Ax} (h : l.length ≤ big40 ∧ (∀ x ∈ l, x.vals.length ≤ big40)) : baFindG [.lst g 5 (rowsAx l), .fn (.func 27) [] []] m = some (.v (.int .i64 (firstBy badAx l 0)), m) := by
 simp only [baFindG, unsAx_rowsAx]
 rw [if_pos h]
def kp_baFind : Nat → Option (List Nat) := fun _ => some [0, 1, 4, 5, 7, 8, 9, 16]
attribute [go_sem] kp_baFind
def tab_baFind_ok : List (FuncId × (List AV → Mem → Option (AV × Mem))) := [(27, badAxG)]
theorem baFind_ok : FunOk Try.prog 34 baFindG := by
 have hC := table_ok (P := Try.prog) (l := tab_baFind_ok) (table_more badAx_ok table_nil)
 have t1 := fun args mm => table_at (l := tab_baFind_ok) (f := 27) (args := args) (m := mm) rfl
 refine fun_ok mixed hC Try.func34 rfl kp_baFind false rfl fun args m r h => ?_
 unfold baFindG at h
 split at h
 ·rename_i g rows
  split at h
  ·rename_i l hl0
   obtain rfl := unsAx_some hl0
   split at h
   ·rename_i hyp
    simp only [Option.some.injEq] at h
    subst h
    refine ⟨Nat.le_of_ble_eq_true rfl, ?_⟩
    refine en ?_
    obtain ⟨hlen, hb⟩ := hyp
    have hlen' := hlen
    unfold big40 at hlen'
    refine go0 ?_
    refine runs_loop (fun k e m' => ∃ (i : Nat) (x5 x9 x16 : AV), i ≤ l.length ∧ firstBy badAx (l.drop i) i = firstBy badAx l 0 ∧ m = m' ∧ k = l.length - i ∧
     e = [(0, AV.lst g 5 (rowsAx l)), (1, .fn (.func 27) [] []), (4, .v (.int .i64 0)), (5, x5), (7, .v (.int .i64 l.length)), (8, .v (.int .i64 (i : Int))), (9, x9), (16, x16)]) (k := l.length) ⟨0, _, _, _, Nat.zero_le _, rfl, rfl, rfl, rfl⟩ ?_
    rintro k e m' ⟨i, x5, x9, x16, hi, hf, rfl, rfl, rfl⟩
    refine go0 ?_
    refine runs_cond rfl (fun hc => ?_) (fun hc => ?_)
    ·have hi1 : i < l.length := by have := of_decide_eq_true hc; omega
     have f1 := atAx (g := g) (kk := .i64) hi1
     have f2 := fun mm => badAxG_eq (l.getD i ax0) mm (hb _ (by rw [List.getD, List.getElem?_eq_getElem hi1]; exact List.getElem_mem _))
     refine go1 (jn @f1 (jn @t1 @f2)) ?_
     refine runs_cond rfl (fun hc => ?_) (fun hc => ?_)
     ·rw [by_yes hi1 hc hf]
      refine go0 ?_
      exact leaves_v rfl rfl
     ·have r6 := next_i64 (i := i) (by omega)
      refine go1 @r6 ?_
      exact ⟨l.length - (i + 1), by omega, i + 1, _, _, _, hi1, by_no hi1 hc hf, rfl, rfl, rfl⟩
    ·have hi1 : i = l.length := by have := of_decide_eq_false hc; omega
     subst hi1
     rw [by_end hf]
     refine go0 ?_
     exact leaves_v rfl rfl
   ·cases h
  ·cases h
 ·cases h
def baAnyG : List AV → Mem → Option (AV × Mem)
 | [.lst _ 5 rows, .fn (.func 27) [] []], m =>
  match unsAx rows with
  | some l => if l.length ≤ big40 ∧ (∀ x ∈ l, x.vals.length ≤ big40) then some (.v (.bool (l.any badAx)), m) else none
  | none => none
 | _, _ => none
theorem baAnyG_eq {m : Mem} {g : Grow} {l : List Ax} (h : l.length ≤ big40 ∧ (∀ x ∈ l, x.vals.length ≤ big40)) : baAnyG [.lst g 5 (rowsAx l), .fn (.func 27) [] []] m = some (.v (.bool (l.any badAx)), m) := by
 simp only [baAnyG, unsAx_rowsAx]
 rw [if_pos h]
def kp_baAny : Nat → Option (List Nat) := fun _ => some [0, 1, 4]
attribute [go_sem] kp_baAny
def tab_baAny_ok : List (FuncId × (List AV → Mem → Option (AV × Mem))) := [(34, baFindG)]
theorem baAny_ok : FunOk Try.prog 26 baAnyG := by
 have hC := table_ok (P := Try.prog) (l := tab_baAny_ok) (table_more baFind_ok table_nil)
 have t1 := fun args mm => table_at (l := tab_baAny_ok) (f := 34) (args := args) (m := mm) rfl
 refine fun_ok mixed hC Try.func26 rfl kp_baAny false rfl fun args m r h => ?_
 unfold baAnyG at h
 split at h
 ·rename_i g rows
  split at h
  ·rename_i l hl0
   obtain rfl := unsAx_some hl0
   split at h
   ·rename_i hyp
    simp only [Option.some.injEq] at h
    subst h
    refine ⟨Nat.le_of_ble_eq_true rfl, ?_⟩
    refine en ?_
    have f1 := fun mm => baFindG_eq (m := mm) (g := .no) hyp
    have f3 : decide (firstBy badAx l 0 ≥ 0) = l.any badAx := firstBy_any badAx l 0
    refine go1 (jn @t1 (jn @f1 @f3)) ?_
    exact leaves_v rfl rfl
   ·cases h
  ·cases h
 ·cases h

end
noncomputable section
attribute [local irreducible] Next Inside Runs Ops table
attribute [local go_sem] szStr szInt Option.getD_some isNil evStr iv loadInt rowsI_len rowsAx_len mapAx cellsAx newAx ldAx zrAx zoAx znAx zsAx fpAxVals feAxVals leAxVals
/-- Few axes, not long ones. -/
def axOk (l : List Ax) : Prop := l.length ≤ 12 ∧ ∀ x ∈ l, x.vals.length ≤ 120
instance (l : List Ax) : Decidable (axOk l) := by unfold axOk; exact inferInstance
def lensA (l : List Ax) : List Nat := l.map fun x => x.vals.length
theorem lensA_len (l : List Ax) : (lensA l).length = l.length := List.length_map ..
theorem lensA_get {l : List Ax} {i : Nat} (hi : i < l.length) : (lensA l).getD i 0 = (l.getD i ax0).vals.length := by simp [lensA, List.getD, hi]
theorem prodL_next {l : List Nat} {i : Nat} (hi : i < l.length) : prodL (l.take (i + 1)) = prodL (l.take i) * l.getD i 0 := by
 rw [take_next (d := 0) hi, prodL_app, prodL, prodL, Nat.mul_one]
theorem prodL_part {l : List Nat} (h : ∀ a ∈ l, 0 < a) (i : Nat) : prodL (l.take i) ≤ prodL l := by
 conv => rhs; rw [← List.take_append_drop i l, prodL_app]
 exact Nat.le_mul_of_pos_right _ (prodL_pos fun a ha => h a (List.mem_of_mem_drop ha))
def badL (l : List Ax) : Bool := decide (l.length > 8) || l.any badAx
def overL (l : List Ax) : Bool := decide (prodL (lensA l) > 1099511627776)
def countV (l : List Ax) : Int × Int := if badL l = true then (0, 1) else if overL l = true then (0, 9) else ((prodL (lensA l) : Nat), 0)
theorem good_lens {l : List Ax} (h : badL l = false) : l.length ≤ 8 ∧ ∀ a ∈ lensA l, 0 < a ∧ a ≤ 100 := by
 unfold badL at h
 simp only [Bool.or_eq_false_iff, decide_eq_false_iff_not] at h
 obtain ⟨h1, h2⟩ := h
 refine ⟨by omega, fun a ha => ?_⟩
 obtain ⟨x, hx, rfl⟩ := List.mem_map.1 ha
 have := List.any_eq_false.1 h2 x hx
 unfold badAx mayAx inB at this
 simp only [Bool.not_eq_true', Bool.and_eq_false_iff, not_or, Bool.not_eq_false, decide_eq_true_eq] at this
 have h3 := this
 simp at h3
 omega
def countG : List AV → Mem → Option (AV × Mem)
 | [.lst _ 5 rows], m =>
  match unsAx rows with
  | some l => if axOk l then some (.tup [.v (.int .i64 (countV l).1), .v (.int .i64 (countV l).2)], m) else none
  | none => none
 | _, _ => none
theorem countG_eq {m : Mem} {g : Grow} {l : List Ax} (h : axOk l) : countG [.lst g 5 (rowsAx l)] m = some (.tup [.v (.int .i64 (countV l).1), .v (.int .i64 (countV l).2)], m) := by
 simp only [countG, unsAx_rowsAx]
 rw [if_pos h]
theorem axOk_any {l : List Ax} (h : axOk l) : l.length ≤ big40 ∧ ∀ x ∈ l, x.vals.length ≤ big40 := by
 have b40 : (120 : Nat) ≤ big40 := by decide
 exact ⟨by have := h.1; omega, fun x hx => by have := h.2 x hx; omega⟩
def kpCount : Nat → Option (List Nat) := fun
 | 0 => some [0]
 | 1 => some [0, 13]
 | 2 => some [2, 3]
 | 3 => some [0, 4]
 | 4 => some [4, 14, 15, 16]
 | 5 => some [4, 14, 15, 16, 17]
 | 6 => some [4, 6, 14, 15, 16]
 | 7 => some [4, 14, 15, 16]
 | 8 => some [4, 14, 15, 16, 26]
 | 9 => some [2, 3]
 | 10 => some [4, 14, 15, 16]
 | 11 => some [2, 3]
 | _ => none
attribute [go_sem] kpCount
def tab_count_ok : List (FuncId × (List AV → Mem → Option (AV × Mem))) := [(26, baAnyG)]
theorem count_ok : FunOk Try.prog 16 countG := by
 have hC := table_ok (P := Try.prog) (l := tab_count_ok) (table_more baAny_ok table_nil)
 have t1 := fun args mm => table_at (l := tab_count_ok) (f := 26) (args := args) (m := mm) rfl
 refine fun_ok mixed hC Try.func16 rfl kpCount false rfl fun args m r h => ?_
 unfold countG at h
 split at h
 ·rename_i g rows
  split at h
  ·rename_i l hl0
   obtain rfl := unsAx_some hl0
   split at h
   ·rename_i hok
    simp only [Option.some.injEq] at h
    subst h
    refine ⟨Nat.le_of_ble_eq_true rfl, ?_⟩
    refine en ?_
    have f1 := fun mm => baAnyG_eq (m := mm) (g := .no) (axOk_any hok)
    have h12 := hok.1
    unfold countV
    have bad : ∀ e m', badL l = true → Above m m' → Leaves Try.prog false Try.f16 m (.tup [.v (.int .i64 (if badL l = true then ((0 : Int), (1 : Int)) else if overL l = true then (0, 9) else ((prodL (lensA l) : Nat), 0)).1), .v (.int .i64 (if badL l = true then ((0 : Int), (1 : Int)) else if overL l = true then (0, 9) else ((prodL (lensA l) : Nat), 0)).2)], m) .ret ((2, .v (.int .i64 0)) :: (3, .v (.int .i64 1)) :: e) m' := fun e m' hb hA => by
     rw [if_pos hb]
     exact leaves_two rfl rfl rfl (above_fin hA)
    cases h0 : decide ((l.length : Int) > 8) with
    | true =>
     refine go1 @h0 ?_
     refine runs_cond rfl (fun hc => ?_) (fun hc => by cases hc)
     refine go0 ?_
     exact bad _ _ (by unfold badL; rw [decide_eq_true (by have := of_decide_eq_true h0; omega), Bool.true_or]) (above_self m)
    | false =>
     have hB : badL l = l.any badAx := by unfold badL; rw [decide_eq_false (by have := of_decide_eq_false h0; omega), Bool.false_or]
     cases h1 : l.any badAx with
     | true =>
      rw [h1] at f1
      refine go1 (jn @h0 (jn @t1 @f1)) ?_
      refine runs_cond rfl (fun hc => ?_) (fun hc => by cases hc)
      refine go0 ?_
      exact bad _ _ (by rw [hB, h1]) (above_self m)
     | false =>
      rw [h1] at f1
      rw [hB, h1, if_neg (by decide)]
      obtain ⟨g1, g2⟩ := good_lens (by rw [hB, h1])
      have gpos : ∀ a ∈ lensA l, 0 < a := fun a ha => (g2 a ha).1
      refine go1 (jn @h0 (jn @t1 @f1)) ?_
      refine runs_cond rfl (fun hc => by cases hc) (fun hc => ?_)
      refine go0 ?_
      refine runs_loop (fun k e m' => ∃ (i : Nat), i ≤ l.length ∧ prodL ((lensA l).take i) ≤ 1099511627776 ∧ Above m m' ∧ k = l.length - i ∧
       e = [(4, .v (.int .i64 ((prodL ((lensA l).take i) : Nat) : Int))), (14, AV.lst g 5 (rowsAx l)), (15, .v (.int .i64 (l.length : Int))), (16, .v (.int .i64 (i : Int)))]) (k := l.length) ⟨0, Nat.zero_le _, (show 1 ≤ 1099511627776 by decide), above_self m, rfl, rfl⟩ ?_
      rintro k e m' ⟨i, hi0, hle, hA, rfl, rfl⟩
      refine go0 ?_
      refine runs_cond rfl (fun hc => ?_) (fun hc => ?_)
      ·have hi1 : i < l.length := by have := of_decide_eq_true hc; omega
       have f2 := atAx (g := g) (kk := .i64) hi1
       have hN := prodL_next (l := lensA l) (i := i) (by rw [lensA_len]; exact hi1)
       rw [lensA_get hi1] at hN
       have hpart := prodL_part gpos (i + 1)
       have h120 := hok.2 _ (getD_in (d := ax0) hi1)
       have r6 := next_i64 (i := i) (by omega)
       generalize l.getD i ax0 = x at f2 hN h120
       have zs := zsAx (m := m') (x := x)
       have hA4 := above_push (cs := x.row) hA
       have hx4 : (m'.push x.row).var m'.vars.length = some x.row := push_var
       generalize m'.push x.row = m4 at zs hA4 hx4
       have l3 := lpAxVals hx4
       generalize prodL ((lensA l).take i) = p at hle hN
       obtain ⟨p2, hp2⟩ : ∃ p2, p2 = prodL ((lensA l).take (i + 1)) := ⟨_, rfl⟩
       rw [← hp2] at hN hpart
       have hmul : p * x.vals.length ≤ 1099511627776 * 120 := Nat.mul_le_mul hle h120
       have w1 : IntKind.i64.wrap ((p : Int) * (x.vals.length : Int)) = ((p2 : Nat) : Int) := by
        rw [hN]
        exact i64_wrap (n := ((p * x.vals.length : Nat) : Int)) (by omega) (by omega)
       refine go1 (jn @f2 (jn @zs (jn @l3 @w1))) ?_
       refine runs_cond rfl (fun hc2 => ?_) (fun hc2 => ?_)
       ·have h9 := of_decide_eq_true hc2
        have hO : overL l = true := by unfold overL; exact decide_eq_true (by omega)
        rw [hO, if_pos rfl]
        refine go0 ?_
        exact leaves_two rfl rfl rfl (above_fin hA4)
       ·have h9 := of_decide_eq_false hc2
        refine go1 @r6 ?_
        exact ⟨l.length - (i + 1), by omega, i + 1, hi1, by rw [← hp2]; omega, hA4, rfl, by rw [hp2]⟩
      ·have hi1 : i = (lensA l).length := by have := of_decide_eq_false hc; rw [lensA_len]; omega
       subst hi1
       rw [List.take_length] at hle
       have hO : overL l = false := by unfold overL; exact decide_eq_false (by omega)
       rw [hO, if_neg (by decide)]
       refine go0 ?_
       rw [List.take_length]
       exact leaves_two rfl rfl rfl (above_fin hA)
   ·cases h
  ·cases h
 ·cases h
end
noncomputable section
attribute [local irreducible] Next Inside Runs Ops table
attribute [local go_sem] szStr szInt Option.getD_some isNil evStr iv loadInt rowsI_len rowsAx_len mapAx cellsAx newAx ldAx fpAxVals feAxVals leAxVals mkInts0 mkInts1
theorem anyT_next {α : Type} {d : α} {f : α → Bool} {l : List α} {i : Nat} (hi : i < l.length) : (l.take (i + 1)).any f = ((l.take i).any f || f (l.getD i d)) := by
 rw [take_next (d := d) hi, List.any_append]
 simp
theorem badAx_len {x : Ax} (h : ((x.vals.length : Nat) : Int) < 1 ∨ ((x.vals.length : Nat) : Int) > 100) : badAx x = true := by
 unfold badAx mayAx inB
 rw [decide_eq_false (by omega)]
 rfl
theorem badAx_val {x : Ax} (h : x.vals.any badVal = true) : badAx x = true := by
 unfold badAx mayAx
 rw [h]
 simp
theorem badAx_not {x : Ax} (h1 : ¬ ((x.vals.length : Nat) : Int) < 1) (h2 : ¬ ((x.vals.length : Nat) : Int) > 100) (h : x.vals.any badVal = false) : badAx x = false := by
 unfold badAx mayAx inB
 rw [h, decide_eq_true (by omega)]
 rfl
theorem any_at {α : Type} {d : α} {f : α → Bool} {l : List α} {i : Nat} (hi : i < l.length) (h : f (l.getD i d) = true) : l.any f = true := List.any_eq_true.2 ⟨_, getD_in hi, h⟩
def kpRCount : Nat → Option (List Nat) := fun
 | 0 => some [0]
 | 1 => some [0, 9]
 | 2 => some [2, 3]
 | 3 => some [0, 4]
 | 4 => some [0, 4, 5]
 | 5 => some [0, 4, 5, 13]
 | 6 => some [0, 4, 5]
 | 7 => some [0, 4, 5, 31]
 | 8 => some [2, 3]
 | 9 => some [0, 4, 5, 6]
 | 10 => some [0, 4, 5, 6, 39]
 | 11 => some [0, 4, 5, 6]
 | 12 => some [0, 4, 5, 6, 61]
 | 13 => some [2, 3]
 | 14 => some [0, 4, 5]
 | 15 => some [4, 71]
 | 16 => some [2, 3]
 | 17 => some [2, 3]
 | _ => none
attribute [go_sem] kpRCount
theorem rcount_ok : FunOk Try.prog 9 countG := by
 have hC := table_ok (P := Try.prog) (l := []) table_nil
 refine fun_ok mixed hC Try.func9 rfl kpRCount false rfl fun args m r h => ?_
 unfold countG at h
 split at h
 ·rename_i g rows
  split at h
  ·rename_i l hl0
   obtain rfl := unsAx_some hl0
   split at h
   ·rename_i hok
    simp only [Option.some.injEq] at h
    subst h
    refine ⟨Nat.le_of_ble_eq_true rfl, ?_⟩
    refine en ?_
    have h12 := hok.1
    have bad : ∀ e, badL l = true → Leaves Try.prog false Try.f9 m (.tup [.v (.int .i64 (countV l).1), .v (.int .i64 (countV l).2)], m) .ret ((2, .v (.int .i64 0)) :: (3, .v (.int .i64 1)) :: e) m := fun e hb => by
     unfold countV
     rw [if_pos hb]
     exact leaves_two rfl rfl rfl (above_fin (above_self m))
    cases h0 : decide ((l.length : Int) > 8) with
    | true =>
     refine go1 @h0 ?_
     refine runs_cond rfl (fun hc => ?_) (fun hc => by cases hc)
     refine go0 ?_
     exact bad _ (by unfold badL; rw [decide_eq_true (by have := of_decide_eq_true h0; omega), Bool.true_or])
    | false =>
     have hB : badL l = l.any badAx := by unfold badL; rw [decide_eq_false (by have := of_decide_eq_false h0; omega), Bool.false_or]
     have h8 : l.length ≤ 8 := by have := of_decide_eq_false h0; omega
     refine go1 @h0 ?_
     refine runs_cond rfl (fun hc => by cases hc) (fun hc => ?_)
     refine go0 ?_
     refine runs_loop (fun k e m' => ∃ (i : Nat), i ≤ l.length ∧ (l.take i).any badAx = false ∧ prodL ((lensA l).take i) ≤ 100 ^ i ∧ m = m' ∧ k = l.length - i ∧
      e = [(0, AV.lst g 5 (rowsAx l)), (4, .v (.int .i64 ((prodL ((lensA l).take i) : Nat) : Int))), (5, .v (.int .i64 (i : Int)))]) (k := l.length) ⟨0, Nat.zero_le _, rfl, (show 1 ≤ 1 from Nat.le_refl _), rfl, rfl, rfl⟩ ?_
     rintro k e m' ⟨i, hi0, hno, hle, rfl, rfl, rfl⟩
     refine go0 ?_
     refine runs_cond rfl (fun hc => ?_) (fun hc => ?_)
     ·have hi1 : i < l.length := by have := of_decide_eq_true hc; omega
      have f2 := atAx (g := g) (kk := .i64) hi1
      have hN := prodL_next (l := lensA l) (i := i) (by rw [lensA_len]; exact hi1)
      rw [lensA_get hi1] at hN
      have hA := anyT_next (f := badAx) (d := ax0) hi1
      rw [hno, Bool.false_or] at hA
      have yes := fun h => any_at (f := badAx) (d := ax0) hi1 h
      have h120 := hok.2 _ (getD_in (d := ax0) hi1)
      have r6 := next_i64 (i := i) (by omega)
      generalize l.getD i ax0 = x at f2 hN h120 hA yes
      obtain ⟨p2, hp2⟩ : ∃ p2, p2 = prodL ((lensA l).take (i + 1)) := ⟨_, rfl⟩
      rw [← hp2] at hN
      generalize prodL ((lensA l).take i) = p at hle hN
      cases q1 : decide (((x.vals.length : Nat) : Int) < 1) with
      | true =>
       refine go1 (jn @f2 @q1) ?_
       refine runs_cond rfl (fun hc => ?_) (fun hc => by cases hc)
       refine go0 ?_
       exact bad _ (by rw [hB]; exact yes (badAx_len (.inl (of_decide_eq_true q1))))
      | false =>
       cases q2 : decide (((x.vals.length : Nat) : Int) > 100) with
       | true =>
        refine go1 (jn @f2 (jn @q1 @q2)) ?_
        refine runs_cond rfl (fun hc => ?_) (fun hc => by cases hc)
        refine go0 ?_
        exact bad _ (by rw [hB]; exact yes (badAx_len (.inr (of_decide_eq_true q2))))
       | false =>
        have n1 := of_decide_eq_false q1
        have n2 := of_decide_eq_false q2
        refine go1 (jn @f2 (jn @q1 @q2)) ?_
        refine runs_cond rfl (fun hc => by cases hc) (fun hc => ?_)
        refine go0 ?_
        refine runs_loop (fun k e m' => ∃ (j : Nat), j ≤ x.vals.length ∧ (x.vals.take j).any badVal = false ∧ m = m' ∧ k = x.vals.length - j ∧
         e = [(0, AV.lst g 5 (rowsAx l)), (4, .v (.int .i64 (p : Int))), (5, .v (.int .i64 (i : Int))), (6, .v (.int .i64 (j : Int)))]) (k := x.vals.length) ⟨0, Nat.zero_le _, rfl, rfl, rfl, rfl⟩ ?_
        rintro k e m' ⟨j, hj0, hnoj, rfl, rfl, rfl⟩
        refine go1 @f2 ?_
        refine runs_cond rfl (fun hc => ?_) (fun hc => ?_)
        ·have hj1 : j < x.vals.length := by have := of_decide_eq_true hc; omega
         have f3 := atInts (g := .no) (kk := .i64) (l := x.vals) (i := j) hj1
         have hJ := anyT_next (f := badVal) (d := 0) hj1
         rw [hnoj, Bool.false_or] at hJ
         have yesV := fun h => any_at (f := badVal) (d := 0) hj1 h
         have r7 := next_i64 (i := j) (by omega)
         generalize x.vals.getD j 0 = v at f3 hJ yesV
         cases q3 : decide (v < 0) with
         | true =>
          refine go1 (jn @f2 (jn @f3 @q3)) ?_
          refine runs_cond rfl (fun hc => ?_) (fun hc => by cases hc)
          refine go0 ?_
          exact bad _ (by rw [hB]; exact yes (badAx_val (yesV (by unfold badVal inB; rw [decide_eq_false (by have := of_decide_eq_true q3; omega)]; rfl))))
         | false =>
          cases q4 : decide (v > 4503599627370496) with
          | true =>
           refine go1 (jn @f2 (jn @f3 (jn @q3 @q4))) ?_
           refine runs_cond rfl (fun hc => ?_) (fun hc => by cases hc)
           refine go0 ?_
           exact bad _ (by rw [hB]; exact yes (badAx_val (yesV (by unfold badVal inB; rw [decide_eq_false (by have := of_decide_eq_true q4; omega)]; rfl))))
          | false =>
           refine go1 (jn @f2 (jn @f3 (jn @q3 @q4))) ?_
           refine runs_cond rfl (fun hc => by cases hc) (fun hc => ?_)
           refine go1 @r7 ?_
           exact ⟨x.vals.length - (j + 1), by omega, j + 1, hj1, by
            rw [hJ]
            unfold badVal inB
            rw [decide_eq_true (by have := of_decide_eq_false q3; have := of_decide_eq_false q4; omega)]
            rfl, rfl, rfl, rfl⟩
        ·have hj1 : j = x.vals.length := by have := of_decide_eq_false hc; omega
         subst hj1
         rw [List.take_length] at hnoj
         have hbx := badAx_not n1 n2 hnoj
         have h100 : p * x.vals.length ≤ 100 ^ i * 100 := Nat.mul_le_mul hle (by omega)
         have hpw : (100 : Nat) ^ i * 100 = 100 ^ (i + 1) := (Nat.pow_succ ..).symm
         have hpow : (100 : Nat) ^ (i + 1) ≤ 100 ^ 8 := Nat.pow_le_pow_right (by decide) (by omega)
         have e8 : (100 : Nat) ^ 8 = 10000000000000000 := by decide
         have w1 : IntKind.i64.wrap ((p : Int) * (x.vals.length : Int)) = ((p2 : Nat) : Int) := by
          rw [hN]
          exact i64_wrap (n := ((p * x.vals.length : Nat) : Int)) (by omega) (by omega)
         refine go1 (jn @f2 (jn @w1 @r6)) ?_
         exact ⟨l.length - (i + 1), by omega, i + 1, hi1, by rw [hA, hbx], by rw [← hp2]; omega, rfl, rfl, by rw [hp2]⟩
     ·have hi1 : i = (lensA l).length := by have := of_decide_eq_false hc; rw [lensA_len]; omega
      have hi2 : i = l.length := by rw [hi1, lensA_len]
      rw [hi2, List.take_length] at hno
      rw [hi1, List.take_length]
      unfold countV
      rw [hB, hno, if_neg (by decide)]
      have hO : overL l = decide (((prodL (lensA l) : Nat) : Int) > 1099511627776) := by
       unfold overL
       rw [Bool.eq_iff_iff]
       simp only [decide_eq_true_eq]
       omega
      rw [hO]
      refine go0 ?_
      refine runs_cond rfl (fun hc => ?_) (fun hc => ?_)
      ·rw [hc, if_pos rfl]
       refine go0 ?_
       exact leaves_two rfl rfl rfl (above_fin (above_self m))
      ·rw [hc, if_neg (by decide)]
       refine go0 ?_
       exact leaves_two rfl rfl rfl (above_fin (above_self m))
   ·cases h
  ·cases h
 ·cases h
end
section
attribute [local irreducible] Next Inside Runs Ops table
def iC (b : List Int) : List AV := b.map fun x => .v (.int .i64 x)
theorem iC_len (b : List Int) : (iC b).length = b.length := List.length_map ..
theorem vsAtI {r n i : Nat} {kk : IntKind} (hi : i < n) : evIndexAddr Try.prog 51 (.vs r 0 1 n n) (.v (.int kk (i : Int))) = some (.ptr r i) := by
 unfold evIndexAddr
 simp only [naInts, elInts, szInt]
 rw [if_pos ⟨trivial, by omega, by omega⟩, Int.toNat_natCast]
 simp
def setI (m : Mem) (r : Nat) (b : List Int) : Mem := { m with vars := m.vars.set r (some (iC b)) }
theorem splice_setI : ∀ (l : List Int) (i : Nat) (v : Int), i < l.length → splice (iC l) i [.v (.int .i64 v)] = iC (l.set i v)
 | [], i, v, h => by simp at h
 | a :: l, 0, v, _ => by simp [splice, iC]
 | a :: l, i + 1, v, h => by
  have := splice_setI l i v (by simpa using h)
  simp only [splice, iC, List.map_cons, List.length_cons, List.length_nil, List.take_succ_cons, List.set_cons_succ] at this ⊢
  rw [show i + 1 + (0 + 1) = (i + (0 + 1)) + 1 by omega, List.drop_succ_cons]
  simpa using this
theorem storeI {m : Mem} {r i : Nat} {b : List Int} {v : Int} (hv : m.var r = some (iC b)) (hi : i < b.length) : evStore Try.prog m 3 (.ptr r i) (.v (.int .i64 v)) = some (setI m r (b.set i v)) := by
 unfold evStore
 have h1 : cellsOf (.v (.int .i64 v)) = some [.v (.int .i64 v)] := by simp [cellsOf, flat, okCell, one]
 simp only [h1, szInt, hv]
 rw [if_pos ⟨rfl, by rw [iC_len]; exact hi, rfl⟩, splice_setI b i v hi]
 rfl
theorem makeInts {n : Nat} (h : n ≤ 4294967296) : evMakeSlice Try.prog 51 (.v (.int .i64 (n : Int))) (.v (.int .i64 (n : Int))) = some (iC (List.replicate n (0 : Int)), 1, n) := by
 have hb : tBytes Try.prog 3 = some 8 := by kernel_rfl
 have hz : zeroCells Try.prog 3 = some [.v (.int .i64 0)] := by kernel_rfl
 unfold evMakeSlice
 simp only [elInts, szInt, hb, hz]
 rw [if_pos ⟨rfl, trivial, by omega, by omega, by omega⟩, Int.toNat_natCast]
 simp [iC]
theorem newInts {m : Mem} {l : List Int} : newVar m m.vars.length (iC l) = some (m.push (iC l)) := newVar_push (by
 rw [List.all_eq_true]
 intro c hc
 obtain ⟨n, _, rfl⟩ := List.mem_map.1 hc
 rfl)
theorem cells_iC : ∀ b : List Int, (iC b).mapM rowCell = some (iC b)
 | [] => rfl
 | x :: b => by
  have := cells_iC b
  unfold iC at this ⊢
  rw [List.map_cons, List.mapM_cons]
  simp only [show rowCell (AV.v (Value.int .i64 x)) = some (AV.v (Value.int .i64 x)) from rfl, this, Option.pure_def, Option.bind_eq_bind, Option.bind_some]
theorem setI_push {m : Mem} {b c : List Int} : setI (m.push (iC b)) m.vars.length c = m.push (iC c) := by
 unfold setI Mem.push
 simp
end
noncomputable section
attribute [local irreducible] Next Inside Runs Ops table
attribute [local go_sem] szStr szInt Option.getD_some isNil evStr iv loadInt rowsI_len rowsAx_len mapAx cellsAx newAx ldAx fpAxVals feAxVals leAxVals mkInts0 mkInts1
def intsN (l : List Nat) : List Int := l.map fun (n : Nat) => (n : Int)
theorem intsN_len (l : List Nat) : (intsN l).length = l.length := List.length_map ..
def choiceL (l : List Ax) (n : Nat) : List Int := intsN (digL (lensA l) n)
theorem choiceL_len (l : List Ax) (n : Nat) : (choiceL l n).length = l.length := by rw [choiceL, intsN_len, digL_len, lensA_len]
theorem digL_get : ∀ {l : List Nat} (n : Nat) {i : Nat}, i < l.length → (digL l n).getD i 0 = n / prodL (l.drop (i + 1)) % l.getD i 0
 | [], _, _, h => by simp at h
 | a :: r, n, 0, _ => rfl
 | a :: r, n, i + 1, h => by
  have := digL_get n (l := r) (i := i) (by simpa using h)
  simpa [digL] using this
theorem choiceL_get {l : List Ax} {n i : Nat} (hi : i < l.length) : (choiceL l n).getD i 0 = ((n / prodL ((lensA l).drop (i + 1)) % (l.getD i ax0).vals.length : Nat) : Int) := by
 have h := digL_get (l := lensA l) n (i := i) (by rw [lensA_len]; exact hi)
 rw [lensA_get hi] at h
 have hl : i < (digL (lensA l) n).length := by rw [digL_len, lensA_len]; exact hi
 have e : (choiceL l n).getD i 0 = (((digL (lensA l) n).getD i 0 : Nat) : Int) := by simp [choiceL, intsN, List.getD, hl]
 rw [e, h]
theorem app_iA {m m' : Mem} {g g2 : Grow} (hG : GrowsA m g m') (xs : List Int) (y : Int) (hl : xs.length ≤ 1000000) :
  ∃ g' m'', evAppend Try.prog 51 51 m' (.lst g 1 (rowsI xs)) (.lst g2 1 [[.v (.int .i64 y)]]) = some (.lst g' 1 (rowsI (xs ++ [y])), m'') ∧ GrowsA m g' m'' ∧ ∀ q, m''.var q = m'.var q := by
 have := app_growsV appInts hG (y := .lst g2 1 [[.v (.int .i64 y)]]) asList_lst (xs := rowsI xs) (by rw [rowsI_len]; unfold lim; simp; omega)
 rwa [show rowsI xs ++ [[.v (.int .i64 y)]] = rowsI (xs ++ [y]) by simp [rowsI]] at this
def choosy (l : List Ax) : Prop := l.length ≤ 8 ∧ ∀ x ∈ l, 1 ≤ x.vals.length ∧ x.vals.length ≤ 100
instance (l : List Ax) : Decidable (choosy l) := by unfold choosy; exact inferInstance
theorem choosy_of {l : List Ax} (h : badL l = false) : choosy l := by
 obtain ⟨h1, h2⟩ := good_lens h
 refine ⟨h1, fun x hx => ?_⟩
 have := h2 x.vals.length (List.mem_map.2 ⟨x, hx, rfl⟩)
 omega
theorem choosy_lens {l : List Ax} (h : choosy l) : ∀ a ∈ lensA l, 0 < a ∧ a ≤ 100 := fun a ha => by
 obtain ⟨x, hx, rfl⟩ := List.mem_map.1 ha
 have := h.2 x hx
 omega
def rchoiceG : List AV → Mem → Option (AV × Mem)
 | [.lst _ 5 rows, .v (.int .i64 n)], m =>
  match unsAx rows with
  | some l => if choosy l ∧ 0 ≤ n ∧ n ≤ 1099511627776 then some (.lst .no 1 (rowsI (choiceL l n.toNat)), m) else none
  | none => none
 | _, _ => none
theorem rchoiceG_eq {m : Mem} {g : Grow} {l : List Ax} {n : Nat} (h : choosy l) (hn : n ≤ 1099511627776) : rchoiceG [.lst g 5 (rowsAx l), .v (.int .i64 (n : Int))] m = some (.lst .no 1 (rowsI (choiceL l n)), m) := by
 simp only [rchoiceG, unsAx_rowsAx]
 rw [if_pos ⟨h, by omega, by omega⟩, Int.toNat_natCast]
def kpRChoice : Nat → Option (List Nat) := fun
 | 0 => some [0, 1]
 | 1 => some [0, 1, 5]
 | 2 => some [0, 1, 5, 6]
 | 3 => some [0, 1, 5, 6, 13]
 | 4 => some [0, 1, 5, 6]
 | 5 => some [0, 1, 5, 6, 7]
 | 6 => some [0, 1, 5, 6, 7, 8]
 | 7 => some [0, 1, 5, 6, 7, 8, 21]
 | 8 => some [0, 1, 5, 6, 7, 8]
 | 9 => some [0, 1, 5, 6, 7, 8]
 | 10 => some [0, 1, 5, 6]
 | 11 => some [4]
 | _ => none
attribute [go_sem] kpRChoice
theorem rchoice_ok : FunOk Try.prog 14 rchoiceG := by
 have hC := table_ok (P := Try.prog) (l := []) table_nil
 refine fun_ok mixed hC Try.func14 rfl kpRChoice false rfl fun args m r h => ?_
 unfold rchoiceG at h
 split at h
 ·rename_i g rows n
  split at h
  ·rename_i l hl0
   obtain rfl := unsAx_some hl0
   split at h
   ·rename_i hyp
    obtain ⟨hok, hn0, hn1⟩ := hyp
    obtain ⟨n, rfl⟩ := Int.eq_ofNat_of_zero_le hn0
    simp only [Option.some.injEq] at h
    subst h
    refine ⟨Nat.le_of_ble_eq_true rfl, ?_⟩
    refine en ?_
    rw [Int.toNat_natCast]
    have h8 := hok.1
    have hlen := choiceL_len l n
    have hG0 : GrowsA m .full m := growsA_full
    refine go0 ?_
    refine runs_loop (fun k e m' => ∃ (i : Nat) (gr : Grow), i ≤ l.length ∧ GrowsA m gr m' ∧ k = l.length - i ∧
     e = [(0, AV.lst g 5 (rowsAx l)), (1, .v (.int .i64 (n : Int))), (5, .lst gr 1 (rowsI ((choiceL l n).take i))), (6, .v (.int .i64 (i : Int)))]) (k := l.length) ⟨0, _, Nat.zero_le _, hG0, rfl, rfl⟩ ?_
    rintro k e m' ⟨i, gr, hi0, hG, rfl, rfl⟩
    refine go0 ?_
    refine runs_cond rfl (fun hc => ?_) (fun hc => ?_)
    ·have hi1 : i < l.length := by have := of_decide_eq_true hc; omega
     have hD : ∀ a ∈ (lensA l).drop (i + 1), 0 < a ∧ a ≤ 100 := fun a ha => choosy_lens hok a (List.mem_of_mem_drop ha)
     have hDl : ((lensA l).drop (i + 1)).length = l.length - (i + 1) := by rw [List.length_drop, lensA_len]
     have r6 := next_i64 (i := i) (by omega)
     have hget := choiceL_get (n := n) hi1
     obtain ⟨D, hDe⟩ : ∃ D, D = (lensA l).drop (i + 1) := ⟨_, rfl⟩
     rw [← hDe] at hD hDl hget
     refine go1 @r6 ?_
     refine runs_loop (fun k e m'' => ∃ (q : Nat), q ≤ D.length ∧ m'' = m' ∧ k = D.length - q ∧
      e = [(0, AV.lst g 5 (rowsAx l)), (1, .v (.int .i64 (n : Int))), (5, .lst gr 1 (rowsI ((choiceL l n).take i))), (6, .v (.int .i64 (i : Int))), (7, .v (.int .i64 ((prodL (D.take q) : Nat) : Int))), (8, .v (.int .i64 ((i + 1 + q : Nat) : Int)))]) (k := D.length) ⟨0, Nat.zero_le _, rfl, rfl, rfl⟩ ?_
     rintro k e m'' ⟨q, hq0, rfl, rfl, rfl⟩
     have hple : prodL (D.take q) ≤ 100 ^ 8 := Nat.le_trans (prodL_le fun a ha => (hD a (List.mem_of_mem_take ha)).2) (Nat.pow_le_pow_right (by decide) (by rw [List.length_take]; omega))
     have e8 : (100 : Nat) ^ 8 = 10000000000000000 := by decide
     refine go0 ?_
     refine runs_cond rfl (fun hc => ?_) (fun hc => ?_)
     ·have hq1 : i + 1 + q < l.length := by have := of_decide_eq_true hc; omega
      have hqD : q < D.length := by omega
      have f2 := atAx (g := g) (kk := .i64) hq1
      have hN := prodL_next (l := D) (i := q) hqD
      have hDq : D.getD q 0 = (l.getD (i + 1 + q) ax0).vals.length := by
       rw [← lensA_get hq1, hDe]
       simp [List.getD, List.getElem?_drop]
      rw [hDq] at hN
      have h100 := (hok.2 _ (getD_in (d := ax0) hq1)).2
      have r7 := next_i64 (i := i + 1 + q) (by omega)
      generalize l.getD (i + 1 + q) ax0 = x at f2 hN h100
      obtain ⟨p2, hp2⟩ : ∃ p2, p2 = prodL (D.take (q + 1)) := ⟨_, rfl⟩
      rw [← hp2] at hN
      generalize prodL (D.take q) = p at hple hN
      have hmul : p * x.vals.length ≤ 10000000000000000 * 100 := Nat.mul_le_mul (by omega) h100
      have w1 : IntKind.i64.wrap ((p : Int) * (x.vals.length : Int)) = ((p2 : Nat) : Int) := by
       rw [hN]
       exact i64_wrap (n := ((p * x.vals.length : Nat) : Int)) (by omega) (by omega)
      refine go1 (jn @f2 (jn @w1 @r7)) ?_
      exact ⟨D.length - (q + 1), by omega, q + 1, hqD, rfl, rfl, by rw [hp2]; rfl⟩
     ·have hq1 : q = D.length := by have := of_decide_eq_false hc; omega
      subst hq1
      rw [List.take_length] at hple ⊢
      have hpos := prodL_pos fun a ha => (hD a ha).1
      have f2 := atAx (g := g) (kk := .i64) hi1
      have hT := take_next (l := choiceL l n) (d := 0) (i := i) (by omega)
      rw [hget] at hT
      have hx0 := (hok.2 _ (getD_in (d := ax0) hi1)).1
      generalize l.getD i ax0 = x at f2 hT hx0
      generalize prodL D = p at hpos hple hT
      have hp0 : ((p : Nat) : Int) ≠ 0 := by omega
      have hx1 : ((x.vals.length : Nat) : Int) ≠ 0 := by omega
      have hdl : n / p ≤ n := Nat.div_le_self ..
      obtain ⟨d, hd⟩ : ∃ d, d = n / p := ⟨_, rfl⟩
      rw [← hd] at hT hdl
      have w2 : IntKind.i64.wrap (((n : Nat) : Int).tdiv ((p : Nat) : Int)) = (d : Int) := by
       rw [show ((n : Nat) : Int).tdiv ((p : Nat) : Int) = (d : Int) by rw [hd]; rfl]
       exact i64_wrap (by omega) (by omega)
      have w3 : (d : Int).tmod ((x.vals.length : Nat) : Int) = ((d % x.vals.length : Nat) : Int) := tmod_nat _ _
      obtain ⟨g7, m7, a1, hG7, _⟩ := app_iA (g2 := .full) hG ((choiceL l n).take i) ((d % x.vals.length : Nat) : Int) (by rw [List.length_take]; omega)
      rw [← hT] at a1
      refine go0 ?_
      refine runs_ops_drawn_tight (by kernel_rfl) (by kernel_rfl) ?_
      refine go1 (jn @hp0 (jn @w2 (jn @f2 (jn @hx1 (jn @w3 (jn @a1 @r6)))))) ?_
      exact ⟨l.length - (i + 1), by omega, i + 1, g7, hi1, hG7, rfl, rfl⟩
    ·have hi1 : i = (choiceL l n).length := by have := of_decide_eq_false hc; omega
     subst hi1
     rw [List.take_length]
     refine go0 ?_
     exact leaves_lst rfl rfl (growsA_fin hG)
   ·cases h
  ·cases h
 ·cases h
end
noncomputable section
attribute [local irreducible] Next Inside Runs Ops table
attribute [local go_sem] szStr szInt Option.getD_some isNil evStr iv loadInt rowsI_len rowsAx_len mapAx cellsAx newAx ldAx fpAxVals feAxVals leAxVals mkInts0 mkInts1
theorem res_ints {m : Mem} {b : List Int} {n : Nat} (hn : n = b.length) : resAV m.vars.length (m.push (iC b)) (.vs m.vars.length 0 1 n n) = some (.lst .no 1 (rowsI b)) := by
 simp only [resAV, Nat.lt_irrefl, if_false, push_var, hn, iC_len, and_self, if_true, cells_iC, Option.map_some]
 simp [chunk1, rowsI, iC]
def choiceV (l : List Ax) (n : Int) : List Int × Int := if (countV l).2 ≠ 0 then ([], (countV l).2) else if inB n 0 ((countV l).1 - 1) = true then (choiceL l n.toNat, 0) else ([], 3)
def choiceG : List AV → Mem → Option (AV × Mem)
 | [.lst _ 5 rows, .v (.int .i64 n)], m =>
  match unsAx rows with
  | some l => if axOk l then some (.tup [.lst .no 1 (rowsI (choiceV l n).1), .v (.int .i64 (choiceV l n).2)], m) else none
  | none => none
 | _, _ => none
theorem choiceG_eq {m : Mem} {g : Grow} {l : List Ax} {n : Int} (h : axOk l) : choiceG [.lst g 5 (rowsAx l), .v (.int .i64 n)] m = some (.tup [.lst .no 1 (rowsI (choiceV l n).1), .v (.int .i64 (choiceV l n).2)], m) := by
 simp only [choiceG, unsAx_rowsAx]
 rw [if_pos h]
theorem count_ok0 {l : List Ax} (h : (countV l).2 = 0) : badL l = false ∧ (countV l).1 = ((prodL (lensA l) : Nat) : Int) ∧ prodL (lensA l) ≤ 1099511627776 := by
 unfold countV at h ⊢
 cases hb : badL l with
 | true => rw [hb, if_pos rfl] at h; cases h
 | false =>
  rw [hb, if_neg (by decide)] at h
  cases ho : overL l with
  | true => rw [ho, if_pos rfl] at h; cases h
  | false =>
   rw [if_neg (by decide), if_neg (by decide)]
   refine ⟨rfl, rfl, ?_⟩
   unfold overL at ho
   have := of_decide_eq_false ho
   omega
def kpChoice : Nat → Option (List Nat) := fun
 | 0 => some [0, 1]
 | 1 => some [0, 1, 6, 7]
 | 2 => some [0, 1, 6, 7, 15]
 | 3 => some [4, 5]
 | 4 => some [0, 1, 19]
 | 5 => some [4, 5]
 | 6 => some [0, 1, 8]
 | 7 => some [0, 1, 8, 9]
 | 8 => some [0, 1, 8, 9, 32]
 | 9 => some [0, 1, 8, 9]
 | 10 => some [0, 1, 8, 9]
 | 11 => some [0, 1, 8, 9]
 | 12 => some [4, 5]
 | _ => none
attribute [go_sem] kpChoice
def tab_choice_ok : List (FuncId × (List AV → Mem → Option (AV × Mem))) := [(16, countG), (29, inBG)]
theorem choice_ok : FunOk Try.prog 17 choiceG := by
 have hC := table_ok (P := Try.prog) (l := tab_choice_ok) (table_more count_ok (table_more inB_ok table_nil))
 have t1 := fun args mm => table_at (l := tab_choice_ok) (f := 16) (args := args) (m := mm) rfl
 have t2 := fun args mm => table_at (l := tab_choice_ok) (f := 29) (args := args) (m := mm) rfl
 refine fun_ok mixed hC Try.func17 rfl kpChoice false rfl fun args m r h => ?_
 unfold choiceG at h
 split at h
 ·rename_i g rows n
  split at h
  ·rename_i l hl0
   obtain rfl := unsAx_some hl0
   split at h
   ·rename_i hok
    simp only [Option.some.injEq] at h
    subst h
    refine ⟨Nat.le_of_ble_eq_true rfl, ?_⟩
    refine en ?_
    have f1 := fun mm => countG_eq (m := mm) (g := .no) hok
    have f2 := fun mm => inBG_eq (x := n) (lo := 0) (hi := (countV l).1 - 1) (m := mm)
    unfold choiceV
    by_cases h0 : (countV l).2 = 0
    ·obtain ⟨hb, hc1, hp⟩ := count_ok0 h0
     have hch := choosy_of hb
     have gpos : ∀ a ∈ lensA l, 0 < a := fun a ha => (choosy_lens hch a ha).1
     have hpp := prodL_pos gpos
     have b0 : ((countV l).2 != 0) = false := by rw [h0]; rfl
     have w0 : IntKind.i64.wrap ((countV l).1 - 1) = (countV l).1 - 1 := i64_wrap (by omega) (by omega)
     rw [if_neg (by simpa using h0)]
     have w1 : (!true) = false := rfl
     have w2 : (!false) = true := rfl
     cases hin : inB n 0 ((countV l).1 - 1) with
     | false =>
      rw [hin] at f2
      rw [if_neg (by decide)]
      refine go1 (jn @t1 (jn @f1 @b0)) ?_
      refine runs_cond rfl (fun hc => by cases hc) (fun hc => ?_)
      refine go1 (jn @w0 (jn @t2 (jn @f2 @w2))) ?_
      refine runs_cond rfl (fun hc => ?_) (fun hc => by cases hc)
      refine go0 ?_
      exact leaves_two rfl rfl rfl (above_fin (above_self m))
     | true =>
      rw [hin] at f2
      rw [if_pos rfl]
      have hnr := hin
      unfold inB at hnr
      have hnr := of_decide_eq_true hnr
      obtain ⟨n, rfl⟩ := Int.eq_ofNat_of_zero_le hnr.1
      rw [Int.toNat_natCast]
      have h12 := hok.1
      have hclen := choiceL_len l n
      have mk := makeInts (n := l.length) (by omega)
      have nv := newInts (m := m) (l := List.replicate l.length (0 : Int))
      have w3 : IntKind.i64.wrap (((l.length : Nat) : Int) - 1) = ((l.length : Nat) : Int) - 1 := i64_wrap (by omega) (by omega)
      refine go1 (jn @t1 (jn @f1 @b0)) ?_
      refine runs_cond rfl (fun hc => by cases hc) (fun hc => ?_)
      refine go1 (jn @w0 (jn @t2 (jn @f2 @w1))) ?_
      refine runs_cond rfl (fun hc => by cases hc) (fun hc => ?_)
      refine go1 (jn @mk (jn @nv @w3)) ?_
      refine runs_loop (fun k e m' => ∃ (q : Nat) (c : List Int), q ≤ l.length ∧ c.length = l.length ∧ (∀ j, q ≤ j → j < l.length → c.getD j 0 = (choiceL l n).getD j 0) ∧ m' = m.push (iC c) ∧ k = q ∧
       e = [(0, AV.lst g 5 (rowsAx l)), (1, .v (.int .i64 ((n / prodL ((lensA l).drop q) : Nat) : Int))), (8, .vs m.vars.length 0 1 l.length l.length), (9, .v (.int .i64 ((q : Int) - 1)))]) (k := l.length)
       ⟨l.length, _, Nat.le_refl _, by simp, fun j h1 h2 => absurd h1 (by omega), rfl, rfl, by rw [show (lensA l).drop l.length = [] from List.drop_of_length_le (by rw [lensA_len]; exact Nat.le_refl _), show prodL [] = 1 from rfl, Nat.div_one]⟩ ?_
      rintro k e m' ⟨q, c, hq0, hcl, hcs, rfl, hk, rfl⟩
      refine go0 ?_
      refine runs_cond rfl (fun hc => ?_) (fun hc => ?_)
      ·have hq1 : 1 ≤ q := by have := of_decide_eq_true hc; omega
       obtain ⟨i, rfl⟩ : ∃ i, q = i + 1 := ⟨q - 1, by omega⟩
       have hi1 : i < l.length := by omega
       have ei : (((i + 1 : Nat) : Int) - 1) = (i : Int) := by omega
       rw [ei]
       have f3 := atAx (g := g) (kk := .i64) hi1
       have hget := choiceL_get (n := n) hi1
       have hx := hch.2 _ (getD_in (d := ax0) hi1)
       have hdrop : (lensA l).drop i = (l.getD i ax0).vals.length :: (lensA l).drop (i + 1) := by
        rw [drop_next (d := 0) (by rw [lensA_len]; exact hi1), lensA_get hi1]
       have hND : n / prodL ((lensA l).drop i) = n / prodL ((lensA l).drop (i + 1)) / (l.getD i ax0).vals.length := by
        rw [hdrop, prodL, Nat.mul_comm, Nat.div_div_eq_div_mul]
       have hdl : n / prodL ((lensA l).drop (i + 1)) ≤ n := Nat.div_le_self ..
       generalize l.getD i ax0 = x at f3 hget hx hND
       obtain ⟨d, hd⟩ : ∃ d, d = n / prodL ((lensA l).drop (i + 1)) := ⟨_, rfl⟩
       rw [← hd] at hget hND hdl
       rw [← hd]
       obtain ⟨d2, hd2⟩ : ∃ d2, d2 = n / prodL ((lensA l).drop i) := ⟨_, rfl⟩
       rw [← hd2] at hND
       have hx1 : ((x.vals.length : Nat) : Int) ≠ 0 := by omega
       have w4 : ((d : Nat) : Int).tmod ((x.vals.length : Nat) : Int) = ((d % x.vals.length : Nat) : Int) := tmod_nat _ _
       have hd2l : d2 ≤ d := by rw [hND]; exact Nat.div_le_self ..
       have w5 : IntKind.i64.wrap (((d : Nat) : Int).tdiv ((x.vals.length : Nat) : Int)) = (d2 : Int) := by
        rw [show ((d : Nat) : Int).tdiv ((x.vals.length : Nat) : Int) = (d2 : Int) by rw [hND]; rfl]
        exact i64_wrap (by omega) (by omega)
       have a1 := vsAtI (r := m.vars.length) (n := l.length) (kk := .i64) hi1
       have s1 := storeI (v := ((d % x.vals.length : Nat) : Int)) (push_var (m := m) (cs := iC c)) (i := i) (by rw [hcl]; exact hi1)
       rw [setI_push] at s1
       have w6 : IntKind.i64.wrap ((i : Int) - 1) = (i : Int) - 1 := i64_wrap (by omega) (by omega)
       refine go1 (jn @f3 (jn @hx1 (jn @w4 (jn @a1 (jn @s1 (jn @w5 @w6)))))) ?_
       refine ⟨i, by omega, i, c.set i _, by omega, by rw [List.length_set, hcl], fun j h1 h2 => ?_, rfl, rfl, by rw [hd2]⟩
       by_cases hji : j = i
       ·subst hji
        rw [hget, List.getD, List.getElem?_set_self (by omega)]
        rfl
       ·have := hcs j (by omega) h2
        rw [List.getD, List.getElem?_set_ne (fun h => hji h.symm)]
        exact this
      ·have hq1 : q = 0 := by have := of_decide_eq_false hc; omega
       subst hq1
       have ec : c = choiceL l n := getD_ext (d := 0) (by rw [hcl, hclen]) fun i hi => hcs i (Nat.zero_le _) (by omega)
       subst ec
       refine go0 ?_
       exact leaves_two rfl (res_ints hclen.symm) rfl fin_push
    ·have b0 : ((countV l).2 != 0) = true := by simpa using h0
     rw [if_pos h0]
     refine go1 (jn @t1 (jn @f1 @b0)) ?_
     refine runs_cond rfl (fun hc => ?_) (fun hc => by cases hc)
     refine go0 ?_
     exact leaves_two rfl rfl rfl (above_fin (above_self m))
   ·cases h
  ·cases h
 ·cases h
def kpNumber : Nat → Option (List Nat) := fun
 | 0 => some [0, 1]
 | 1 => some [0, 1, 7]
 | 2 => some [0, 1, 7, 17]
 | 3 => some [4, 5]
 | 4 => some [0, 1, 23]
 | 5 => some [4, 5]
 | 6 => some [0, 1, 8]
 | 7 => some [0, 8, 24, 25, 26]
 | 8 => some [0, 8, 24, 25, 26, 27]
 | 9 => some [0, 8, 9, 10, 24, 25, 26]
 | 10 => some [0, 8, 9, 10, 24, 25, 26, 40]
 | 11 => some [4, 5]
 | 12 => some [0, 8, 24, 25, 26]
 | 13 => some [0, 8, 24, 25, 26]
 | 14 => some [4, 5]
 | _ => none
attribute [go_sem] kpNumber
end
end Go.Proofs.Ytmockbddhhmmeaa.Ev
