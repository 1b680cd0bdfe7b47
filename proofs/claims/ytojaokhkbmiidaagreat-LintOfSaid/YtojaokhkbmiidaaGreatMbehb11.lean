/- Trees that pass: the least and the greatest number. -/
import Derived.Test.YtojaokhkbmiidaaGreatMbehb5
import Derived.Test.YtojaokhkbmiidaaGreatMbehb6
import Derived.Test.YtojaokhkbmiidaaGreatMbehb7
import Derived.Test.YtojaokhkbmiidaaGreatMbehb10
import Derived.Test.YtojaokhkbmiidaaGreatMbehb9
namespace Go.Proofs.YtojaokhkbmiidaaGreat.Ev
open Go Go.Proofs
set_option maxRecDepth 10000
set_option maxHeartbeats 8000000
set_option linter.unusedVariables false
set_option linter.unusedSimpArgs false
section
attribute [local irreducible] Next Inside Runs Ops table
theorem endW_all9 : ∀ (xs : List Nd) (k p : Nat), (∀ x ∈ xs, x.op = 9) → endW xs (k + 1) p = -1
 | [], k, p, _ => rfl
 | x :: r, k, p, h => by
  have hx := h x (List.mem_cons_self ..)
  have ha : arityOf x.op = 2 := by rw [hx]; rfl
  rw [endW, ha, if_neg (by omega)]
  have := endW_all9 r (k + 1) (p + 1) fun y hy => h y (List.mem_cons_of_mem _ hy)
  first | exact this | (rw [show k + (2 : Int).toNat = k + 1 + 1 from rfl]; exact this)
theorem any_badN {l : List Nd} (h : l.any badN = false) {x : Nd} (hx : x ∈ l) : mayN x := by
 have := List.any_eq_false.1 h x hx
 simpa [badN] using this
theorem checkT_parts {l : List Nd} (h : checkT l = 0) : 0 < l.length ∧ l.length ≤ 64 ∧ endOf l 0 = (l.length : Int) ∧ ∀ x ∈ l, mayN x := by
 unfold checkT at h
 split at h
 ·cases h
 ·split at h
  ·cases h
  ·split at h
   ·cases h
   ·rename_i h1 h2 h3
    have hw : wholeB l = true := by
     cases hw : wholeB l with
     | true => rfl
     | false => exact absurd (.inl hw) h2
    have hb : l.any badN = false := by
     cases hb : l.any badN with
     | false => rfl
     | true => exact absurd (.inr hb) h2
    unfold wholeB at hw
    simp only [Bool.and_eq_true, decide_eq_true_eq] at hw
    exact ⟨hw.1.1, hw.1.2, hw.2, fun x hx => any_badN hb hx⟩
theorem nums_ends {l : List Nd} (h : ∀ x ∈ l, mayN x) : l.flatMap numsN = l.flatMap endsN := by
 induction l with
 | nil => rfl
 | cons x l ih =>
  rw [List.flatMap_cons, List.flatMap_cons, ih fun y hy => h y (List.mem_cons_of_mem _ hy)]
  have hx := h x (List.mem_cons_self ..)
  unfold mayN at hx
  rw [numsN_ends ⟨hx.1, hx.2.1⟩]
theorem endsN_in {x : Nd} (h : mayN x) : ∀ y ∈ endsN x, 0 ≤ y ∧ y ≤ 4503599627370496 := by
 unfold mayN inQ at h
 intro y hy
 unfold endsN at hy
 split at hy
 ·simp at hy
 ·split at hy
  ·simp at hy; omega
  ·split at hy
   ·simp at hy; omega
   ·simp at hy; omega
theorem endsN_some {x : Nd} (h : x.op ≠ 9) : x.a ∈ endsN x := by
 unfold endsN
 rw [if_neg h]
 split <;> (try split) <;> simp
theorem nums_some {l : List Nd} (h : checkT l = 0) : ∃ y, y ∈ l.flatMap endsN := by
 obtain ⟨h0, h64, he, hm⟩ := checkT_parts h
 by_cases hall : ∀ x ∈ l, x.op = 9
 ·have := endW_all9 l 0 0 hall
  rw [show (0 : Int) = ((0 : Nat) : Int) from rfl, endOf_nat, List.drop_zero] at he
  rw [Nat.zero_add] at this
  omega
 ·simp only [Classical.not_forall] at hall
  obtain ⟨x, hx, h9⟩ := hall
  exact ⟨x.a, List.mem_flatMap.2 ⟨x, hx, endsN_some h9⟩⟩
/-- What the law holds against the numbers. -/
theorem lohi_best {l : List Nd} (h : checkT l = 0) : (∀ y ∈ l.flatMap numsN, (endsL l).1 ≤ y ∧ y ≤ (endsL l).2) ∧ (endsL l).1 ∈ l.flatMap numsN ∧ (endsL l).2 ∈ l.flatMap numsN := by
 obtain ⟨h0, h64, he, hm⟩ := checkT_parts h
 rw [nums_ends hm, show endsL l = lohi (4503599627370496, 0) (l.flatMap endsN) from if_pos h]
 obtain ⟨⟨a1, a2, a3⟩, b1, b2, b3⟩ := lohi_spec (l.flatMap endsN) (4503599627370496, 0)
 have hin : ∀ y ∈ l.flatMap endsN, 0 ≤ y ∧ y ≤ 4503599627370496 := fun y hy => by
  obtain ⟨x, hx, hy⟩ := List.mem_flatMap.1 hy
  exact endsN_in (hm x hx) y hy
 obtain ⟨y, hy⟩ := nums_some h
 have hy2 := hin y hy
 refine ⟨fun z hz => ⟨a2 z hz, b2 z hz⟩, ?_, ?_⟩
 ·rcases a3 with a3 | a3
  ·have e : y = (lohi (4503599627370496, 0) (l.flatMap endsN)).1 := by have := a2 y hy; simp only at a3; omega
   rw [← e]; exact hy
  ·exact a3
 ·rcases b3 with b3 | b3
  ·have e : y = (lohi (4503599627370496, 0) (l.flatMap endsN)).2 := by have := b2 y hy; simp only at b3; omega
   rw [← e]; exact hy
  ·exact b3
def bigN (l : List Nd) : Bool := (l.flatMap numsN).any fun y => decide (y > 4294967296)
theorem high_big {l : List Nd} (h : checkT l = 0) : decide ((endsL l).2 > 4294967296) = bigN l := by
 obtain ⟨h1, _, h3⟩ := lohi_best h
 unfold bigN
 rw [Bool.eq_iff_iff]
 simp only [decide_eq_true_eq, List.any_eq_true]
 exact ⟨fun hb => ⟨_, h3, hb⟩, fun ⟨y, hy, hb⟩ => by have := (h1 y hy).2; omega⟩
theorem highS_big {s : Gs} (h : checkT s.nodes = 0) : highS s = ((s.param != 0) && bigN s.nodes) := by
 unfold highS
 rw [high_big h]
/-! ### cuts -/
theorem ops_rcut {P : Program} {call : CallF} {nt : Nat} {kp : Nat → Option (List Nat)} {ops : Array Oper} {pu : Bool} {l : List Oper} {e : Env} {m : Mem} {id : Nat} {Q : Env → Mem → Prop} (E : Env) (M : Mem)
  (h : Ops P call nt ops pu l e m fun e' m' => ∀ e2, Ev.restr (kp id) e' = e2 → e2 = E ∧ m' = M) (hk : Q E M) : Ops P call nt ops pu l e m fun e' m' => ∀ e2, Ev.restr (kp id) e' = e2 → Q e2 m' :=
 ops_cut h fun e' m' hh e2 he => by obtain ⟨a, b⟩ := hh e2 he; rw [a, b]; exact hk
/-- A cut behind a piece of code: what holds there. -/
theorem runs_icut {P : Program} {call : CallF} {nt : Nat} {kp : Nat → Option (List Nat)} {c : Code} {e : Env} {m : Mem} {Q : Ex → Env → Mem → Prop} (I : Env → Mem → Prop) (h : Runs P call nt kp c e m fun x e2 m2 => x = .normal ∧ I e2 m2) (hk : ∀ e2 m2, I e2 m2 → Q .normal e2 m2) : Runs P call nt kp c e m Q :=
 runs_mono h fun x e2 m2 ⟨h1, h2⟩ => by rw [h1]; exact hk _ _ h2
theorem firstAt_app2 (p : ByteArray → Bool) : ∀ (l1 l2 : List ByteArray) (j : Nat), firstAt p (l1 ++ l2) j = if l1.any p then firstAt p l1 j else firstAt p l2 (j + l1.length)
 | [], l2, j => by simp
 | s :: l1, l2, j => by
  rw [List.cons_append, firstAt]
  cases h : p s with
  | true => simp [firstAt, h]
  | false =>
   rw [if_neg (by simp), firstAt_app2 p l1 l2 (j + 1)]
   simp only [List.any_cons, h, Bool.false_or, List.length_cons, firstAt, Bool.false_eq_true, if_false]
   rw [show j + 1 + l1.length = j + (l1.length + 1) by omega]
theorem place_take {l : List ByteArray} {i : Nat} (hi : i < l.length) : decide (0 ≤ placeOf (l.take i) (l.getD i ⟨#[]⟩)) = decide (placeOf l (l.getD i ⟨#[]⟩) < (i : Int)) := by
 unfold placeOf
 rw [firstAt_any]
 have e : l = l.take i ++ l.drop i := (List.take_append_drop i l).symm
 have hlen : (l.take i).length = i := by rw [List.length_take]; omega
 generalize hx : l.getD i ⟨#[]⟩ = x
 have e2 : firstAt (fun y => decide (y = x)) l 0 = if (l.take i).any (fun y => decide (y = x)) then firstAt (fun y => decide (y = x)) (l.take i) 0 else (i : Int) := by
  conv => lhs; rw [e]
  rw [firstAt_app2, hlen, drop_next (d := ⟨#[]⟩) hi, hx, firstAt]
  simp
 rw [e2]
 cases h : (l.take i).any fun y => decide (y = x) with
 | true =>
  rw [if_pos rfl]
  have := (firstAt_in (fun y => decide (y = x)) (l.take i) 0).2
  rw [hlen] at this
  exact (decide_eq_true (by omega)).symm
 | false => simp
theorem place_self {l : List ByteArray} {i : Nat} (hi : i < l.length) : (!(placeOf l (l.getD i ⟨#[]⟩) == (i : Int))) = decide (placeOf l (l.getD i ⟨#[]⟩) < (i : Int)) := by
 have hle : placeOf l (l.getD i ⟨#[]⟩) ≤ (i : Int) := by
  unfold placeOf
  have e : l = l.take i ++ l.drop i := (List.take_append_drop i l).symm
  have hlen : (l.take i).length = i := by rw [List.length_take]; omega
  generalize hx : l.getD i ⟨#[]⟩ = x
  have e2 : firstAt (fun y => decide (y = x)) l 0 = if (l.take i).any (fun y => decide (y = x)) then firstAt (fun y => decide (y = x)) (l.take i) 0 else (i : Int) := by
   conv => lhs; rw [e]
   rw [firstAt_app2, hlen, drop_next (d := ⟨#[]⟩) hi, hx, firstAt]
   simp
  rw [e2]
  split
  ·have := (firstAt_in (fun y => decide (y = x)) (l.take i) 0).2
   rw [hlen] at this
   omega
  ·omega
 rw [Bool.eq_iff_iff]
 simp only [Bool.not_eq_true', beq_eq_false_iff_ne, decide_eq_true_eq]
 omega
theorem place_any {l : List ByteArray} {i : Nat} (hi : i < l.length) : (l.take i).any (fun y => decide (y = l.getD i ⟨#[]⟩)) = decide (placeOf l (l.getD i ⟨#[]⟩) < (i : Int)) := by
 rw [← place_take hi]
 exact (firstAt_any _ _ 0).symm
theorem runs_xcut {P : Program} {call : CallF} {nt : Nat} {kp : Nat → Option (List Nat)} {c : Code} {e : Env} {m : Mem} {Q : Ex → Env → Mem → Prop} (x0 : Ex) (I : Env → Mem → Prop) (h : Runs P call nt kp c e m fun x e2 m2 => x = x0 ∧ I e2 m2) (hk : ∀ e2 m2, I e2 m2 → Q x0 e2 m2) : Runs P call nt kp c e m Q :=
 runs_mono h fun x e2 m2 ⟨h1, h2⟩ => by rw [h1]; exact hk _ _ h2
end
section
attribute [local irreducible] Next Inside Runs Ops table
attribute [local go_sem] szStr szInt Option.getD_some isNil evStr iv loadStr loadInt mapRc cellsRc newRc fpRcPhases fpRcGroups rowsPh_len rowsGs_len rowsN_len rowsI_len ldPh ldGs ldNode cellsPh cellsGs cellsNd zrPh zoPh znPh zsPh zrGs zoGs znGs zsGs fpPhSets fpPhFrozen fpGsGroup fpGsParam fpGsNodes fpNdOp fpNdA fpNdB fpNdK feGsParam leGsParam leGsGroup feGsGroup
def zeroNd : List AV := [.v (.int .i64 0), .v (.int .i64 0), .v (.int .i64 0), .v (.int .i64 0), .v (.int .i64 0), .v (.int .i64 0), .v (.int .i64 0)]
theorem zrNd : zeroCells Tryz.prog 102 = some zeroNd := by kernel_rfl
attribute [local go_sem] zrNd
theorem zoNd : zeroNd.all okCell = true := rfl
attribute [local go_sem] zoNd
theorem znNd {m : Mem} : newVar m m.vars.length zeroNd = some (m.push zeroNd) := newVar_push rfl
attribute [local go_sem] znNd
theorem zsNd {m : Mem} {x : Nd} : evStore Tryz.prog (m.push zeroNd) 102 (.ptr m.vars.length 0) (.agg x.row) = some (m.push x.row) := by
 rw [store_push (cs := x.row) rfl szNode (Nat.le_refl _) rfl]
 rfl
attribute [local go_sem] zsNd
def Rc.setOk (R : Rc) (rule : Int) (i k : Nat) : Bool :=
 if rule = 11 then !setBad R (R.phases.getD i ph0) k else
 if rule = 13 then !((((R.phases.getD i ph0).sets.getD k gs0).param != 0) && bigN ((R.phases.getD i ph0).sets.getD k gs0).nodes) else
 !bentS ((R.phases.getD i ph0).sets.getD k gs0)
def setOkG : List AV → Mem → Option (AV × Mem)
 | [.agg cs, .v (.int .i64 rule), .v (.int .i64 i), .v (.int .i64 k)], m =>
  match unRc cs with
  | some R => if R.small ∧ (rule = 11 ∨ rule = 12 ∨ rule = 13) ∧ 0 ≤ i ∧ i < (R.phases.length : Int) ∧ 0 ≤ k ∧ k < ((R.phases.getD i.toNat ph0).sets.length : Int) then some (.v (.bool (R.setOk rule i.toNat k.toNat)), m) else none
  | none => none
 | _, _ => none
theorem setOkG_at {R : Rc} {m : Mem} {rule : Int} {i k : Nat} (h : R.small) (h1 : rule = 11 ∨ rule = 12 ∨ rule = 13) (h2 : i < R.phases.length) (h3 : k < (R.phases.getD i ph0).sets.length) : setOkG [.agg R.row, .v (.int .i64 rule), .v (.int .i64 (i : Int)), .v (.int .i64 (k : Int))] m = some (.v (.bool (R.setOk rule i k)), m) := by
 simp only [setOkG, unRc_row]
 rw [if_pos ⟨h, h1, by omega, by omega, by omega, by rw [Int.toNat_natCast]; omega⟩, Int.toNat_natCast, Int.toNat_natCast]
theorem among_place (l : List ByteArray) (s : ByteArray) : decide (placeOf l s ≥ 0) = among l s := place_in l s
theorem place_neg (l : List ByteArray) (s : ByteArray) : decide (placeOf l s < 0) = !among l s := by
 rw [← place_in, Bool.eq_iff_iff]
 simp only [decide_eq_true_eq, Bool.not_eq_true', decide_eq_false_iff_not]
 omega
def keyB (s x : Gs) : Bool := (x.group == s.group) && (x.param == s.param)
theorem dup_by {l : List Gs} {k : Nat} : dupAt l k = decide (0 ≤ firstBy (keyB (l.getD k gs0)) (l.take k) 0) := by
 rw [firstBy_any]
 unfold dupAt cnt
 rw [Bool.eq_iff_iff]
 simp only [decide_eq_true_eq, List.length_pos_iff_exists_mem, List.mem_filter, List.any_eq_true, keyB, Bool.and_eq_true, bytes_same, beq_iff_eq, keyOf, Prod.mk.injEq]
theorem bentN_ops (x : Nd) : bentN x = ((((x.op == 3) || (x.op == 7)) && (decide (x.k < 1) || decide (x.k > 16))) || ((x.op == 4) && (decide (x.b > x.a) || decide (x.k > 4294967296)))) := by
 unfold bentN
 rw [Bool.eq_iff_iff]
 split
 ·rename_i h
  simp only [Bool.not_eq_true', decide_eq_false_iff_not, Bool.or_eq_true, Bool.and_eq_true, beq_iff_eq, decide_eq_true_eq]
  omega
 ·split
  ·simp only [Bool.or_eq_true, Bool.and_eq_true, beq_iff_eq, decide_eq_true_eq]
   omega
  ·rename_i h1 h2
   have a3 : ¬ x.op = 3 := fun h => h1 (.inl h)
   have a7 : ¬ x.op = 7 := fun h => h1 (.inr h)
   simp only [Bool.false_eq_true, Bool.or_eq_true, Bool.and_eq_true, beq_iff_eq, a3, a7, h2, false_or, false_and]
theorem firstBy_no {α : Type} {p : α → Bool} {l : List α} (h : firstBy p (l.drop l.length) l.length = firstBy p l 0) : l.any p = false := by
 rw [← firstBy_any p l 0, by_end h]
 rfl
theorem firstBy_yes {α : Type} {d : α} {p : α → Bool} {l : List α} {i : Nat} (hi : i < l.length) (hp : p (l.getD i d) = true) : l.any p = true := by
 rw [List.any_eq_true]
 refine ⟨_, ?_, hp⟩
 rw [List.getD, List.getElem?_eq_getElem hi]
 exact List.getElem_mem _
def kpSet20 : Nat → Option (List Nat) := fun
 | 0 => some [1, 2, 3, 4]
 | 1 => some [1, 3, 4, 9]
 | 2 => some [1, 3, 4, 9, 10]
 | 3 => some [1, 3, 4, 9, 10, 27]
 | 4 => some [3, 4, 9, 10, 11]
 | 5 => some [3, 4, 9, 10, 11, 30]
 | 6 => some [3, 4, 9, 10, 11]
 | 7 => some [3, 4, 9, 10, 11, 52]
 | 8 => some [8]
 | 9 => some [8]
 | 10 => some [10, 68]
 | 11 => some [10, 12]
 | 12 => some [10, 12, 13]
 | 13 => some [10, 12, 13, 80]
 | 14 => some [10, 12, 13]
 | 15 => some [10, 12, 13, 87]
 | 16 => some [8]
 | 17 => some [8]
 | 18 => some [10, 14]
 | 19 => some [10, 14, 92]
 | 20 => some [10, 14]
 | 21 => some [10, 14, 15]
 | 22 => some [10, 14, 134]
 | 23 => some [8]
 | 24 => some [8]
 | _ => none
attribute [go_sem] kpSet20
def tab_set20_ok : List (FuncId × (List AV → Mem → Option (AV × Mem))) := [(93, placeG), (116, numsG)]
theorem set20_ok : FunOk Tryz.prog 101 setOkG := by
 have hC := table_ok (P := Tryz.prog) (l := tab_set20_ok) (table_more refPlace_ok (table_more nums_ok table_nil))
 have t1 := fun args mm => table_at (l := tab_set20_ok) (f := 93) (args := args) (m := mm) rfl
 have t2 := fun args mm => table_at (l := tab_set20_ok) (f := 116) (args := args) (m := mm) rfl
 refine fun_ok mixed hC Tryz.func101 rfl kpSet20 false rfl fun args m r h => ?_
 unfold setOkG at h
 split at h
 ·rename_i cs rule i0 k0
  split at h
  ·rename_i R hR
   obtain rfl := unRc_some hR
   split at h
   ·rename_i hyp
    obtain ⟨hsm, hrule, hi0, hi1, hk0, hk1⟩ := hyp
    obtain ⟨i, rfl⟩ := Int.eq_ofNat_of_zero_le hi0
    obtain ⟨k, rfl⟩ := Int.eq_ofNat_of_zero_le hk0
    simp only [Int.toNat_natCast] at hk1 h
    simp only [Option.some.injEq] at h
    subst h
    refine ⟨Nat.le_of_ble_eq_true rfl, ?_⟩
    refine en ?_
    have hi : i < R.phases.length := by omega
    have hk : k < (R.phases.getD i ph0).sets.length := by omega
    have hP64 := hsm.2.2.1
    have hG64 := hsm.2.1
    have hp := hsm.phase i
    have hA := above_push (cs := R.row) (above_self m)
    have hv : (m.push R.row).var m.vars.length = some R.row := push_var
    have f1 := atPh (g := .no) (kk := .i64) hi
    have l1 := lpRcPhases hv
    have nr := newRc (m := m) (x := R)
    generalize m.push R.row = m1 at hA hv l1 nr
    have hok : R.setOk rule i k = if rule = 11 then !setBad R (R.phases.getD i ph0) k else if rule = 13 then !((((R.phases.getD i ph0).sets.getD k gs0).param != 0) && bigN ((R.phases.getD i ph0).sets.getD k gs0).nodes) else !bentS ((R.phases.getD i ph0).sets.getD k gs0) := rfl
    generalize R.phases.getD i ph0 = p at f1 hk hp hok
    have z1 := zsPh (m := m1) (x := p)
    have z2 := znPh (m := m1)
    have hA2 := above_push (cs := p.row) hA
    have hv2 := push_old (cs' := p.row) hv
    have hp2 : (m1.push p.row).var m1.vars.length = some p.row := push_var
    have l2 := lpPhSets hp2
    have f2 := atGs (g := .no) (kk := .i64) hk
    generalize m1.push p.row = m2 at z1 hA2 hv2 hp2 l2
    have hs : (p.sets.getD k gs0).nodes.length ≤ 100 := hp.2.2 _ (by rw [List.getD, List.getElem?_eq_getElem hk]; exact List.getElem_mem _)
    have hdup := dup_by (l := p.sets) (k := k)
    have hbad : setBad R p k = (!among R.groups (p.sets.getD k gs0).group || (among p.frozen (p.sets.getD k gs0).group || dupAt p.sets k)) := rfl
    rw [hbad, hdup] at hok
    clear hbad hdup
    generalize p.sets.getD k gs0 = s at f2 hs hok
    have z3 := zsGs (m := m2) (x := s)
    have z4 := znGs (m := m2)
    have hA3 := above_push (cs := s.row) hA2
    have hv3 := push_old (cs' := s.row) hv2
    have hp3 := push_old (cs' := s.row) hp2
    have hs3 : (m2.push s.row).var m2.vars.length = some s.row := push_var
    generalize m2.push s.row = m3 at z3 hA3 hv3 hp3 hs3
    have g1 := lpPhSets hp3
    have g2 := lpPhFrozen hp3
    have g3 := lpGsGroup hs3
    have g4 := lpGsParam hs3
    have g5 := lpGsNodes hs3
    have g6 := lpRcGroups hv3
    have yes11 : ∀ j : Nat, j < k → j < p.sets.length := fun j hj => by omega
    have hp2' := hp.2.1
    generalize hD : decide (0 ≤ firstBy (keyB s) (p.sets.take k) 0) = D at hok
    rw [hok]
    rcases hrule with rfl | rfl | rfl
    ·rw [if_pos rfl]
     have b11 : ((11 : Int) == 11) = true := rfl
     refine go1 (jn @nr (jn @l1 (jn @f1 (jn @z2 (jn @z1 (jn @l2 (jn @f2 (jn @z4 (jn @z3 @b11))))))))) ?_
     refine runs_cond rfl (fun hc => ?_) (fun hc => by cases hc)
     refine go0 ?_
     have hlen : (p.sets.take k).length = k := by rw [List.length_take]; omega
     refine runs_loop (fun kk e m' => ∃ (j : Nat), j ≤ k ∧ firstBy (keyB s) ((p.sets.take k).drop j) j = firstBy (keyB s) (p.sets.take k) 0 ∧ m3 = m' ∧ kk = k - j ∧
      e = [(3, .v (.int .i64 (k : Int))), (4, AV.ptr m.vars.length 0), (9, .ptr m1.vars.length 0), (10, .ptr m2.vars.length 0), (11, .v (.int .i64 (j : Int)))]) (k := k) ⟨0, Nat.zero_le _, rfl, rfl, rfl, rfl⟩ ?_
     rintro kk e m' ⟨j, hj0, hf, rfl, rfl, rfl⟩
     refine go0 ?_
     refine runs_cond rfl (fun hc => ?_) (fun hc => ?_)
     ·have hj1 : j < k := by have := of_decide_eq_true hc; omega
      have f3 := atGs (g := .no) (kk := .i64) (yes11 j hj1)
      have hj2 : j < (p.sets.take k).length := by omega
      have hget : (p.sets.take k).getD j gs0 = p.sets.getD j gs0 := by simp [List.getD, List.getElem?_take, hj1]
      have hyes := fun hp => by_yes (d := gs0) hj2 hp hf
      have hno := fun hp => by_no (d := gs0) hj2 hp hf
      rw [hget] at hyes hno
      have r6 := next_i64 (i := j) (by omega)
      generalize p.sets.getD j gs0 = x at f3 hyes hno
      have hkey : keyB s x = ((x.group == s.group) && (x.param == s.param)) := rfl
      refine go0 ?_
      refine runs_ops_drawn_kept (by kernel_rfl) ?_
      cases ha : (x.group == s.group) with
      | false =>
       have hn := hno (by rw [hkey, ha]; rfl)
       refine go1 (jn @g1 (jn @f3 (jn @g3 @ha))) ?_
       refine runs_cond rfl (fun hc => by cases hc) (fun hc => ?_)
       refine go1 @r6 ?_
       exact ⟨k - (j + 1), by omega, j + 1, hj1, hn, rfl, rfl, rfl⟩
      | true =>
       cases hb : (x.param == s.param) with
       | false =>
        have hn := hno (by rw [hkey, ha, hb]; rfl)
        refine go1 (jn @g1 (jn @f3 (jn @g3 (jn @g4 (jn @ha @hb))))) ?_
        refine runs_cond rfl (fun hc => by cases hc) (fun hc => ?_)
        refine go1 @r6 ?_
        exact ⟨k - (j + 1), by omega, j + 1, hj1, hn, rfl, rfl, rfl⟩
       | true =>
        have hy := hyes (by rw [hkey, ha, hb]; rfl)
        rw [show D = true by rw [← hD, hy]; exact decide_eq_true (by omega), Bool.or_true, Bool.or_true]
        refine go1 (jn @g1 (jn @f3 (jn @g3 (jn @g4 (jn @ha @hb))))) ?_
        refine runs_cond rfl (fun hc => ?_) (fun hc => by cases hc)
        refine go0 ?_
        exact leaves_fin rfl rfl (above_fin hA3)
     ·have hj1 : j = k := by have := of_decide_eq_false hc; omega
      subst hj1
      rw [show D = false by rw [← hD, by_end (by rw [hlen]; exact hf)]; rfl, Bool.or_false]
      have c1 := fun mm => placeG_eq (m := mm) (g := .no) (s := s.group) (show R.groups.length ≤ 9223372036854775807 by omega)
      have c2 := fun mm => placeG_eq (m := mm) (g := .no) (s := s.group) (show p.frozen.length ≤ 9223372036854775807 by omega)
      have d1 := among_place R.groups s.group
      have d2 := place_neg p.frozen s.group
      generalize placeOf R.groups s.group = q1 at c1 d1
      generalize placeOf p.frozen s.group = q2 at c2 d2
      cases ha : among R.groups s.group with
      | true =>
       rw [ha] at d1
       rw [show (!(!true || among p.frozen s.group)) = !among p.frozen s.group from by cases among p.frozen s.group <;> rfl]
       refine go1 (jn @g6 (jn @g3 (jn @t1 (jn @c1 (jn @d1 (jn @g2 (jn @c2 @d2))))))) ?_
       exact leaves_fin rfl rfl (above_fin hA3)
      | false =>
       rw [ha] at d1
       refine go1 (jn @g6 (jn @g3 (jn @t1 (jn @c1 @d1)))) ?_
       exact leaves_fin rfl rfl (above_fin hA3)
    ·rw [if_neg (by decide), if_neg (by decide)]
     have b11 : ((12 : Int) == 11) = false := rfl
     have b13 : ((12 : Int) == 13) = false := rfl
     refine go1 (jn @nr (jn @l1 (jn @f1 (jn @z2 (jn @z1 (jn @l2 (jn @f2 (jn @z4 (jn @z3 @b11))))))))) ?_
     refine runs_cond rfl (fun hc => by cases hc) (fun hc => ?_)
     refine go1 @b13 ?_
     refine runs_cond rfl (fun hc => by cases hc) (fun hc => ?_)
     refine go0 ?_
     unfold bentS
     refine runs_loop (fun kk e m' => ∃ (j : Nat), j ≤ s.nodes.length ∧ firstBy bentN (s.nodes.drop j) j = firstBy bentN s.nodes 0 ∧ Above m m' ∧ m'.var m2.vars.length = some s.row ∧ kk = s.nodes.length - j ∧
      e = [(10, AV.ptr m2.vars.length 0), (14, .v (.int .i64 (j : Int)))]) (k := s.nodes.length) ⟨0, Nat.zero_le _, rfl, hA3, hs3, rfl, rfl⟩ ?_
     rintro kk e m' ⟨j, hj0, hf, hA4, hs4, rfl, rfl⟩
     have l4 := lpGsNodes hs4
     refine go1 @l4 ?_
     refine runs_cond rfl (fun hc => ?_) (fun hc => ?_)
     ·have hj1 : j < s.nodes.length := by have := of_decide_eq_true hc; omega
      have f3 := atNodes (g := .no) (kk := .i64) hj1
      have hyes := fun hp => firstBy_yes (d := nd0) (p := bentN) hj1 hp
      have hno := fun hp => by_no (d := nd0) hj1 hp hf
      generalize s.nodes.getD j nd0 = x at f3 hyes hno
      have z5 := zsNd (m := m') (x := x)
      have z6 := znNd (m := m')
      have hA5 := above_push (cs := x.row) hA4
      have hs5 := push_old (cs' := x.row) hs4
      have hx5 : (m'.push x.row).var m'.vars.length = some x.row := push_var
      generalize m'.push x.row = m5 at z5 hA5 hs5 hx5
      have y0 := lpNdI (i := 0) (v := x.op) hx5 rfl
      have y1 := lpNdI (i := 1) (v := x.a) hx5 rfl
      have y2 := lpNdI (i := 2) (v := x.b) hx5 rfl
      have y4 := lpNdI (i := 4) (v := x.k) hx5 rfl
      have r6 := next_i64 (i := j) (by omega)
      have hbn := bentN_ops x
      refine go1 (jn @l4 (jn @f3 (jn @z6 @z5))) ?_
      refine ops_rcut [(10, .ptr m2.vars.length 0), (14, .v (.int .i64 (j : Int))), (134, .v (.bool (bentN x)))] m5 ?_ ?_
      ·rw [hbn]
       repeat' (first | refine gos1 (jn @y0 (jn @y1 (jn @y2 @y4))) ?_ | (refine ops_here ?_; (fail_if_success (refine ops_case (B := true) rfl rfl rfl ?_ ?_)); (fail_if_success (refine ops_case (B := false) rfl rfl rfl ?_ ?_)); refine ops_case rfl rfl rfl (fun hB => ?_) (fun hB => ?_) <;> rw [hB]) | (refine runs_here ?_; refine runs_cond rfl (fun hc => ?_) (fun hc => ?_) <;> first | (cases hc; done) | skip))
       all_goals refine ⟨?_, rfl⟩
       all_goals simp_all
      refine next_normal ?_
      refine runs_cond rfl (fun hc => ?_) (fun hc => ?_)
      ·rw [hyes hc]
       refine go0 ?_
       exact leaves_fin rfl rfl (above_fin hA5)
      ·refine go1 @r6 ?_
       exact ⟨s.nodes.length - (j + 1), by omega, j + 1, hj1, hno hc, hA5, hs5, rfl, rfl⟩
     ·have hj1 : j = s.nodes.length := by have := of_decide_eq_false hc; omega
      subst hj1
      rw [firstBy_no hf]
      refine go0 ?_
      exact leaves_fin rfl rfl (above_fin hA4)
    ·rw [if_neg (by decide), if_pos rfl]
     have b11 : ((13 : Int) == 11) = false := rfl
     have b13 : ((13 : Int) == 13) = true := rfl
     have c1 := fun mm => numsG_eq (m := mm) (g := .no) (l := s.nodes) (by omega)
     have hl := numsL_len s.nodes
     refine go1 (jn @nr (jn @l1 (jn @f1 (jn @z2 (jn @z1 (jn @l2 (jn @f2 (jn @z4 (jn @z3 @b11))))))))) ?_
     refine runs_cond rfl (fun hc => by cases hc) (fun hc => ?_)
     refine go1 @b13 ?_
     refine runs_cond rfl (fun hc => ?_) (fun hc => by cases hc)
     refine go1 (jn @g5 (jn @t2 @c1)) ?_
     unfold bigN
     generalize s.nodes.flatMap numsN = all at hl
     refine runs_loop (fun kk e m' => ∃ (j : Nat), j ≤ all.length ∧ firstBy (fun y => decide (y > 4294967296)) (all.drop j) j = firstBy (fun y => decide (y > 4294967296)) all 0 ∧ m3 = m' ∧ kk = all.length - j ∧
      e = [(10, AV.ptr m2.vars.length 0), (12, .lst .no 1 (rowsI all)), (13, .v (.int .i64 (j : Int)))]) (k := all.length) ⟨0, Nat.zero_le _, rfl, rfl, rfl, rfl⟩ ?_
     rintro kk e m' ⟨j, hj0, hf, rfl, rfl, rfl⟩
     by_cases hj1 : j < all.length
     ·have b0 : decide ((j : Int) < (all.length : Int)) = true := decide_eq_true (by omega)
      have f3 := atInts (g := .no) (kk := .i64) hj1
      have hyes := fun hp => firstBy_yes (d := (0 : Int)) (p := fun y => decide (y > 4294967296)) hj1 hp
      have hno := fun hp => by_no (d := (0 : Int)) hj1 hp hf
      have r6 := next_i64 (i := j) (by omega)
      generalize all.getD j 0 = y at f3 hyes hno
      cases ha : (s.param != 0) with
      | false =>
       refine go1 (jn @b0 (jn @g4 @ha)) ?_
       refine runs_cond rfl (fun hc => by cases hc) (fun hc => ?_)
       refine go0 ?_
       exact leaves_fin rfl rfl (above_fin hA3)
      | true =>
       refine go1 (jn @b0 (jn @g4 @ha)) ?_
       refine runs_cond rfl (fun hc => ?_) (fun hc => by cases hc)
       refine go1 @f3 ?_
       refine runs_cond rfl (fun hc => ?_) (fun hc => ?_)
       ·rw [hyes hc]
        refine go0 ?_
        exact leaves_fin rfl rfl (above_fin hA3)
       ·refine go1 @r6 ?_
        exact ⟨all.length - (j + 1), by omega, j + 1, hj1, hno hc, rfl, rfl, rfl⟩
     ·have hj2 : j = all.length := by omega
      subst hj2
      have b0 : decide ((all.length : Int) < (all.length : Int)) = false := decide_eq_false (by omega)
      rw [firstBy_no hf, Bool.and_false]
      refine go1 @b0 ?_
      refine runs_cond rfl (fun hc => by cases hc) (fun hc => ?_)
      refine go0 ?_
      exact leaves_fin rfl rfl (above_fin hA3)
   ·cases h
  ·cases h
 ·cases h
end
noncomputable section
attribute [local irreducible] Next Inside Runs Ops table
attribute [local go_sem] szStr szInt Option.getD_some isNil evStr iv loadStr loadInt ldNode ldBool mapSp cellsSp newSp cellsNd fpSpFrom_ fpSpTo_ zrNd zoNd znNd zsNd rowsN_len rowsBo_len
theorem fpNd0 {r : Nat} : evFieldAddr Tryz.prog 102 (.ptr r 0) 0 = some (.ptr r 0) := by kernel_rfl
attribute [local go_sem] fpNd0
theorem lpNd0 {m : Mem} {r : Nat} {x : Nd} (hv : m.var r = some x.row) : evLoad Tryz.prog m 3 (.ptr r 0) = some (iv x.op) := by
 unfold evLoad
 simp only [ptrCells, hv, Option.map_some]
 rw [show tAgg Tryz.prog 3 = some false by kernel_rfl, show tSize Tryz.prog 3 = some 1 by kernel_rfl]
 rfl
def zeroB (l : List Nd) : Bool := (endsL l).2 == 0
def zeroG : List AV → Mem → Option (AV × Mem)
 | [.lst _ 7 rows], m =>
  match unN rows with
  | some l => if l.length ≤ big40 then some (.v (.bool (zeroB l)), m) else none
  | none => none
 | _, _ => none
theorem zeroG_at {m : Mem} {g : Grow} {l : List Nd} (h : l.length ≤ big40) : zeroG [.lst g 7 (rowsN l)] m = some (.v (.bool (zeroB l)), m) := by
 simp only [zeroG, unN_rowsN]
 rw [if_pos h]
def kpZero : Nat → Option (List Nat) := fun
 | 0 => some [0]
 | 1 => some [4]
 | 2 => some [2]
 | _ => none
attribute [go_sem] kpZero
def tab_zero_ok : List (FuncId × (List AV → Mem → Option (AV × Mem))) := [(114, endsG)]
theorem zero_ok : FunOk Tryz.prog 64 zeroG := by
 have hC := table_ok (P := Tryz.prog) (l := tab_zero_ok) (table_more ends_ok table_nil)
 have t1 := fun args mm => table_at (l := tab_zero_ok) (f := 114) (args := args) (m := mm) rfl
 refine fun_ok mixed hC Tryz.func64 rfl kpZero false rfl fun args m r h => ?_
 unfold zeroG at h
 split at h
 ·rename_i g rows
  split at h
  ·rename_i l hl0
   obtain rfl := unN_some hl0
   split at h
   ·rename_i hlen
    simp only [Option.some.injEq] at h
    subst h
    refine ⟨Nat.le_of_ble_eq_true rfl, ?_⟩
    refine en ?_
    have f1 := fun mm => endsG_eq (m := mm) (g := .no) hlen
    refine go1 (jn @t1 @f1) ?_
    exact leaves_v rfl rfl
   ·cases h
  ·cases h
 ·cases h
def zero1G : List AV → Mem → Option (AV × Mem)
 | [.lst _ 7 rows, .agg cs], m =>
  match unN rows, unSp cs with
  | some l, some s => if l.length ≤ big40 then some (.v (.bool (zeroB l)), m) else none
  | _, _ => none
 | _, _ => none
theorem zero1G_at {m : Mem} {g : Grow} {l : List Nd} {s : Sp} (h : l.length ≤ big40) : zero1G [.lst g 7 (rowsN l), .agg s.row] m = some (.v (.bool (zeroB l)), m) := by
 simp only [zero1G, unN_rowsN, unSp_row]
 rw [if_pos h]
def kpZero1 : Nat → Option (List Nat) := fun
 | 0 => some [0]
 | 1 => some [4]
 | _ => none
attribute [go_sem] kpZero1
def tab_zero1_ok : List (FuncId × (List AV → Mem → Option (AV × Mem))) := [(64, zeroG)]
theorem zero1_ok : FunOk Tryz.prog 63 zero1G := by
 have hC := table_ok (P := Tryz.prog) (l := tab_zero1_ok) (table_more zero_ok table_nil)
 have t1 := fun args mm => table_at (l := tab_zero1_ok) (f := 64) (args := args) (m := mm) rfl
 refine fun_ok mixed hC Tryz.func63 rfl kpZero1 false rfl fun args m r h => ?_
 unfold zero1G at h
 split at h
 ·rename_i g rows cs
  split at h
  ·rename_i l s hl0 hs
   obtain rfl := unN_some hl0
   obtain rfl := unSp_some hs
   split at h
   ·rename_i hlen
    simp only [Option.some.injEq] at h
    subst h
    refine ⟨Nat.le_of_ble_eq_true rfl, ?_⟩
    refine en ?_
    have f1 := fun mm => zeroG_at (m := mm) (g := .no) hlen
    refine go1 (jn @t1 @f1) ?_
    exact leaves_fin rfl rfl fin_push
   ·cases h
  ·cases h
 ·cases h
def lostAt (l : List Nd) (n ep : Int) (i : Nat) : Bool := (arityOf (l.getD i nd0).op == 0) && !(marks l ep n).getD i false
def lostB (l : List Nd) (n ep : Int) : Bool := (List.range l.length).any (lostAt l n ep)
theorem range_any {p : Nat → Bool} {n : Nat} {i : Nat} (hi : i < n) (h : p i = true) : (List.range n).any p = true := List.any_eq_true.2 ⟨i, List.mem_range.2 hi, h⟩
theorem range_all {p : Nat → Bool} {n : Nat} (h : ∀ i, i < n → p i = false) : (List.range n).any p = false := List.any_eq_false.2 fun i hi => by rw [h i (List.mem_range.1 hi)]; decide
theorem marks_len {l : List Nd} {n ep : Int} (hc : checkT l = 0) (hn : inW n) (he : inW ep) : (marks l ep n).length = l.length := by
 unfold marks
 rw [if_pos ⟨hc, hn, he⟩, reachF_len, List.length_replicate]
def lostG : List AV → Mem → Option (AV × Mem)
 | [.lst _ 7 rows, .agg cs, .v (.int .i64 ep)], m =>
  match unN rows, unSp cs with
  | some l, some s => open Classical in if l.length ≤ 1000000 ∧ checkT l = 0 ∧ inW (s.to_ - s.from_) ∧ inW ep then some (.v (.bool (lostB l (s.to_ - s.from_) ep)), m) else none
  | _, _ => none
 | _, _ => none
theorem lostG_at {m : Mem} {g : Grow} {l : List Nd} {s : Sp} {ep : Int} (h : l.length ≤ 1000000) (h1 : checkT l = 0) (h2 : inW (s.to_ - s.from_)) (h3 : inW ep) : lostG [.lst g 7 (rowsN l), .agg s.row, .v (.int .i64 ep)] m = some (.v (.bool (lostB l (s.to_ - s.from_) ep)), m) := by
 simp only [lostG, unN_rowsN, unSp_row]
 rw [if_pos ⟨h, h1, h2, h3⟩]
def kpLost : Nat → Option (List Nat) := fun
 | 0 => some [0, 2, 4]
 | 1 => some [0, 7]
 | 2 => some [7, 18, 19, 20]
 | 3 => some [7, 18, 19, 20, 21]
 | 4 => some [7, 8, 9, 18, 19, 20]
 | 5 => some [7, 18, 19, 20, 35]
 | 6 => some [6]
 | 7 => some [7, 18, 19, 20]
 | 8 => some [6]
 | _ => none
attribute [go_sem] kpLost
def tab_lost_ok : List (FuncId × (List AV → Mem → Option (AV × Mem))) := [(58, reachedG), (115, arityG)]
theorem lost_ok : FunOk Tryz.prog 66 lostG := by
 have hC := table_ok (P := Tryz.prog) (l := tab_lost_ok) (table_more reached_ok (table_more arity_ok table_nil))
 have t1 := fun args mm => table_at (l := tab_lost_ok) (f := 58) (args := args) (m := mm) rfl
 have t2 := fun args mm => table_at (l := tab_lost_ok) (f := 115) (args := args) (m := mm) rfl
 refine fun_ok mixed hC Tryz.func66 rfl kpLost false rfl fun args m r h => ?_
 unfold lostG at h
 split at h
 ·rename_i g rows cs ep
  split at h
  ·rename_i l s hl0 hs
   obtain rfl := unN_some hl0
   obtain rfl := unSp_some hs
   split at h
   ·rename_i hyp
    obtain ⟨hlen, hck, hw1, hw2⟩ := hyp
    simp only [Option.some.injEq] at h
    subst h
    refine ⟨Nat.le_of_ble_eq_true rfl, ?_⟩
    refine en ?_
    have hA := above_push (cs := s.row) (above_self m)
    have hv : (m.push s.row).var m.vars.length = some s.row := push_var
    have nr := newSp (m := m) (x := s)
    generalize m.push s.row = m1 at hA hv nr
    have l1 := lpSpTo_ hv
    have l2 := lpSpFrom_ hv
    have w1 : IntKind.i64.wrap (s.to_ - s.from_) = s.to_ - s.from_ := i64_wrap (by unfold inW at hw1; omega) (by unfold inW at hw1; omega)
    have f1 := fun mm => reachedG_eq (m := mm) (g := .no) (l := l) (n := s.to_ - s.from_) (ep := ep) (by unfold big40; omega)
    have hml := marks_len (l := l) hck hw1 hw2
    have hP : ∀ i, lostAt l (s.to_ - s.from_) ep i = ((arityOf (l.getD i nd0).op == 0) && !(marks l ep (s.to_ - s.from_)).getD i false) := fun i => rfl
    have hB : lostB l (s.to_ - s.from_) ep = (List.range l.length).any (lostAt l (s.to_ - s.from_) ep) := rfl
    generalize lostAt l (s.to_ - s.from_) ep = P at hP hB
    generalize marks l ep (s.to_ - s.from_) = M at f1 hml hP
    refine go1 (jn @nr (jn @l1 (jn @l2 (jn @w1 (jn @t1 @f1))))) ?_
    refine runs_loop (fun k e m' => ∃ (i : Nat), i ≤ l.length ∧ (∀ j, j < i → P j = false) ∧ Above m m' ∧ k = l.length - i ∧
     e = [(7, AV.lst .no 1 (rowsBo M)), (18, .lst g 7 (rowsN l)), (19, .v (.int .i64 (l.length : Int))), (20, .v (.int .i64 (i : Int)))]) (k := l.length) ⟨0, Nat.zero_le _, fun j hj => absurd hj (Nat.not_lt_zero _), hA, rfl, rfl⟩ ?_
    rintro k e m' ⟨i, hi0, hno, hA1, rfl, rfl⟩
    refine go0 ?_
    refine runs_cond rfl (fun hc => ?_) (fun hc => ?_)
    ·have hi1 : i < l.length := by have := of_decide_eq_true hc; omega
     have f2 := atNodes (g := g) (kk := .i64) hi1
     have f3 := atBools (g := .no) (kk := .i64) (l := M) (i := i) (by omega)
     have hPi := hP i
     have r6 := next_i64 (i := i) (by omega)
     generalize l.getD i nd0 = x at f2 hPi
     have hA2 := above_push (cs := x.row) hA1
     have hv2 : (m'.push x.row).var m'.vars.length = some x.row := push_var
     have zs := zsNd (m := m') (x := x)
     generalize m'.push x.row = m2 at hA2 hv2 zs
     have l3 := lpNd0 hv2
     have c2 : ∀ mm, arityG [.v (.int .i64 x.op)] mm = some (.v (.int .i64 (arityOf x.op)), mm) := fun mm => rfl
     have next : P i = false → ∀ j, j < i + 1 → P j = false := fun h j hj => by
      by_cases hji : j = i
      ·rw [hji]; exact h
      ·exact hno j (by omega)
     have w2 : (!true) = false := rfl
     have w3 : (!false) = true := rfl
     cases h1 : (arityOf x.op == 0) with
     | false =>
      rw [h1, Bool.false_and] at hPi
      refine go1 (jn @f2 (jn @zs (jn @l3 (jn @t2 (jn @c2 @h1))))) ?_
      refine runs_cond rfl (fun hc => by cases hc) (fun hc => ?_)
      refine go1 @r6 ?_
      exact ⟨l.length - (i + 1), by omega, i + 1, hi1, next hPi, hA2, rfl, rfl⟩
     | true =>
      rw [h1, Bool.true_and] at hPi
      generalize M.getD i false = b at f3 hPi
      cases b with
      | true =>
       refine go1 (jn @f2 (jn @zs (jn @l3 (jn @t2 (jn @c2 (jn @h1 (jn @f3 @w2))))))) ?_
       refine runs_cond rfl (fun hc => by cases hc) (fun hc => ?_)
       refine go1 @r6 ?_
       exact ⟨l.length - (i + 1), by omega, i + 1, hi1, next hPi, hA2, rfl, rfl⟩
      | false =>
       rw [hB, range_any hi1 hPi]
       refine go1 (jn @f2 (jn @zs (jn @l3 (jn @t2 (jn @c2 (jn @h1 (jn @f3 @w3))))))) ?_
       refine runs_cond rfl (fun hc => ?_) (fun hc => by cases hc)
       refine go0 ?_
       exact leaves_fin rfl rfl (above_fin hA2)
    ·have hi1 : i = l.length := by have := of_decide_eq_false hc; omega
     subst hi1
     rw [hB, range_all hno]
     refine go0 ?_
     exact leaves_fin rfl rfl (above_fin hA1)
   ·cases h
  ·cases h
 ·cases h
end
section
attribute [local irreducible] Next Inside Runs Ops table
theorem setMay_tree {s : Gs} (h : setMay s = true) : checkT s.nodes = 0 := by
 simp only [setMay, Bool.and_eq_true, beq_iff_eq] at h
 exact h.2.2.2
/-- What a recipe that may be told has. -/
theorem may_parts {R : Rc} (h : R.may = true) : R.headBad = false ∧ (∀ p ∈ R.phases, lenMay p.lenU p.lenN ∧ ∀ s ∈ p.sets, checkT s.nodes = 0) ∧ R.endsMay = true ∧ R.listBad = false ∧ R.phases.length ≤ 16 := by
 unfold Rc.may at h
 simp only [Bool.and_eq_true, Bool.not_eq_true'] at h
 obtain ⟨h1, h2, h3⟩ := h
 unfold Rc.phBad at h3
 simp only [Bool.or_eq_false_iff, decide_eq_false_iff_not, Bool.not_eq_false'] at h3
 obtain ⟨h4, h5, h6⟩ := h3
 refine ⟨h1, fun p hp => ?_, h6, h2, by omega⟩
 have hq := List.any_eq_false.1 h5 p hp
 simp only [phNot, phMay, Bool.not_eq_true', Bool.not_eq_false, Bool.and_eq_true, decide_eq_true_eq, Bool.not_eq_false'] at hq
 obtain ⟨_, a, _, _, b⟩ := hq
 refine ⟨a, fun s hs => ?_⟩
 have b' : p.sets.any setNot = false := by first | exact b | simpa using b
 have hr := List.any_eq_false.1 b' s hs
 simp only [setNot, Bool.not_eq_true', Bool.not_eq_false, Bool.not_eq_true] at hr
 exact setMay_tree (by simpa using hr)
structure Rc.Num (R : Rc) : Prop where
 steps : 0 ≤ R.steps ∧ R.steps ≤ 1099511627776
 epoch : 0 ≤ R.epoch ∧ R.epoch ≤ 1099511627776
 weights : 0 ≤ R.weights ∧ R.weights ≤ 1099511627776
 eval : 0 ≤ R.eval ∧ R.eval ≤ 1099511627776
 stop : R.stopOn = true → 0 ≤ R.stopPatience
 plateau : R.plateauOn = true → 0 ≤ R.plateauPatience
 every : R.swaOn = true → 0 ≤ R.swaEvery
 from_ : lenMay R.swaFromU R.swaFromN
 swa3 : R.swaOn = true → R.swaFromU ≠ 3
theorem Rc.may_num {R : Rc} (h : R.may = true) : R.Num := by
 obtain ⟨h1, _, h2, _⟩ := may_parts h
 unfold Rc.headBad at h1
 simp only [Bool.or_eq_false_iff, Bool.not_eq_false', countB, decide_eq_true_eq] at h1
 obtain ⟨_, a1, a2, a3, a4⟩ := h1
 unfold Rc.endsMay at h2
 simp only [Bool.and_eq_true] at h2
 obtain ⟨b1, b2, _, _, b5⟩ := h2
 unfold Tp.may Tp.bad at b1
 unfold Pt.may Pt.bad at b2
 unfold Sw.may Sw.bad at b5
 simp only [Bool.and_eq_true, Bool.not_eq_true', Bool.and_eq_false_iff, Rc.tp, Rc.pt, Rc.sw, countB, Bool.not_eq_false', Bool.or_eq_false_iff, Bool.or_eq_true, decide_eq_true_eq, beq_eq_false_iff_ne] at b1 b2 b5
 refine ⟨a1, a2, a3, a4, fun ho => ?_, fun ho => ?_, fun ho => ?_, ?_, fun ho => ?_⟩
 ·rcases b1.1 with b | b
  ·rw [b] at ho; cases ho
  ·exact (of_decide_eq_true b.2.1).1
 ·rcases b2.1 with b | b
  ·rw [b] at ho; cases ho
  ·exact (of_decide_eq_true b.2.2.1).1
 ·rcases b5.1 with b | b
  ·rw [b] at ho; cases ho
  ·exact (of_decide_eq_true b.2.2).1
 ·rcases b5.1 with b | b
  ·have hz := b5.2
   rw [b] at hz
   rcases hz with hz | hz
   ·cases hz
   ·simp only [swEq, sw0, Bool.and_eq_true, beq_iff_eq] at hz
    obtain ⟨_, ⟨hu, hn, _⟩, _⟩ := hz
    rw [hu, hn]
    unfold lenMay
    decide
  ·exact of_decide_eq_true b.1
 ·rcases b5.1 with b | b
  ·rw [b] at ho; cases ho
  ·exact b.2.1
theorem Rc.may_lens {R : Rc} (h : R.may = true) : R.lensOk := by
 obtain ⟨_, h1, _, _, h2⟩ := may_parts h
 have hn := Rc.may_num h
 exact ⟨by omega, fun p hp => (h1 p hp).1, hn.steps.1, hn.epoch.1⟩
def Rc.wholeBad (R : Rc) (rule : Int) : Bool :=
 if rule = 1 then !decide (1 ≤ R.steps ∧ R.steps ≤ 1000000) else if rule = 2 then (decide (R.epoch > 1000000) || ((R.epoch == 0) && R.epochs)) else if rule = 3 then decide (R.weights > 16) else if rule = 6 then ((R.phases.length : Int) == 0) else
 if rule = 9 then (R.kept 1 && (R.kept 2 && R.kept 8)) && R.sumBad else if rule = 19 then decide (R.eval > R.steps) else R.endBad rule
theorem seen_blind {R : Rc} (s : ByteArray) (h : 0 ≤ R.eval) : R.seen s = !R.blind s := by
 unfold Rc.seen Rc.blind
 rw [among_place]
 cases among R.metrics s with
 | false => rfl
 | true =>
  rw [Bool.eq_iff_iff]
  simp only [Bool.true_and, Bool.not_true, Bool.false_or, Bool.not_eq_true', decide_eq_true_eq, beq_eq_false_iff_ne]
  omega
theorem any_flat {α β : Type} {f : α → List β} {p : β → Bool} {q : α → Bool} (h : ∀ x, (f x).any p = q x) : ∀ l : List α, (l.flatMap f).any p = l.any q
 | [] => rfl
 | x :: l => by rw [List.flatMap_cons, List.any_append, h, any_flat h l, List.any_cons]
def u1 (x : Ln) : Bool := x.U == 1
theorem lens_epochs (R : Rc) : R.lens.any u1 = R.epochs := by
 have h1 : ∀ s : Gs, (setLens s).any u1 = epS s := fun s => by
  unfold setLens epS
  rw [List.any_map]
  rfl
 have h2 : ∀ p : Ph, (phLens p).any u1 = epP p := fun p => by
  unfold phLens epP
  rw [List.any_cons, any_flat h1]
  rfl
 unfold Rc.lens Rc.epochs
 rw [List.any_append, any_flat h2]
 cases R.swaOn <;> simp [u1]
theorem neg_eq {a b : Bool} (h : (a = true) ↔ ¬ (b = true)) : (!b) = a := by
 cases a <;> cases b <;> simp_all
section
variable {R : Rc}
theorem whole_1 : (!R.wholeBad 1) = (decide (R.steps ≥ 1) && decide (R.steps ≤ 1000000)) := neg_eq (by simp [Rc.wholeBad])
theorem whole_2 : (!R.wholeBad 2) = (!(R.lens.any u1 && (R.epoch == 0)) && decide (R.epoch ≤ 1000000)) := by
 unfold Rc.wholeBad
 rw [lens_epochs, if_neg (by decide), if_pos rfl, Bool.not_or, Bool.and_comm R.epochs, Bool.and_comm]
 congr 1
 rw [Bool.eq_iff_iff]
 simp only [Bool.not_eq_true', decide_eq_false_iff_not, decide_eq_true_eq]
 omega
theorem whole_3 : (!R.wholeBad 3) = decide (R.weights ≤ 16) := neg_eq (by simp [Rc.wholeBad])
theorem whole_6 : (!R.wholeBad 6) = decide ((R.phases.length : Int) > 0) := by
 show (!((R.phases.length : Int) == 0)) = _
 rw [Bool.eq_iff_iff]
 simp only [Bool.not_eq_true', beq_eq_false_iff_ne, ne_eq, decide_eq_true_eq]
 omega
theorem whole_9 : (!R.wholeBad 9) = (!R.kept 1 || (!R.kept 2 || (!R.kept 8 || !R.sumBad))) := by
 unfold Rc.wholeBad
 rw [if_neg (by decide), if_neg (by decide), if_neg (by decide), if_neg (by decide), if_pos rfl]
 cases R.kept 1 <;> cases R.kept 2 <;> cases R.kept 8 <;> cases R.sumBad <;> rfl
theorem whole_14 (hn : R.Num) : (!R.wholeBad 14) = (!R.stopOn || (R.seen R.stopMetric && decide (R.stopPatience > 0))) := by
 rw [seen_blind _ hn.eval.1]
 show (!(R.stopOn && (R.blind R.stopMetric || (R.stopPatience == 0)))) = _
 have := hn.stop
 generalize R.blind R.stopMetric = b
 cases h : R.stopOn
 ·rfl
 ·have := this h
  cases b
  ·rw [Bool.eq_iff_iff]; simp; omega
  ·rfl
theorem whole_15 (hn : R.Num) : (!R.wholeBad 15) = (!R.plateauOn || ((R.seen R.plateauMetric && decide (R.plateauPatience > 0)) && decide (R.plateauFactor < 4294967296))) := by
 rw [seen_blind _ hn.eval.1]
 show (!(R.plateauOn && (R.blind R.plateauMetric || ((R.plateauPatience == 0) || decide (R.plateauFactor ≥ 4294967296))))) = _
 have := hn.plateau
 generalize R.blind R.plateauMetric = b
 cases h : R.plateauOn
 ·rfl
 ·have := this h
  cases b
  ·rw [Bool.eq_iff_iff]; simp; omega
  ·rfl
theorem whole_16 (hn : R.Num) : (!R.wholeBad 16) = (!R.keepOn || ((R.seen R.keepMetric && decide (R.keepCount ≥ 1)) && decide (R.keepCount ≤ 16))) := by
 rw [seen_blind _ hn.eval.1]
 show (!(R.keepOn && (R.blind R.keepMetric || !decide (1 ≤ R.keepCount ∧ R.keepCount ≤ 16)))) = _
 generalize R.blind R.keepMetric = b
 cases h : R.keepOn
 ·rfl
 ·cases b
  ·rw [Bool.eq_iff_iff]; simp
  ·rfl
theorem whole_17 : (!R.wholeBad 17) = (!R.emaOn || decide (R.emaDecay ≤ 4294967296)) := by
 show (!(R.emaOn && decide (R.emaDecay > 4294967296))) = _
 cases R.emaOn
 ·rfl
 ·rw [Bool.eq_iff_iff]; simp
theorem whole_18 (hn : R.Num) : (!R.wholeBad 18) = (!R.swaOn || ((decide (R.swaEvery > 0) && (R.swaSteps.2 == 0)) && decide (R.swaSteps.1 ≤ R.steps))) := by
 show (!(R.swaOn && ((R.swaEvery == 0) || ((R.swaSteps.2 != 0) || decide (R.swaSteps.1 > R.steps))))) = _
 have := hn.every
 cases h : R.swaOn
 ·rfl
 ·have := this h
  rw [Bool.eq_iff_iff]
  simp only [Bool.true_and, Bool.not_true, Bool.false_or, Bool.not_or, Bool.and_eq_true, Bool.not_eq_true', beq_eq_false_iff_ne, bne_eq_false_iff_eq, decide_eq_false_iff_not, decide_eq_true_eq, beq_iff_eq]
  omega
theorem whole_19 : (!R.wholeBad 19) = decide (R.eval ≤ R.steps) := neg_eq (by simp [Rc.wholeBad])
end
def isRule (n : Int) : Prop := n = 1 ∨ n = 2 ∨ n = 3 ∨ n = 4 ∨ n = 5 ∨ n = 6 ∨ n = 7 ∨ n = 8 ∨ n = 9 ∨ n = 10 ∨ n = 11 ∨ n = 12 ∨ n = 13 ∨ n = 14 ∨ n = 15 ∨ n = 16 ∨ n = 17 ∨ n = 18 ∨ n = 19
instance (n : Int) : Decidable (isRule n) := by unfold isRule; exact inferInstance
def wholeRG (b : Bool) : List AV → Mem → Option (AV × Mem)
 | [.agg cs, .v (.int .i64 rule)], m =>
  match unRc cs with
  | some R => if R.may = true ∧ R.fit ∧ isRule rule ∧ (b = true ∨ rule ≠ 9) then some (.v (.bool (!R.wholeBad rule)), m) else none
  | none => none
 | _, _ => none
theorem wholeRG_at {R : Rc} {m : Mem} {b : Bool} {rule : Int} (h : R.may = true) (h1 : R.fit) (h2 : isRule rule) (h3 : b = true ∨ rule ≠ 9) : wholeRG b [.agg R.row, .v (.int .i64 rule)] m = some (.v (.bool (!R.wholeBad rule)), m) := by
 simp only [wholeRG, unRc_row]
 rw [if_pos ⟨h, h1, h2, h3⟩]
end
section
attribute [local irreducible] Next Inside Runs Ops table
attribute [local go_sem] szStr szInt Option.getD_some isNil evStr iv loadStr loadInt mapRc cellsRc newRc rowsPh_len rowsLn_len fpRcSteps fpRcEpoch fpRcWeights fpRcPhases fpRcEval fpRcStop fpRcStopOn fpRcStopMetric fpRcStopPatience fpRcPlateau fpRcPlateauOn fpRcPlateauMetric fpRcPlateauPatience fpRcPlateauFactor fpRcKeep fpRcKeepOn fpRcKeepMetric fpRcKeepCount fpRcEma fpRcEmaOn fpRcEmaDecay fpRcSwa fpRcSwaOn fpRcSwaFrom fpRcSwaEvery
def kpWhole20 : Nat → Option (List Nat) := fun
 | 0 => some [1, 2]
 | 1 => some [2, 9]
 | 2 => some [2, 9, 10]
 | 3 => some [4]
 | 4 => some [2, 9, 20]
 | 5 => some [2, 5]
 | 6 => some [2, 5, 6]
 | 7 => some [2, 5, 6, 27]
 | 8 => some [2, 5, 6]
 | 9 => some [2, 5, 6, 40]
 | 10 => some [4]
 | 11 => some [4]
 | 12 => some [2, 9, 44]
 | 13 => some [4]
 | 14 => some [2, 9, 49]
 | 15 => some [4]
 | 16 => some [2, 9, 55]
 | 17 => some [4]
 | 18 => some [2, 9, 74]
 | 19 => some [4]
 | 20 => some [2, 9, 93]
 | 21 => some [4]
 | 22 => some [2, 9, 118]
 | 23 => some [4]
 | 24 => some [2, 9, 143]
 | 25 => some [4]
 | 26 => some [2, 9, 155]
 | 27 => some [2, 7, 8]
 | 28 => some [4]
 | 29 => some [2, 185]
 | 30 => some [4]
 | 31 => some [4]
 | _ => none
attribute [go_sem] kpWhole20
def tab_whole20 (G : List AV → Mem → Option (AV × Mem)) : List (FuncId × (List AV → Mem → Option (AV × Mem))) := [(138, lensG), (39, G), (139, rsumG), (140, seenG), (49, rstepsG)]
theorem whole20_ok (b : Bool) (G : List AV → Mem → Option (AV × Mem)) (hG : FunOk Tryz.prog 39 G)
  (hK : b = true → ∀ (R : Rc) (mm : Mem) (rule : Int), R.may = true → R.fit → (rule = 1 ∨ rule = 2 ∨ rule = 8) → G [.agg R.row, .v (.int .i64 rule)] mm = some (.v (.bool (R.kept rule)), mm)) : FunOk Tryz.prog 102 (wholeRG b) := by
 have hC := table_ok (P := Tryz.prog) (l := tab_whole20 G) (table_more lens_ok (table_more hG (table_more rsum_ok (table_more seen20_ok (table_more rsteps_ok table_nil)))))
 have t1 := fun args mm => table_at (l := tab_whole20 G) (f := 138) (args := args) (m := mm) rfl
 have t2 := fun args mm => table_at (l := tab_whole20 G) (f := 39) (args := args) (m := mm) rfl
 have t3 := fun args mm => table_at (l := tab_whole20 G) (f := 139) (args := args) (m := mm) rfl
 have t4 := fun args mm => table_at (l := tab_whole20 G) (f := 140) (args := args) (m := mm) rfl
 have t5 := fun args mm => table_at (l := tab_whole20 G) (f := 49) (args := args) (m := mm) rfl
 refine fun_ok mixed hC Tryz.func102 rfl kpWhole20 false rfl fun args m r h => ?_
 unfold wholeRG at h
 split at h
 ·rename_i cs rule
  split at h
  ·rename_i R hR
   obtain rfl := unRc_some hR
   split at h
   ·rename_i hyp
    obtain ⟨hmay, hfit, hrule, hb⟩ := hyp
    simp only [Option.some.injEq] at h
    subst h
    refine ⟨Nat.le_of_ble_eq_true rfl, ?_⟩
    refine en ?_
    have hn := Rc.may_num hmay
    have hsm := Rc.may_small hmay
    have hM64 := hsm.1
    have hA := above_push (cs := R.row) (above_self m)
    have hv : (m.push R.row).var m.vars.length = some R.row := push_var
    have nr := newRc (m := m) (x := R)
    generalize m.push R.row = m1 at hA hv nr
    have l0 := vrRc hv
    have l1 := lpRcSteps hv
    have l2 := lpRcEpoch hv
    have fin : ∀ (e : Env) (b' : Bool), Ev.get e 4 = .v (.bool b') → (!R.wholeBad rule) = b' → Leaves Tryz.prog false Tryz.f102 m (.v (.bool (!R.wholeBad rule)), m) .ret e m1 := fun e b' h1 h2 => by
     rw [h2]
     exact leaves_fin rfl h1 (above_fin hA)
    have w1 : (!true) = false := rfl
    have w2 : (!false) = true := rfl
    have c4 := fun (s : ByteArray) mm => seenG_at (R := R) (s := s) (m := mm) hM64
    have no : R.wholeBad rule = false → ∀ e, Ev.get e 4 = .v (.bool true) → Leaves Tryz.prog false Tryz.f102 m (.v (.bool (!R.wholeBad rule)), m) .ret e m1 := fun h0 e h1 => fin e true h1 (by rw [h0]; rfl)
    unfold isRule at hrule
    rcases hrule with rfl | rfl | rfl | rfl | rfl | rfl | rfl | rfl | rfl | rfl | rfl | rfl | rfl | rfl | rfl | rfl | rfl | rfl | rfl
    ·have e := whole_1 (R := R)
     cases q0 : decide (R.steps ≥ 1) with
     | true =>
      rw [q0] at e
      repeat' (first | refine gos1 (jn @nr (jn @l1 @q0)) ?_ | (refine ops_here ?_; (fail_if_success (refine ops_case (B := true) rfl rfl rfl ?_ ?_)); (fail_if_success (refine ops_case (B := false) rfl rfl rfl ?_ ?_)); refine ops_case rfl rfl rfl (fun hB => ?_) (fun hB => ?_) <;> rw [hB]) | (refine runs_here ?_; refine runs_cond rfl (fun hc => ?_) (fun hc => ?_) <;> first | (cases hc; done) | skip))
      exact fin _ _ rfl e
     | false =>
      rw [q0] at e
      repeat' (first | refine gos1 (jn @nr (jn @l1 @q0)) ?_ | (refine ops_here ?_; (fail_if_success (refine ops_case (B := true) rfl rfl rfl ?_ ?_)); (fail_if_success (refine ops_case (B := false) rfl rfl rfl ?_ ?_)); refine ops_case rfl rfl rfl (fun hB => ?_) (fun hB => ?_) <;> rw [hB]) | (refine runs_here ?_; refine runs_cond rfl (fun hc => ?_) (fun hc => ?_) <;> first | (cases hc; done) | skip))
      exact fin _ _ rfl e
    ·have e := whole_2 (R := R)
     have c1 := fun mm => lensG_at R mm hsm
     repeat' (first | refine gos1 (jn @nr (jn @l0 (jn @t1 @c1))) ?_ | (refine ops_here ?_; (fail_if_success (refine ops_case (B := true) rfl rfl rfl ?_ ?_)); (fail_if_success (refine ops_case (B := false) rfl rfl rfl ?_ ?_)); refine ops_case rfl rfl rfl (fun hB => ?_) (fun hB => ?_) <;> rw [hB]) | (refine runs_here ?_; refine runs_cond rfl (fun hc => ?_) (fun hc => ?_) <;> first | (cases hc; done) | skip))
     have hlen : R.lens.length ≤ 1000000 := by
      have hB := flat_len R.phases (phLens_len hsm)
      have := hsm.2.2.1
      unfold Rc.lens
      rw [List.length_append]
      split <;> simp only [List.length_cons, List.length_nil] <;> omega
     generalize R.lens = L at e hlen
     refine runs_loop (fun k e m' => ∃ (i : Nat), i ≤ L.length ∧ (R.epoch = 0 → firstBy u1 (L.drop i) i = firstBy u1 L 0) ∧ m1 = m' ∧ k = L.length - i ∧
      e = [(2, AV.ptr m.vars.length 0), (5, .lst .no 2 (rowsLn L)), (6, .v (.int .i64 (i : Int)))]) (k := L.length) ⟨0, Nat.zero_le _, fun _ => rfl, rfl, rfl, rfl⟩ ?_
     rintro k e2 m' ⟨i, hi0, hf, rfl, rfl, rfl⟩
     refine go0 ?_
     refine runs_cond rfl (fun hc => ?_) (fun hc => ?_)
     ·have hi1 : i < L.length := by have := of_decide_eq_true hc; omega
      have f2 := atLn (g := .no) (kk := .i64) hi1
      have hyes := fun hp => firstBy_yes (d := ln0) (p := u1) hi1 hp
      have hno := fun hp hz => by_no (d := ln0) hi1 hp (hf hz)
      have r6 := next_i64 (i := i) (by omega)
      generalize L.getD i ln0 = x at f2 hyes hno
      have hu : u1 x = (x.U == 1) := rfl
      rw [hu] at hyes hno
      cases q0 : (x.U == 1) with
      | false =>
       have hn0 := hno q0
       refine go1 (jn @f2 (jn @feLnU (jn @leLnU @q0))) ?_
       refine runs_cond rfl (fun hc => by cases hc) (fun hc => ?_)
       refine go1 @r6 ?_
       exact ⟨L.length - (i + 1), by omega, i + 1, hi1, hn0, rfl, rfl, rfl⟩
      | true =>
       have hy := hyes q0
       cases q1 : (R.epoch == 0) with
       | false =>
        refine go1 (jn @f2 (jn @feLnU (jn @leLnU (jn @q0 (jn @l2 @q1))))) ?_
        refine runs_cond rfl (fun hc => by cases hc) (fun hc => ?_)
        refine go1 @r6 ?_
        exact ⟨L.length - (i + 1), by omega, i + 1, hi1, (fun hz => by rw [hz] at q1; cases q1), rfl, rfl, rfl⟩
       | true =>
        rw [hy, q1] at e
        refine go1 (jn @f2 (jn @feLnU (jn @leLnU (jn @q0 (jn @l2 @q1))))) ?_
        refine runs_cond rfl (fun hc => ?_) (fun hc => by cases hc)
        refine go0 ?_
        exact fin _ _ rfl e
     ·have hi1 : i = L.length := by have := of_decide_eq_false hc; omega
      subst hi1
      have hz : (L.any u1 && (R.epoch == 0)) = false := by
       cases q1 : (R.epoch == 0) with
       | false => exact Bool.and_false _
       | true => rw [firstBy_no (hf (by simpa using q1))]; rfl
      rw [hz] at e
      refine go1 @l2 ?_
      exact fin _ _ rfl (e.trans (Bool.true_and _))
    ·have e := whole_3 (R := R)
     have y1 := lpRcWeights hv
     repeat' (first | refine gos1 (jn @nr @y1) ?_ | (refine ops_here ?_; (fail_if_success (refine ops_case (B := true) rfl rfl rfl ?_ ?_)); (fail_if_success (refine ops_case (B := false) rfl rfl rfl ?_ ?_)); refine ops_case rfl rfl rfl (fun hB => ?_) (fun hB => ?_) <;> rw [hB]) | (refine runs_here ?_; refine runs_cond rfl (fun hc => ?_) (fun hc => ?_) <;> first | (cases hc; done) | skip))
     exact fin _ _ rfl e
    ·repeat' (first | refine gos1 @nr ?_ | (refine ops_here ?_; (fail_if_success (refine ops_case (B := true) rfl rfl rfl ?_ ?_)); (fail_if_success (refine ops_case (B := false) rfl rfl rfl ?_ ?_)); refine ops_case rfl rfl rfl (fun hB => ?_) (fun hB => ?_) <;> rw [hB]) | (refine runs_here ?_; refine runs_cond rfl (fun hc => ?_) (fun hc => ?_) <;> first | (cases hc; done) | skip))
     exact no rfl _ rfl
    ·repeat' (first | refine gos1 @nr ?_ | (refine ops_here ?_; (fail_if_success (refine ops_case (B := true) rfl rfl rfl ?_ ?_)); (fail_if_success (refine ops_case (B := false) rfl rfl rfl ?_ ?_)); refine ops_case rfl rfl rfl (fun hB => ?_) (fun hB => ?_) <;> rw [hB]) | (refine runs_here ?_; refine runs_cond rfl (fun hc => ?_) (fun hc => ?_) <;> first | (cases hc; done) | skip))
     exact no rfl _ rfl
    ·have e := whole_6 (R := R)
     have y1 := lpRcPhases hv
     repeat' (first | refine gos1 (jn @nr @y1) ?_ | (refine ops_here ?_; (fail_if_success (refine ops_case (B := true) rfl rfl rfl ?_ ?_)); (fail_if_success (refine ops_case (B := false) rfl rfl rfl ?_ ?_)); refine ops_case rfl rfl rfl (fun hB => ?_) (fun hB => ?_) <;> rw [hB]) | (refine runs_here ?_; refine runs_cond rfl (fun hc => ?_) (fun hc => ?_) <;> first | (cases hc; done) | skip))
     exact fin _ _ rfl e
    ·repeat' (first | refine gos1 @nr ?_ | (refine ops_here ?_; (fail_if_success (refine ops_case (B := true) rfl rfl rfl ?_ ?_)); (fail_if_success (refine ops_case (B := false) rfl rfl rfl ?_ ?_)); refine ops_case rfl rfl rfl (fun hB => ?_) (fun hB => ?_) <;> rw [hB]) | (refine runs_here ?_; refine runs_cond rfl (fun hc => ?_) (fun hc => ?_) <;> first | (cases hc; done) | skip))
     exact no rfl _ rfl
    ·repeat' (first | refine gos1 @nr ?_ | (refine ops_here ?_; (fail_if_success (refine ops_case (B := true) rfl rfl rfl ?_ ?_)); (fail_if_success (refine ops_case (B := false) rfl rfl rfl ?_ ?_)); refine ops_case rfl rfl rfl (fun hB => ?_) (fun hB => ?_) <;> rw [hB]) | (refine runs_here ?_; refine runs_cond rfl (fun hc => ?_) (fun hc => ?_) <;> first | (cases hc; done) | skip))
     exact no rfl _ rfl
    ·have e := whole_9 (R := R)
     have hb' : b = true := by rcases hb with h | h; exact h; exact absurd rfl h
     have k1 := fun mm => hK hb' R mm 1 hmay hfit (.inl rfl)
     have k2 := fun mm => hK hb' R mm 2 hmay hfit (.inr (.inl rfl))
     have k8 := fun mm => hK hb' R mm 8 hmay hfit (.inr (.inr rfl))
     have c3 := fun mm => rsumG_at R mm (Rc.may_lens hmay)
     cases q1 : R.kept 1 with
     | false =>
      rw [q1] at e k1
      repeat' (first | refine gos1 (jn @nr (jn @l0 (jn @t2 (jn @k1 (jn @w1 @w2))))) ?_ | (refine ops_here ?_; (fail_if_success (refine ops_case (B := true) rfl rfl rfl ?_ ?_)); (fail_if_success (refine ops_case (B := false) rfl rfl rfl ?_ ?_)); refine ops_case rfl rfl rfl (fun hB => ?_) (fun hB => ?_) <;> rw [hB]) | (refine runs_here ?_; refine runs_cond rfl (fun hc => ?_) (fun hc => ?_) <;> first | (cases hc; done) | skip))
      exact fin _ _ rfl e
     | true =>
      rw [q1] at e k1
      cases q2 : R.kept 2 with
      | false =>
       rw [q2] at e k2
       repeat' (first | refine gos1 (jn @nr (jn @l0 (jn @t2 (jn @k1 (jn @k2 (jn @w1 @w2)))))) ?_ | (refine ops_here ?_; (fail_if_success (refine ops_case (B := true) rfl rfl rfl ?_ ?_)); (fail_if_success (refine ops_case (B := false) rfl rfl rfl ?_ ?_)); refine ops_case rfl rfl rfl (fun hB => ?_) (fun hB => ?_) <;> rw [hB]) | (refine runs_here ?_; refine runs_cond rfl (fun hc => ?_) (fun hc => ?_) <;> first | (cases hc; done) | skip))
       exact fin _ _ rfl e
      | true =>
       rw [q2] at e k2
       cases q8 : R.kept 8 with
       | false =>
        rw [q8] at e k8
        repeat' (first | refine gos1 (jn @nr (jn @l0 (jn @t2 (jn @k1 (jn @k2 (jn @k8 (jn @w1 @w2))))))) ?_ | (refine ops_here ?_; (fail_if_success (refine ops_case (B := true) rfl rfl rfl ?_ ?_)); (fail_if_success (refine ops_case (B := false) rfl rfl rfl ?_ ?_)); refine ops_case rfl rfl rfl (fun hB => ?_) (fun hB => ?_) <;> rw [hB]) | (refine runs_here ?_; refine runs_cond rfl (fun hc => ?_) (fun hc => ?_) <;> first | (cases hc; done) | skip))
        exact fin _ _ rfl e
       | true =>
        rw [q8] at e k8
        repeat' (first | refine gos1 (jn @nr (jn @l0 (jn @t2 (jn @k1 (jn @k2 (jn @k8 (jn @w1 (jn @w2 (jn @t3 @c3))))))))) ?_ | (refine ops_here ?_; (fail_if_success (refine ops_case (B := true) rfl rfl rfl ?_ ?_)); (fail_if_success (refine ops_case (B := false) rfl rfl rfl ?_ ?_)); refine ops_case rfl rfl rfl (fun hB => ?_) (fun hB => ?_) <;> rw [hB]) | (refine runs_here ?_; refine runs_cond rfl (fun hc => ?_) (fun hc => ?_) <;> first | (cases hc; done) | skip))
        exact fin _ _ rfl e
    ·repeat' (first | refine gos1 @nr ?_ | (refine ops_here ?_; (fail_if_success (refine ops_case (B := true) rfl rfl rfl ?_ ?_)); (fail_if_success (refine ops_case (B := false) rfl rfl rfl ?_ ?_)); refine ops_case rfl rfl rfl (fun hB => ?_) (fun hB => ?_) <;> rw [hB]) | (refine runs_here ?_; refine runs_cond rfl (fun hc => ?_) (fun hc => ?_) <;> first | (cases hc; done) | skip))
     exact no rfl _ rfl
    ·repeat' (first | refine gos1 @nr ?_ | (refine ops_here ?_; (fail_if_success (refine ops_case (B := true) rfl rfl rfl ?_ ?_)); (fail_if_success (refine ops_case (B := false) rfl rfl rfl ?_ ?_)); refine ops_case rfl rfl rfl (fun hB => ?_) (fun hB => ?_) <;> rw [hB]) | (refine runs_here ?_; refine runs_cond rfl (fun hc => ?_) (fun hc => ?_) <;> first | (cases hc; done) | skip))
     exact no rfl _ rfl
    ·repeat' (first | refine gos1 @nr ?_ | (refine ops_here ?_; (fail_if_success (refine ops_case (B := true) rfl rfl rfl ?_ ?_)); (fail_if_success (refine ops_case (B := false) rfl rfl rfl ?_ ?_)); refine ops_case rfl rfl rfl (fun hB => ?_) (fun hB => ?_) <;> rw [hB]) | (refine runs_here ?_; refine runs_cond rfl (fun hc => ?_) (fun hc => ?_) <;> first | (cases hc; done) | skip))
     exact no rfl _ rfl
    ·repeat' (first | refine gos1 @nr ?_ | (refine ops_here ?_; (fail_if_success (refine ops_case (B := true) rfl rfl rfl ?_ ?_)); (fail_if_success (refine ops_case (B := false) rfl rfl rfl ?_ ?_)); refine ops_case rfl rfl rfl (fun hB => ?_) (fun hB => ?_) <;> rw [hB]) | (refine runs_here ?_; refine runs_cond rfl (fun hc => ?_) (fun hc => ?_) <;> first | (cases hc; done) | skip))
     exact no rfl _ rfl
    ·have e := whole_14 hn
     have y1 := lpRcStopOn hv
     have y2 := lpRcStopMetric hv
     have y3 := lpRcStopPatience hv
     cases q0 : R.stopOn with
     | false =>
      rw [q0] at e
      repeat' (first | refine gos1 (jn @nr (jn @y1 (jn @q0 @w2))) ?_ | (refine ops_here ?_; (fail_if_success (refine ops_case (B := true) rfl rfl rfl ?_ ?_)); (fail_if_success (refine ops_case (B := false) rfl rfl rfl ?_ ?_)); refine ops_case rfl rfl rfl (fun hB => ?_) (fun hB => ?_) <;> rw [hB]) | (refine runs_here ?_; refine runs_cond rfl (fun hc => ?_) (fun hc => ?_) <;> first | (cases hc; done) | skip))
      exact fin _ _ rfl e
     | true =>
      rw [q0] at e
      cases q1 : R.seen R.stopMetric with
      | false =>
       rw [q1] at e
       repeat' (first | refine gos1 (jn @nr (jn @y1 (jn @q0 (jn @w1 (jn @l0 (jn @y2 (jn @t4 (jn @c4 @q1)))))))) ?_ | (refine ops_here ?_; (fail_if_success (refine ops_case (B := true) rfl rfl rfl ?_ ?_)); (fail_if_success (refine ops_case (B := false) rfl rfl rfl ?_ ?_)); refine ops_case rfl rfl rfl (fun hB => ?_) (fun hB => ?_) <;> rw [hB]) | (refine runs_here ?_; refine runs_cond rfl (fun hc => ?_) (fun hc => ?_) <;> first | (cases hc; done) | skip))
       exact fin _ _ rfl e
      | true =>
       rw [q1] at e
       repeat' (first | refine gos1 (jn @nr (jn @y1 (jn @q0 (jn @w1 (jn @l0 (jn @y2 (jn @t4 (jn @c4 (jn @q1 @y3))))))))) ?_ | (refine ops_here ?_; (fail_if_success (refine ops_case (B := true) rfl rfl rfl ?_ ?_)); (fail_if_success (refine ops_case (B := false) rfl rfl rfl ?_ ?_)); refine ops_case rfl rfl rfl (fun hB => ?_) (fun hB => ?_) <;> rw [hB]) | (refine runs_here ?_; refine runs_cond rfl (fun hc => ?_) (fun hc => ?_) <;> first | (cases hc; done) | skip))
       exact fin _ _ rfl (e.trans (by simp only [Bool.not_true, Bool.false_or, Bool.true_and]))
    ·have e := whole_15 hn
     have y1 := lpRcPlateauOn hv
     have y2 := lpRcPlateauMetric hv
     have y3 := lpRcPlateauPatience hv
     have y4 := lpRcPlateauFactor hv
     cases q0 : R.plateauOn with
     | false =>
      rw [q0] at e
      repeat' (first | refine gos1 (jn @nr (jn @y1 (jn @q0 @w2))) ?_ | (refine ops_here ?_; (fail_if_success (refine ops_case (B := true) rfl rfl rfl ?_ ?_)); (fail_if_success (refine ops_case (B := false) rfl rfl rfl ?_ ?_)); refine ops_case rfl rfl rfl (fun hB => ?_) (fun hB => ?_) <;> rw [hB]) | (refine runs_here ?_; refine runs_cond rfl (fun hc => ?_) (fun hc => ?_) <;> first | (cases hc; done) | skip))
      exact fin _ _ rfl e
     | true =>
      rw [q0] at e
      cases q1 : R.seen R.plateauMetric with
      | false =>
       rw [q1] at e
       repeat' (first | refine gos1 (jn @nr (jn @y1 (jn @q0 (jn @w1 (jn @l0 (jn @y2 (jn @t4 (jn @c4 @q1)))))))) ?_ | (refine ops_here ?_; (fail_if_success (refine ops_case (B := true) rfl rfl rfl ?_ ?_)); (fail_if_success (refine ops_case (B := false) rfl rfl rfl ?_ ?_)); refine ops_case rfl rfl rfl (fun hB => ?_) (fun hB => ?_) <;> rw [hB]) | (refine runs_here ?_; refine runs_cond rfl (fun hc => ?_) (fun hc => ?_) <;> first | (cases hc; done) | skip))
       exact fin _ _ rfl e
      | true =>
       rw [q1] at e
       cases q2 : decide (R.plateauPatience > 0) with
       | false =>
        rw [q2] at e
        repeat' (first | refine gos1 (jn @nr (jn @y1 (jn @q0 (jn @w1 (jn @l0 (jn @y2 (jn @t4 (jn @c4 (jn @q1 (jn @y3 @q2)))))))))) ?_ | (refine ops_here ?_; (fail_if_success (refine ops_case (B := true) rfl rfl rfl ?_ ?_)); (fail_if_success (refine ops_case (B := false) rfl rfl rfl ?_ ?_)); refine ops_case rfl rfl rfl (fun hB => ?_) (fun hB => ?_) <;> rw [hB]) | (refine runs_here ?_; refine runs_cond rfl (fun hc => ?_) (fun hc => ?_) <;> first | (cases hc; done) | skip))
        exact fin _ _ rfl e
       | true =>
        rw [q2] at e
        repeat' (first | refine gos1 (jn @nr (jn @y1 (jn @q0 (jn @w1 (jn @l0 (jn @y2 (jn @t4 (jn @c4 (jn @q1 (jn @y3 (jn @q2 @y4))))))))))) ?_ | (refine ops_here ?_; (fail_if_success (refine ops_case (B := true) rfl rfl rfl ?_ ?_)); (fail_if_success (refine ops_case (B := false) rfl rfl rfl ?_ ?_)); refine ops_case rfl rfl rfl (fun hB => ?_) (fun hB => ?_) <;> rw [hB]) | (refine runs_here ?_; refine runs_cond rfl (fun hc => ?_) (fun hc => ?_) <;> first | (cases hc; done) | skip))
        exact fin _ _ rfl (e.trans (by simp only [Bool.not_true, Bool.false_or, Bool.true_and]))
    ·have e := whole_16 hn
     have y1 := lpRcKeepOn hv
     have y2 := lpRcKeepMetric hv
     have y3 := lpRcKeepCount hv
     cases q0 : R.keepOn with
     | false =>
      rw [q0] at e
      repeat' (first | refine gos1 (jn @nr (jn @y1 (jn @q0 @w2))) ?_ | (refine ops_here ?_; (fail_if_success (refine ops_case (B := true) rfl rfl rfl ?_ ?_)); (fail_if_success (refine ops_case (B := false) rfl rfl rfl ?_ ?_)); refine ops_case rfl rfl rfl (fun hB => ?_) (fun hB => ?_) <;> rw [hB]) | (refine runs_here ?_; refine runs_cond rfl (fun hc => ?_) (fun hc => ?_) <;> first | (cases hc; done) | skip))
      exact fin _ _ rfl e
     | true =>
      rw [q0] at e
      cases q1 : R.seen R.keepMetric with
      | false =>
       rw [q1] at e
       repeat' (first | refine gos1 (jn @nr (jn @y1 (jn @q0 (jn @w1 (jn @l0 (jn @y2 (jn @t4 (jn @c4 @q1)))))))) ?_ | (refine ops_here ?_; (fail_if_success (refine ops_case (B := true) rfl rfl rfl ?_ ?_)); (fail_if_success (refine ops_case (B := false) rfl rfl rfl ?_ ?_)); refine ops_case rfl rfl rfl (fun hB => ?_) (fun hB => ?_) <;> rw [hB]) | (refine runs_here ?_; refine runs_cond rfl (fun hc => ?_) (fun hc => ?_) <;> first | (cases hc; done) | skip))
       exact fin _ _ rfl e
      | true =>
       rw [q1] at e
       cases q2 : decide (R.keepCount ≥ 1) with
       | false =>
        rw [q2] at e
        repeat' (first | refine gos1 (jn @nr (jn @y1 (jn @q0 (jn @w1 (jn @l0 (jn @y2 (jn @t4 (jn @c4 (jn @q1 (jn @y3 @q2)))))))))) ?_ | (refine ops_here ?_; (fail_if_success (refine ops_case (B := true) rfl rfl rfl ?_ ?_)); (fail_if_success (refine ops_case (B := false) rfl rfl rfl ?_ ?_)); refine ops_case rfl rfl rfl (fun hB => ?_) (fun hB => ?_) <;> rw [hB]) | (refine runs_here ?_; refine runs_cond rfl (fun hc => ?_) (fun hc => ?_) <;> first | (cases hc; done) | skip))
        exact fin _ _ rfl e
       | true =>
        rw [q2] at e
        repeat' (first | refine gos1 (jn @nr (jn @y1 (jn @q0 (jn @w1 (jn @l0 (jn @y2 (jn @t4 (jn @c4 (jn @q1 (jn @y3 @q2)))))))))) ?_ | (refine ops_here ?_; (fail_if_success (refine ops_case (B := true) rfl rfl rfl ?_ ?_)); (fail_if_success (refine ops_case (B := false) rfl rfl rfl ?_ ?_)); refine ops_case rfl rfl rfl (fun hB => ?_) (fun hB => ?_) <;> rw [hB]) | (refine runs_here ?_; refine runs_cond rfl (fun hc => ?_) (fun hc => ?_) <;> first | (cases hc; done) | skip))
        exact fin _ _ rfl (e.trans (by simp only [Bool.not_true, Bool.false_or, Bool.true_and]))
    ·have e := whole_17 (R := R)
     have y1 := lpRcEmaOn hv
     have y2 := lpRcEmaDecay hv
     cases q0 : R.emaOn with
     | false =>
      rw [q0] at e
      repeat' (first | refine gos1 (jn @nr (jn @y1 (jn @q0 @w2))) ?_ | (refine ops_here ?_; (fail_if_success (refine ops_case (B := true) rfl rfl rfl ?_ ?_)); (fail_if_success (refine ops_case (B := false) rfl rfl rfl ?_ ?_)); refine ops_case rfl rfl rfl (fun hB => ?_) (fun hB => ?_) <;> rw [hB]) | (refine runs_here ?_; refine runs_cond rfl (fun hc => ?_) (fun hc => ?_) <;> first | (cases hc; done) | skip))
      exact fin _ _ rfl e
     | true =>
      rw [q0] at e
      repeat' (first | refine gos1 (jn @nr (jn @y1 (jn @q0 (jn @w1 @y2)))) ?_ | (refine ops_here ?_; (fail_if_success (refine ops_case (B := true) rfl rfl rfl ?_ ?_)); (fail_if_success (refine ops_case (B := false) rfl rfl rfl ?_ ?_)); refine ops_case rfl rfl rfl (fun hB => ?_) (fun hB => ?_) <;> rw [hB]) | (refine runs_here ?_; refine runs_cond rfl (fun hc => ?_) (fun hc => ?_) <;> first | (cases hc; done) | skip))
      exact fin _ _ rfl (e.trans (by simp only [Bool.not_true, Bool.false_or, Bool.true_and]))
    ·have e := whole_18 hn
     have y1 := lpRcSwaOn hv
     have y2 := lpRcSwaFrom hv
     have y3 := lpRcSwaEvery hv
     have c5 := fun mm => rstepsG_at (R := R) (m := mm) hn.from_ hn.steps.1 hn.epoch.1
     rw [show stepsP R.swaFromU R.swaFromN R.steps R.epoch = R.swaSteps from rfl] at c5
     generalize R.swaSteps = S at e c5
     cases q0 : R.swaOn with
     | false =>
      rw [q0] at e
      repeat' (first | refine gos1 (jn @nr (jn @l0 (jn @y1 (jn @y2 (jn @t5 (jn @c5 (jn @q0 @w2))))))) ?_ | (refine ops_here ?_; (fail_if_success (refine ops_case (B := true) rfl rfl rfl ?_ ?_)); (fail_if_success (refine ops_case (B := false) rfl rfl rfl ?_ ?_)); refine ops_case rfl rfl rfl (fun hB => ?_) (fun hB => ?_) <;> rw [hB]) | (refine runs_here ?_; refine runs_cond rfl (fun hc => ?_) (fun hc => ?_) <;> first | (cases hc; done) | skip))
      exact fin _ _ rfl e
     | true =>
      rw [q0] at e
      cases q1 : decide (R.swaEvery > 0) with
      | false =>
       rw [q1] at e
       repeat' (first | refine gos1 (jn @nr (jn @l0 (jn @y1 (jn @y2 (jn @t5 (jn @c5 (jn @q0 (jn @w1 (jn @y3 @q1))))))))) ?_ | (refine ops_here ?_; (fail_if_success (refine ops_case (B := true) rfl rfl rfl ?_ ?_)); (fail_if_success (refine ops_case (B := false) rfl rfl rfl ?_ ?_)); refine ops_case rfl rfl rfl (fun hB => ?_) (fun hB => ?_) <;> rw [hB]) | (refine runs_here ?_; refine runs_cond rfl (fun hc => ?_) (fun hc => ?_) <;> first | (cases hc; done) | skip))
       exact fin _ _ rfl e
      | true =>
       rw [q1] at e
       cases q2 : (S.2 == 0) with
       | false =>
        rw [q2] at e
        repeat' (first | refine gos1 (jn @nr (jn @l0 (jn @y1 (jn @y2 (jn @t5 (jn @c5 (jn @q0 (jn @w1 (jn @y3 (jn @q1 @q2)))))))))) ?_ | (refine ops_here ?_; (fail_if_success (refine ops_case (B := true) rfl rfl rfl ?_ ?_)); (fail_if_success (refine ops_case (B := false) rfl rfl rfl ?_ ?_)); refine ops_case rfl rfl rfl (fun hB => ?_) (fun hB => ?_) <;> rw [hB]) | (refine runs_here ?_; refine runs_cond rfl (fun hc => ?_) (fun hc => ?_) <;> first | (cases hc; done) | skip))
        exact fin _ _ rfl e
       | true =>
        rw [q2] at e
        repeat' (first | refine gos1 (jn @nr (jn @l0 (jn @y1 (jn @y2 (jn @t5 (jn @c5 (jn @q0 (jn @w1 (jn @y3 (jn @q1 (jn @q2 @l1))))))))))) ?_ | (refine ops_here ?_; (fail_if_success (refine ops_case (B := true) rfl rfl rfl ?_ ?_)); (fail_if_success (refine ops_case (B := false) rfl rfl rfl ?_ ?_)); refine ops_case rfl rfl rfl (fun hB => ?_) (fun hB => ?_) <;> rw [hB]) | (refine runs_here ?_; refine runs_cond rfl (fun hc => ?_) (fun hc => ?_) <;> first | (cases hc; done) | skip))
        exact fin _ _ rfl (e.trans (by simp only [Bool.not_true, Bool.false_or, Bool.true_and]))
    ·have e := whole_19 (R := R)
     have y1 := lpRcEval hv
     repeat' (first | refine gos1 (jn @nr (jn @l1 @y1)) ?_ | (refine ops_here ?_; (fail_if_success (refine ops_case (B := true) rfl rfl rfl ?_ ?_)); (fail_if_success (refine ops_case (B := false) rfl rfl rfl ?_ ?_)); refine ops_case rfl rfl rfl (fun hB => ?_) (fun hB => ?_) <;> rw [hB]) | (refine runs_here ?_; refine runs_cond rfl (fun hc => ?_) (fun hc => ?_) <;> first | (cases hc; done) | skip))
     exact fin _ _ rfl e
   ·cases h
  ·cases h
 ·cases h
end
end Go.Proofs.YtojaokhkbmiidaaGreat.Ev
