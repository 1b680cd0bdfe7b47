/- Small checks; between two numbers; powers; the wave. (Written out by wip/tools/gen_run1.py.) -/
import Derived.Test.YtmockbddhhmmeaaGreatMbgkd4
namespace Go.Proofs.YtmockbddhhmmeaaGreat.Ev
open Go Go.Proofs
set_option maxRecDepth 10000
set_option maxHeartbeats 8000000
set_option linter.unusedVariables false
set_option linter.unusedSimpArgs false
section
attribute [local irreducible] Next aW cF Ops bQ
attribute [local irreducible] bE dH
attribute [local go_sem] cO bP Option.getD_some cJ aT aV aPf aPh aO9 zrP zoP znP aD2 qS niP eqP
def inB (x lo hi : Int) : Bool := decide (lo ≤ x ∧ x ≤ hi)
def oZ : List AV → Mem → Option (AV × Mem)
 | [.v (.int .i64 x), .v (.int .i64 lo), .v (.int .i64 hi)], m => some (.v (.bool (inB x lo hi)), m)
 | _, _ => none
theorem eB (x lo hi : Int) (m : Mem) : oZ [.v (.int .i64 x), .v (.int .i64 lo), .v (.int .i64 hi)] m = some (.v (.bool (inB x lo hi)), m) := rfl
theorem dW {x lo hi : Int} : inB x lo hi = true ↔ lo ≤ x ∧ x ≤ hi := by unfold inB; exact decide_eq_true_iff
def aS0 : Nat → Option (List Nat) := fun
 | 0 => some [0, 1, 2]
 | 1 => some [6]
 | _ => none
attribute [go_sem] aS0
theorem nP : aO Tryz.prog 73 oZ := by
 have hC := aI (P := Tryz.prog) (l := []) aF
 refine aP mixed hC Tryz.func73 rfl aS0 false rfl fun args m r h => ?_
 unfold oZ at h
 split at h
 ·rename_i x lo hi
  simp only [Option.some.injEq] at h
  subst h
  refine ⟨nbT, ?_⟩
  refine en ?_
  have fin : ∀ (e : Env) (b : Bool), Ev.get e 6 = .v (.bool b) → b = (inB x lo hi) → cZ Tryz.prog false Tryz.f73 m (.v (.bool (inB x lo hi)), m) .ret e m := fun e b h1 h2 => by rw [← h2]; exact aY rfl h1
  repeat' (first | refine aX4 ?_ | (refine iX ?_; (fail_if_success (refine cT (B := true) rfl rfl rfl ?_ ?_)); (fail_if_success (refine cT (B := false) rfl rfl rfl ?_ ?_)); refine cT rfl rfl rfl (fun hB => ?_) (fun hB => ?_) <;> rw [hB]) | (refine hJ ?_; refine aH rfl (fun hc => ?_) (fun hc => ?_) <;> first | (cases hc; done) | skip))
  all_goals exact fin _ _ rfl (by unfold inB; rw [Bool.eq_iff_iff]; simp only [decide_eq_true_eq, decide_eq_false_iff_not, Bool.false_eq_true, false_iff, true_iff, Bool.and_eq_true, Bool.or_eq_true] at *; omega)
 ·cases h
def aL7 : Nat → Option (List Nat) := fun
 | 0 => some [0, 1, 2]
 | 1 => some [6]
 | _ => none
attribute [go_sem] aL7
theorem aDk : aO Tryz.prog 82 oZ := by
 have hC := aI (P := Tryz.prog) (l := []) aF
 refine aP mixed hC Tryz.func82 rfl aL7 false rfl fun args m r h => ?_
 unfold oZ at h
 split at h
 ·rename_i x lo hi
  simp only [Option.some.injEq] at h
  subst h
  refine ⟨nbT, ?_⟩
  refine en ?_
  have fin : ∀ (e : Env) (b : Bool), Ev.get e 6 = .v (.bool b) → b = (inB x lo hi) → cZ Tryz.prog false Tryz.f82 m (.v (.bool (inB x lo hi)), m) .ret e m := fun e b h1 h2 => by rw [← h2]; exact aY rfl h1
  repeat' (first | refine aX4 ?_ | (refine iX ?_; (fail_if_success (refine cT (B := true) rfl rfl rfl ?_ ?_)); (fail_if_success (refine cT (B := false) rfl rfl rfl ?_ ?_)); refine cT rfl rfl rfl (fun hB => ?_) (fun hB => ?_) <;> rw [hB]) | (refine hJ ?_; refine aH rfl (fun hc => ?_) (fun hc => ?_) <;> first | (cases hc; done) | skip))
  all_goals exact fin _ _ rfl (by unfold inB; rw [Bool.eq_iff_iff]; simp only [decide_eq_true_eq, decide_eq_false_iff_not, Bool.false_eq_true, false_iff, true_iff, Bool.and_eq_true, Bool.or_eq_true] at *; omega)
 ·cases h
def aQ6 : Nat → Option (List Nat) := fun
 | 0 => some [0, 1, 2]
 | 1 => some [6]
 | _ => none
attribute [go_sem] aQ6
theorem bLf : aO Tryz.prog 142 oZ := by
 have hC := aI (P := Tryz.prog) (l := []) aF
 refine aP mixed hC Tryz.func142 rfl aQ6 false rfl fun args m r h => ?_
 unfold oZ at h
 split at h
 ·rename_i x lo hi
  simp only [Option.some.injEq] at h
  subst h
  refine ⟨nbT, ?_⟩
  refine en ?_
  have fin : ∀ (e : Env) (b : Bool), Ev.get e 6 = .v (.bool b) → b = (inB x lo hi) → cZ Tryz.prog false Tryz.f142 m (.v (.bool (inB x lo hi)), m) .ret e m := fun e b h1 h2 => by rw [← h2]; exact aY rfl h1
  repeat' (first | refine aX4 ?_ | (refine iX ?_; (fail_if_success (refine cT (B := true) rfl rfl rfl ?_ ?_)); (fail_if_success (refine cT (B := false) rfl rfl rfl ?_ ?_)); refine cT rfl rfl rfl (fun hB => ?_) (fun hB => ?_) <;> rw [hB]) | (refine hJ ?_; refine aH rfl (fun hc => ?_) (fun hc => ?_) <;> first | (cases hc; done) | skip))
  all_goals exact fin _ _ rfl (by unfold inB; rw [Bool.eq_iff_iff]; simp only [decide_eq_true_eq, decide_eq_false_iff_not, Bool.false_eq_true, false_iff, true_iff, Bool.and_eq_true, Bool.or_eq_true] at *; omega)
 ·cases h
def aM3 : Nat → Option (List Nat) := fun
 | 0 => some [0, 1, 2]
 | 1 => some [6]
 | _ => none
attribute [go_sem] aM3
theorem aDb : aO Tryz.prog 157 oZ := by
 have hC := aI (P := Tryz.prog) (l := []) aF
 refine aP mixed hC Tryz.func157 rfl aM3 false rfl fun args m r h => ?_
 unfold oZ at h
 split at h
 ·rename_i x lo hi
  simp only [Option.some.injEq] at h
  subst h
  refine ⟨nbT, ?_⟩
  refine en ?_
  have fin : ∀ (e : Env) (b : Bool), Ev.get e 6 = .v (.bool b) → b = (inB x lo hi) → cZ Tryz.prog false Tryz.f157 m (.v (.bool (inB x lo hi)), m) .ret e m := fun e b h1 h2 => by rw [← h2]; exact aY rfl h1
  repeat' (first | refine aX4 ?_ | (refine iX ?_; (fail_if_success (refine cT (B := true) rfl rfl rfl ?_ ?_)); (fail_if_success (refine cT (B := false) rfl rfl rfl ?_ ?_)); refine cT rfl rfl rfl (fun hB => ?_) (fun hB => ?_) <;> rw [hB]) | (refine hJ ?_; refine aH rfl (fun hc => ?_) (fun hc => ?_) <;> first | (cases hc; done) | skip))
  all_goals exact fin _ _ rfl (by unfold inB; rw [Bool.eq_iff_iff]; simp only [decide_eq_true_eq, decide_eq_false_iff_not, Bool.false_eq_true, false_iff, true_iff, Bool.and_eq_true, Bool.or_eq_true] at *; omega)
 ·cases h
def aK4 : Nat → Option (List Nat) := fun
 | 0 => some [0, 1, 2]
 | 1 => some [6]
 | _ => none
attribute [go_sem] aK4
theorem bDr : aO Tryz.prog 174 oZ := by
 have hC := aI (P := Tryz.prog) (l := []) aF
 refine aP mixed hC Tryz.func174 rfl aK4 false rfl fun args m r h => ?_
 unfold oZ at h
 split at h
 ·rename_i x lo hi
  simp only [Option.some.injEq] at h
  subst h
  refine ⟨nbT, ?_⟩
  refine en ?_
  have fin : ∀ (e : Env) (b : Bool), Ev.get e 6 = .v (.bool b) → b = (inB x lo hi) → cZ Tryz.prog false Tryz.f174 m (.v (.bool (inB x lo hi)), m) .ret e m := fun e b h1 h2 => by rw [← h2]; exact aY rfl h1
  repeat' (first | refine aX4 ?_ | (refine iX ?_; (fail_if_success (refine cT (B := true) rfl rfl rfl ?_ ?_)); (fail_if_success (refine cT (B := false) rfl rfl rfl ?_ ?_)); refine cT rfl rfl rfl (fun hB => ?_) (fun hB => ?_) <;> rw [hB]) | (refine hJ ?_; refine aH rfl (fun hc => ?_) (fun hc => ?_) <;> first | (cases hc; done) | skip))
  all_goals exact fin _ _ rfl (by unfold inB; rw [Bool.eq_iff_iff]; simp only [decide_eq_true_eq, decide_eq_false_iff_not, Bool.false_eq_true, false_iff, true_iff, Bool.and_eq_true, Bool.or_eq_true] at *; omega)
 ·cases h
def aKf : List AV → Mem → Option (AV × Mem)
 | [.v (.int .i64 x)], m => some (.v (.bool (inB x 0 4294967296)), m)
 | _, _ => none
def aQc : Nat → Option (List Nat) := fun
 | 0 => some [0]
 | 1 => some [2]
 | _ => none
attribute [go_sem] aQc
theorem bKl : aO Tryz.prog 179 aKf := by
 have hC := aI (P := Tryz.prog) (l := []) aF
 refine aP mixed hC Tryz.func179 rfl aQc false rfl fun args m r h => ?_
 unfold aKf at h
 split at h
 ·rename_i x
  simp only [Option.some.injEq] at h
  subst h
  refine ⟨nbT, ?_⟩
  refine en ?_
  have fin : ∀ (e : Env) (b : Bool), Ev.get e 2 = .v (.bool b) → b = (inB x 0 4294967296) → cZ Tryz.prog false Tryz.f179 m (.v (.bool (inB x 0 4294967296)), m) .ret e m := fun e b h1 h2 => by rw [← h2]; exact aY rfl h1
  repeat' (first | refine aX4 ?_ | (refine iX ?_; (fail_if_success (refine cT (B := true) rfl rfl rfl ?_ ?_)); (fail_if_success (refine cT (B := false) rfl rfl rfl ?_ ?_)); refine cT rfl rfl rfl (fun hB => ?_) (fun hB => ?_) <;> rw [hB]) | (refine hJ ?_; refine aH rfl (fun hc => ?_) (fun hc => ?_) <;> first | (cases hc; done) | skip))
  all_goals exact fin _ _ rfl (by unfold inB; rw [Bool.eq_iff_iff]; simp only [decide_eq_true_eq, decide_eq_false_iff_not, Bool.false_eq_true, false_iff, true_iff, Bool.and_eq_true, Bool.or_eq_true] at *; omega)
 ·cases h
def aF6 : List AV → Mem → Option (AV × Mem)
 | [.v (.int .i64 x)], m => some (.v (.bool (inB x 0 4294967296)), m)
 | _, _ => none
def aL8 : Nat → Option (List Nat) := fun
 | 0 => some [0]
 | 1 => some [2]
 | _ => none
attribute [go_sem] aL8
theorem bD4 : aO Tryz.prog 184 aF6 := by
 have hC := aI (P := Tryz.prog) (l := []) aF
 refine aP mixed hC Tryz.func184 rfl aL8 false rfl fun args m r h => ?_
 unfold aF6 at h
 split at h
 ·rename_i x
  simp only [Option.some.injEq] at h
  subst h
  refine ⟨nbT, ?_⟩
  refine en ?_
  have fin : ∀ (e : Env) (b : Bool), Ev.get e 2 = .v (.bool b) → b = (inB x 0 4294967296) → cZ Tryz.prog false Tryz.f184 m (.v (.bool (inB x 0 4294967296)), m) .ret e m := fun e b h1 h2 => by rw [← h2]; exact aY rfl h1
  repeat' (first | refine aX4 ?_ | (refine iX ?_; (fail_if_success (refine cT (B := true) rfl rfl rfl ?_ ?_)); (fail_if_success (refine cT (B := false) rfl rfl rfl ?_ ?_)); refine cT rfl rfl rfl (fun hB => ?_) (fun hB => ?_) <;> rw [hB]) | (refine hJ ?_; refine aH rfl (fun hc => ?_) (fun hc => ?_) <;> first | (cases hc; done) | skip))
  all_goals exact fin _ _ rfl (by unfold inB; rw [Bool.eq_iff_iff]; simp only [decide_eq_true_eq, decide_eq_false_iff_not, Bool.false_eq_true, false_iff, true_iff, Bool.and_eq_true, Bool.or_eq_true] at *; omega)
 ·cases h
def jP : List AV → Mem → Option (AV × Mem)
 | [.v (.int .i64 x)], m => some (.v (.bool (inB x 1 1099511627776)), m)
 | _, _ => none
def aFn : Nat → Option (List Nat) := fun
 | 0 => some [0]
 | 1 => some [2]
 | _ => none
attribute [go_sem] aFn
def vY : List (FuncId × (List AV → Mem → Option (AV × Mem))) := [(73, oZ)]
theorem xX : aO Tryz.prog 105 jP := by
 have hC := aI (P := Tryz.prog) (l := vY) (aA nP aF)
 have t1 := taT vY 73 rfl
 refine aP mixed hC Tryz.func105 rfl aFn false rfl fun args m r h => ?_
 unfold jP at h
 split at h
 ·rename_i x
  simp only [Option.some.injEq] at h
  subst h
  refine ⟨nbT, ?_⟩
  refine en ?_
  have c1 := eB x 1 1099511627776
  refine go1 (jn @t1 @c1) ?_
  exact aY rfl rfl
 ·cases h
def kS : List AV → Mem → Option (AV × Mem)
 | [.v (.int .i64 x)], m => some (.v (.bool (inB x 0 4503599627370496)), m)
 | _, _ => none
def aFl : Nat → Option (List Nat) := fun
 | 0 => some [0]
 | 1 => some [2]
 | _ => none
attribute [go_sem] aFl
def uO : List (FuncId × (List AV → Mem → Option (AV × Mem))) := [(73, oZ)]
theorem aFx : aO Tryz.prog 106 kS := by
 have hC := aI (P := Tryz.prog) (l := uO) (aA nP aF)
 have t1 := taT uO 73 rfl
 refine aP mixed hC Tryz.func106 rfl aFl false rfl fun args m r h => ?_
 unfold kS at h
 split at h
 ·rename_i x
  simp only [Option.some.injEq] at h
  subst h
  refine ⟨nbT, ?_⟩
  refine en ?_
  have c1 := eB x 0 4503599627370496
  refine go1 (jn @t1 @c1) ?_
  exact aY rfl rfl
 ·cases h
def sD : List AV → Mem → Option (AV × Mem)
 | [.v (.int .i64 x)], m => some (.v (.bool (inB x 0 1099511627776)), m)
 | _, _ => none
def aEa : Nat → Option (List Nat) := fun
 | 0 => some [0]
 | 1 => some [2]
 | _ => none
attribute [go_sem] aEa
theorem aT9 : aO Tryz.prog 107 sD := by
 have hC := aI (P := Tryz.prog) (l := []) aF
 refine aP mixed hC Tryz.func107 rfl aEa false rfl fun args m r h => ?_
 unfold sD at h
 split at h
 ·rename_i x
  simp only [Option.some.injEq] at h
  subst h
  refine ⟨nbT, ?_⟩
  refine en ?_
  have fin : ∀ (e : Env) (b : Bool), Ev.get e 2 = .v (.bool b) → b = (inB x 0 1099511627776) → cZ Tryz.prog false Tryz.f107 m (.v (.bool (inB x 0 1099511627776)), m) .ret e m := fun e b h1 h2 => by rw [← h2]; exact aY rfl h1
  repeat' (first | refine aX4 ?_ | (refine iX ?_; (fail_if_success (refine cT (B := true) rfl rfl rfl ?_ ?_)); (fail_if_success (refine cT (B := false) rfl rfl rfl ?_ ?_)); refine cT rfl rfl rfl (fun hB => ?_) (fun hB => ?_) <;> rw [hB]) | (refine hJ ?_; refine aH rfl (fun hc => ?_) (fun hc => ?_) <;> first | (cases hc; done) | skip))
  all_goals exact fin _ _ rfl (by unfold inB; rw [Bool.eq_iff_iff]; simp only [decide_eq_true_eq, decide_eq_false_iff_not, Bool.false_eq_true, false_iff, true_iff, Bool.and_eq_true, Bool.or_eq_true] at *; omega)
 ·cases h
/-! ### products of parts -/
def tm (x y : Int) : Int := (fZ x y).1
def tmG : List AV → Mem → Option (AV × Mem)
 | [.v (.int .i64 x), .v (.int .i64 y)], m => if inI x ∧ inI y then some (iv (tm x y), m) else none
 | _, _ => none
theorem aM1 {x y : Int} (hx : inI x) (hy : inI y) (m : Mem) : tmG [.v (.int .i64 x), .v (.int .i64 y)] m = some (.v (.int .i64 (tm x y)), m) := if_pos ⟨hx, hy⟩
theorem aF0 {x y : Int} (hx : inI x) (hy : inI y) (m : Mem) : aGo [.v (.int .i64 x), .v (.int .i64 y)] m = some (.tup [.v (.int .i64 (fZ x y).1), .v (.int .i64 (fZ x y).2)], m) := if_pos ⟨hx, hy⟩
theorem aSa {x y : Int} (hx : inI x) (hy : inI y) : inI (tm x y) := aKp hx hy
def aV4 : Nat → Option (List Nat) := fun
 | 0 => some [0, 1]
 | 1 => some [5]
 | 2 => some [4]
 | _ => none
attribute [go_sem] aV4
def aD6 : List (FuncId × (List AV → Mem → Option (AV × Mem))) := [(114, aGo)]
theorem bN1 : aO Tryz.prog 180 tmG := by
 have hC := aI (P := Tryz.prog) (l := aD6) (aA aH1 aF)
 have t1 := taT aD6 114 rfl
 refine aP mixed hC Tryz.func180 rfl aV4 false rfl fun args m r h => ?_
 unfold tmG at h
 split at h
 ·rename_i x y
  split at h
  ·rename_i hyp
   simp only [Option.some.injEq] at h
   subst h
   refine ⟨nbT, ?_⟩
   refine en ?_
   have c1 := aF0 hyp.1 hyp.2
   refine go1 (jn @t1 @c1) ?_
   exact aY rfl rfl
  ·cases h
 ·cases h
def aSi : Nat → Option (List Nat) := fun
 | 0 => some [0, 1]
 | 1 => some [5]
 | 2 => some [4]
 | _ => none
attribute [go_sem] aSi
def aCd : List (FuncId × (List AV → Mem → Option (AV × Mem))) := [(114, aGo)]
theorem aRs : aO Tryz.prog 188 tmG := by
 have hC := aI (P := Tryz.prog) (l := aCd) (aA aH1 aF)
 have t1 := taT aCd 114 rfl
 refine aP mixed hC Tryz.func188 rfl aSi false rfl fun args m r h => ?_
 unfold tmG at h
 split at h
 ·rename_i x y
  split at h
  ·rename_i hyp
   simp only [Option.some.injEq] at h
   subst h
   refine ⟨nbT, ?_⟩
   refine en ?_
   have c1 := aF0 hyp.1 hyp.2
   refine go1 (jn @t1 @c1) ?_
   exact aY rfl rfl
  ·cases h
 ·cases h
theorem tX (n : Int) : inI (IntKind.i64.wrap n) := by
 rw [aJ4]
 unfold inI
 split <;> omega
/-! ### pow.Of -/
def aMg (r x : Int) (n : Nat) : Int := if h : n = 0 then r else aMg (if n % 2 = 1 then tm r x else r) (tm x x) (n / 2)
termination_by n
decreasing_by omega
theorem bWa : ∀ (n : Nat) (r x : Int), inI r → inI x → inI (aMg r x n) := by
 intro n
 induction n using Nat.strongRecOn with
 | _ n ih =>
  intro r x hr hx
  rw [aMg]
  split
  ·exact hr
  ·refine ih (n / 2) (by omega) _ _ ?_ (aSa hx hx)
   split
   ·exact aSa hr hx
   ·exact hr
def yG (x n : Int) : Int × Int := if inB x 0 4294967296 = true ∧ 0 ≤ n ∧ n ≤ 1099511627776 then (aMg 4294967296 x n.toNat, 0) else (0, 1)
theorem bEn {x : Int} (n : Int) (hx : inI x) : inI (yG x n).1 := by
 unfold yG
 split
 ·exact bWa _ _ _ (by decide) hx
 ·exact (by decide : inI 0)
def bLb : List AV → Mem → Option (AV × Mem)
 | [.v (.int .i64 x), .v (.int .i64 n)], m => if inI x then some (.tup [iv (yG x n).1, iv (yG x n).2], m) else none
 | _, _ => none
theorem bZu (n : Nat) (h : n ≤ 1099511627776) : mO .and .i64 (n : Int) .i64 1 = some (.v (.int .i64 ((n % 2 : Nat) : Int))) := by
 have e1 : (BitVec.ofInt 64 (n : Int)).toNat = n := by
  rw [BitVec.toNat_ofInt]; omega
 have e2 : (BitVec.ofInt 64 1).toNat = 2 ^ 1 - 1 := by decide
 have e3 : (BitVec.ofInt 64 (n : Int) &&& BitVec.ofInt 64 1).toNat = n % 2 := by rw [BitVec.toNat_and, e1, e2, Nat.and_two_pow_sub_one_eq_mod]
 have e4 : IntKind.i64.wrap ((BitVec.ofInt 64 (n : Int) &&& BitVec.ofInt 64 1).toNat : Int) = ((n % 2 : Nat) : Int) := by
  rw [e3, bB (by omega) (by omega)]
 unfold mO
 simp only [if_true]
 exact congrArg (fun z => some (AV.v (Value.int .i64 z))) e4
theorem lt1 : ((1 : Int) < 0) = False := by decide
theorem bT6 (x : Int) : x.fdiv (2 ^ min (Int.toNat 1) 64) = x / 2 := Int.fdiv_eq_ediv_of_nonneg _ (by decide)
def bWr : Nat → Option (List Nat) := fun
 | 0 => some [0, 1]
 | 1 => some [0, 1, 17]
 | 2 => some [4, 5]
 | 3 => some [0, 1, 6]
 | 4 => some [0, 1, 6, 19]
 | 5 => some [0, 1, 6]
 | 6 => some [0, 1, 6, 24]
 | 7 => some [0, 1, 6]
 | 8 => some [0, 1, 6]
 | 9 => some [4, 5]
 | _ => none
attribute [go_sem] bWr
def aCy : List (FuncId × (List AV → Mem → Option (AV × Mem))) := [(179, aKf), (180, tmG)]
theorem bLy : aO Tryz.prog 172 bLb := by
 have hC := aI (P := Tryz.prog) (l := aCy) (aA bKl (aA bN1 aF))
 have t1 := taT aCy 179 rfl
 have t2 := taT aCy 180 rfl
 refine aP mixed hC Tryz.func172 rfl bWr false rfl fun args m r h => ?_
 unfold bLb at h
 split at h
 ·rename_i x n
  split at h
  ·rename_i hx
   simp only [Option.some.injEq] at h
   subst h
   refine ⟨nbT, ?_⟩
   refine en ?_
   have c1 : ∀ mm, aKf [.v (.int .i64 x)] mm = some (.v (.bool (inB x 0 4294967296)), mm) := fun _ => rfl
   have k1 : (!true) = false := rfl
   have k2 : (!false) = true := rfl
   have bad : ∀ (e : Env), Ev.get e 4 = .v (.int .i64 0) → Ev.get e 5 = .v (.int .i64 1) → ¬ (inB x 0 4294967296 = true ∧ 0 ≤ n ∧ n ≤ 1099511627776) → cZ Tryz.prog false Tryz.f172 m (.tup [iv (yG x n).1, iv (yG x n).2], m) .ret e m := fun e h1 h2 h3 => by
    unfold yG
    rw [if_neg h3]
    exact cM rfl h1 h2
   cases hm : inB x 0 4294967296 with
   | false =>
    rw [hm] at c1
    refine go1 (jn @t1 (jn @c1 @k2)) ?_
    refine rcT rfl ?_
    refine go0 ?_
    exact bad _ rfl rfl (fun h => by rw [hm] at h; cases h.1)
   | true =>
    rw [hm] at c1
    cases q1 : decide (n < 0) with
    | true =>
     refine go1 (jn @t1 (jn @c1 (jn @k1 @q1))) ?_
     refine rcT rfl ?_
     refine go0 ?_
     exact bad _ rfl rfl (fun h => by have := of_decide_eq_true q1; omega)
    | false =>
     cases q2 : decide (n > 1099511627776) with
     | true =>
      refine go1 (jn @t1 (jn @c1 (jn @k1 (jn @q1 @q2)))) ?_
      refine rcT rfl ?_
      refine go0 ?_
      exact bad _ rfl rfl (fun h => by have := of_decide_eq_true q2; omega)
     | false =>
      have n0 := of_decide_eq_false q1
      have n1 := of_decide_eq_false q2
      refine go1 (jn @t1 (jn @c1 (jn @k1 (jn @q1 @q2)))) ?_
      refine rcF rfl ?_
      unfold yG
      rw [if_pos ⟨hm, by omega, by omega⟩]
      obtain ⟨n, rfl⟩ := Int.eq_ofNat_of_zero_le (show 0 ≤ n by omega)
      rw [Int.toNat_natCast]
      refine go0 ?_
      refine cE (fun k e m' => ∃ (y r : Int) (j : Nat), inI y ∧ inI r ∧ j ≤ 1099511627776 ∧ aMg r y j = aMg 4294967296 x n ∧ m = m' ∧ j = k ∧ e = [(0, .v (.int .i64 y)), (1, .v (.int .i64 (j : Int))), (6, .v (.int .i64 r))]) (k := n) ⟨x, 4294967296, n, hx, by decide, by omega, rfl, rfl, rfl, rfl⟩ ?_
      rintro k e m' ⟨y, r, j, hy, hr, hj, hpow, rfl, rfl, rfl⟩
      refine go0 ?_
      refine aH rfl (fun hc => ?_) (fun hc => ?_)
      ·have hj0 : 0 < j := by have := of_decide_eq_true hc; omega
       have a1 := bZu j hj
       have a2 := bT6 (j : Int)
       have a3 : (j : Int) / 2 = ((j / 2 : Nat) : Int) := by omega
       rw [a3] at a2
       have c3 := aM1 hy hy
       rw [aMg, dif_neg (by omega)] at hpow
       simp only [go_sem, reduceIte, Nat.reduceEqDiff, reduceCtorEq, Int.reduceEq] at a1
       refine go1 @a1 ?_
       by_cases ho : j % 2 = 1
       ·rw [if_pos ho] at hpow
        have c2 := aM1 hr hy
        refine aH rfl (fun hc => ?_) (fun hc => absurd hc (by rw [ho]; decide))
        refine go1 (jn @t2 (jn @c2 (jn @c3 (jn @lt1 @a2)))) ?_
        exact ⟨j / 2, by omega, tm y y, tm r y, j / 2, aSa hy hy, aSa hr hy, by omega, hpow, rfl, rfl, rfl⟩
       ·rw [if_neg ho] at hpow
        have ho2 : j % 2 = 0 := by omega
        refine aH rfl (fun hc => absurd hc (by rw [ho2]; decide)) (fun hc => ?_)
        refine go1 (jn @t2 (jn @c3 (jn @lt1 @a2))) ?_
        exact ⟨j / 2, by omega, tm y y, r, j / 2, aSa hy hy, hr, by omega, hpow, rfl, rfl, rfl⟩
      ·have hj0 : j = 0 := by have := of_decide_eq_false hc; omega
       subst hj0
       rw [aMg, dif_pos rfl] at hpow
       refine go0 ?_
       rw [← hpow]
       exact cM rfl rfl rfl
  ·cases h
 ·cases h
end
section
attribute [local irreducible] Next aW cF Ops bQ
attribute [local irreducible] bE dH
attribute [local go_sem] cO bP Option.getD_some cJ aT aV aPf aPh aO9 zrP zoP znP aD2 qS niP eqP
def bMw : List AV → Mem → Option (AV × Mem)
 | [.v (.int .i64 x), .v (.int .i64 y)], m => if inI x ∧ inI y then some (uv ((y - x) % 18446744073709551616), m) else none
 | _, _ => none
def bXa : Nat → Option (List Nat) := fun
 | 0 => some [0, 1]
 | 1 => some [4]
 | _ => none
attribute [go_sem] bXa
theorem bY7 : aO Tryz.prog 154 bMw := by
 have hC := aI (P := Tryz.prog) (l := []) aF
 refine aP mixed hC Tryz.func154 rfl bXa false rfl fun args m r h => ?_
 unfold bMw at h
 split at h
 ·rename_i x y
  split at h
  ·rename_i hyp
   simp only [Option.some.injEq] at h
   subst h
   refine ⟨nbT, ?_⟩
   refine en ?_
   have w1 := bWy hyp.2 hyp.1
   refine go1 @w1 ?_
   exact aY rfl rfl
  ·cases h
 ·cases h
def sc (d t : Int) : Int := (fF (d * t) 4294967296).1
def aGq : List AV → Mem → Option (AV × Mem)
 | [.v (.int .u64 d), .v (.int .i64 t)], m => if 0 ≤ d ∧ d < 18446744073709551616 ∧ 0 ≤ t ∧ t ≤ 4294967296 then some (uv (sc d t), m) else none
 | _, _ => none
def aV9 : Nat → Option (List Nat) := fun
 | 0 => some [0, 1]
 | 1 => some [5]
 | 2 => some [4]
 | _ => none
attribute [go_sem] aV9
def tN : List (FuncId × (List AV → Mem → Option (AV × Mem))) := [(130, aSm), (129, aH0)]
theorem bIo : aO Tryz.prog 153 aGq := by
 have hC := aI (P := Tryz.prog) (l := tN) (aA bG6 (aA aZf aF))
 have t1 := taT tN 130 rfl
 have t2 := taT tN 129 rfl
 refine aP mixed hC Tryz.func153 rfl aV9 false rfl fun args m r h => ?_
 unfold aGq at h
 split at h
 ·rename_i d t
  split at h
  ·rename_i hyp
   obtain ⟨d0, d1, t0, t1'⟩ := hyp
   simp only [Option.some.injEq] at h
   subst h
   refine ⟨nbT, ?_⟩
   refine en ?_
   have w1 : IntKind.u64.wrap t = t := w64 t0 (by omega)
   have c1 : ∀ mm, aSm [.v (.int .u64 d), .v (.int .u64 t)] mm = some (.agg [.v (.int .u64 (d * t / 18446744073709551616)), .v (.int .u64 (d * t % 18446744073709551616))], mm) := fun mm => if_pos ⟨d0, d1, t0, by omega⟩
   have p0 : 0 ≤ d * t := Int.mul_nonneg d0 t0
   have p1 : d * t ≤ 18446744073709551615 * 4294967296 := Int.mul_le_mul (by omega) t1' t0 (by decide)
   unfold sc
   generalize d * t = p at *
   have c2 : ∀ mm, aH0 [.agg [.v (.int .u64 (p / 18446744073709551616)), .v (.int .u64 (p % 18446744073709551616))], .v (.int .i64 32)] mm = some (.tup [.v (.int .u64 (fF p 4294967296).1), .v (.int .i64 (fF p 4294967296).2)], mm) := fun mm => by
    have : p / 18446744073709551616 * 18446744073709551616 + p % 18446744073709551616 = p := by omega
    show (if _ then _ else _) = _
    rw [if_pos ⟨⟨by omega, by omega, by omega, by omega⟩, rfl⟩, this]
    rfl
   refine go1 (jn @w1 (jn @t1 (jn @c1 (jn @t2 @c2)))) ?_
   exact aY rfl rfl
  ·cases h
 ·cases h
def mX (a b t : Int) : Int × Int := if t < 0 ∨ t > 4294967296 then (0, 1) else if a ≤ b then (IntKind.i64.wrap (a + sc (b - a) t), 0) else (IntKind.i64.wrap (a - sc (a - b) t), 0)
def aXs : List AV → Mem → Option (AV × Mem)
 | [.v (.int .i64 a), .v (.int .i64 b), .v (.int .i64 t)], m => if inI a ∧ inI b then some (.tup [iv (mX a b t).1, iv (mX a b t).2], m) else none
 | _, _ => none
theorem aN4 {a b t : Int} (ha : inI a) (hb : inI b) (m : Mem) : aXs [.v (.int .i64 a), .v (.int .i64 b), .v (.int .i64 t)] m = some (.tup [.v (.int .i64 (mX a b t).1), .v (.int .i64 (mX a b t).2)], m) := if_pos ⟨ha, hb⟩
def bOz : Nat → Option (List Nat) := fun
 | 0 => some [0, 1, 2]
 | 1 => some [0, 1, 2, 8]
 | 2 => some [6, 7]
 | 3 => some [0, 1, 2, 15]
 | 4 => some [6, 7]
 | 5 => some [6, 7]
 | _ => none
attribute [go_sem] bOz
def aAc : List (FuncId × (List AV → Mem → Option (AV × Mem))) := [(154, bMw), (153, aGq)]
theorem bFb : aO Tryz.prog 136 aXs := by
 have hC := aI (P := Tryz.prog) (l := aAc) (aA bY7 (aA bIo aF))
 have t1 := taT aAc 154 rfl
 have t2 := taT aAc 153 rfl
 refine aP mixed hC Tryz.func136 rfl bOz false rfl fun args m r h => ?_
 unfold aXs at h
 split at h
 ·rename_i a b t
  split at h
  ·rename_i hyp
   obtain ⟨ha, hb⟩ := hyp
   have ha2 := ha
   have hb2 := hb
   obtain ⟨a0, a1⟩ := ha2
   obtain ⟨b0, b1⟩ := hb2
   simp only [Option.some.injEq] at h
   subst h
   refine ⟨nbT, ?_⟩
   refine en ?_
   unfold mX
   cases q1 : decide (t < 0) with
   | true =>
    have := of_decide_eq_true q1
    refine go1 @q1 ?_
    refine rcT rfl ?_
    refine go0 ?_
    rw [if_pos (by omega)]
    exact cM rfl rfl rfl
   | false =>
    have t0 := of_decide_eq_false q1
    cases q2 : decide (t > 4294967296) with
    | true =>
     have := of_decide_eq_true q2
     refine go1 (jn @q1 @q2) ?_
     refine rcT rfl ?_
     refine go0 ?_
     rw [if_pos (by omega)]
     exact cM rfl rfl rfl
    | false =>
     have t3 := of_decide_eq_false q2
     refine go1 (jn @q1 @q2) ?_
     refine rcF rfl ?_
     rw [if_neg (by omega)]
     refine go0 ?_
     refine aH rfl (fun hc => ?_) (fun hc => ?_)
     ·have hab := of_decide_eq_true hc
      have c1 : ∀ mm, bMw [.v (.int .i64 a), .v (.int .i64 b)] mm = some (.v (.int .u64 (b - a)), mm) := fun mm => by
       show (if _ then _ else _) = _
       rw [if_pos ⟨ha, hb⟩, show (b - a) % 18446744073709551616 = b - a by omega]
       rfl
      have c2 : ∀ mm, aGq [.v (.int .u64 (b - a)), .v (.int .i64 t)] mm = some (.v (.int .u64 (sc (b - a) t)), mm) := fun mm => if_pos ⟨by omega, by omega, by omega, by omega⟩
      have w1 : IntKind.i64.wrap (IntKind.u64.wrap (IntKind.u64.wrap a + sc (b - a) t)) = IntKind.i64.wrap (a + sc (b - a) t) := by
       rw [aJ4, aJ4, hZ, hZ, show (a % 18446744073709551616 + sc (b - a) t) % 18446744073709551616 % 18446744073709551616 = (a + sc (b - a) t) % 18446744073709551616 by omega]
      refine go1 (jn @t1 (jn @c1 (jn @t2 (jn @c2 @w1)))) ?_
      rw [if_pos hab]
      exact cM rfl rfl rfl
     ·have hab := of_decide_eq_false hc
      have c1 : ∀ mm, bMw [.v (.int .i64 b), .v (.int .i64 a)] mm = some (.v (.int .u64 (a - b)), mm) := fun mm => by
       show (if _ then _ else _) = _
       rw [if_pos ⟨hb, ha⟩, show (a - b) % 18446744073709551616 = a - b by omega]
       rfl
      have c2 : ∀ mm, aGq [.v (.int .u64 (a - b)), .v (.int .i64 t)] mm = some (.v (.int .u64 (sc (a - b) t)), mm) := fun mm => if_pos ⟨by omega, by omega, by omega, by omega⟩
      have w1 : IntKind.i64.wrap (IntKind.u64.wrap (IntKind.u64.wrap a - sc (a - b) t)) = IntKind.i64.wrap (a - sc (a - b) t) := by
       rw [aJ4, aJ4, hZ, hZ, show (a % 18446744073709551616 - sc (a - b) t) % 18446744073709551616 % 18446744073709551616 = (a - sc (a - b) t) % 18446744073709551616 by omega]
      refine go1 (jn @t1 (jn @c1 (jn @t2 (jn @c2 @w1)))) ?_
      rw [if_neg hab]
      exact cM rfl rfl rfl
  ·cases h
 ·cases h
/-- Which part one of some is (fewer than 2^32 of them). -/
def jY (i n : Int) : Int × Int := if n < 1 ∨ n > 1099511627776 ∨ i < 0 ∨ i ≥ n then (0, 1) else if n = 1 then (0, 0) else (IntKind.i64.wrap (fF (i * 4294967296) (n - 1)).1, (fF (i * 4294967296) (n - 1)).2)
def aTr : List AV → Mem → Option (AV × Mem)
 | [.v (.int .i64 i), .v (.int .i64 n)], m => if 0 ≤ i ∧ i < n ∧ n ≤ 1048576 then some (.tup [iv (jY i n).1, iv (jY i n).2], m) else none
 | _, _ => none
def bFo : Nat → Option (List Nat) := fun
 | 0 => some [0, 1]
 | 1 => some [0, 1, 24]
 | 2 => some [4, 5]
 | 3 => some [0, 1, 26]
 | 4 => some [4, 5]
 | 5 => some [1, 6]
 | 6 => some [8, 9]
 | 7 => some [4, 5]
 | _ => none
attribute [go_sem] bFo
def xA : List (FuncId × (List AV → Mem → Option (AV × Mem))) := [(151, bJ9), (152, aR0)]
theorem bRn : aO Tryz.prog 160 aTr := by
 have hC := aI (P := Tryz.prog) (l := xA) (aA bNe (aA bHc aF))
 have t1 := taT xA 151 rfl
 have t2 := taT xA 152 rfl
 refine aP mixed hC Tryz.func160 rfl bFo false rfl fun args m r h => ?_
 unfold aTr at h
 split at h
 ·rename_i i n
  split at h
  ·rename_i hyp
   obtain ⟨i0, i1, n1⟩ := hyp
   simp only [Option.some.injEq] at h
   subst h
   refine ⟨nbT, ?_⟩
   refine en ?_
   have q1 : decide (n < 1) = false := decide_eq_false (by omega)
   have q2 : decide (n > 1099511627776) = false := decide_eq_false (by omega)
   have q3 : decide (i < 0) = false := decide_eq_false (by omega)
   have q4 : decide (i ≥ n) = false := decide_eq_false (by omega)
   unfold jY
   rw [if_neg (by omega)]
   refine go1 (jn @q1 (jn @q2 (jn @q3 @q4))) ?_
   refine rcF rfl ?_
   by_cases hn : n = 1
   ·subst hn
    refine go0 ?_
    refine aH rfl (fun hc => ?_) (fun hc => absurd hc (by decide))
    refine go0 ?_
    rw [if_pos rfl]
    exact cM rfl rfl rfl
   ·have b1 : (n == 1) = false := by rw [beq_eq_false_iff_ne]; exact hn
    refine go1 @b1 ?_
    refine rcF rfl ?_
    rw [if_neg hn]
    have w1 : IntKind.u64.wrap i = i := w64 i0 (by omega)
    have w2 : IntKind.i64.wrap (n - 1) = n - 1 := bB (by omega) (by omega)
    have w3 : IntKind.u64.wrap (n - 1) = n - 1 := w64 (by omega) (by omega)
    have c1 : ∀ mm, bJ9 [.agg [.v (.int .u64 0), .v (.int .u64 i)], .v (.int .i64 32)] mm = some (.tup [.agg [.v (.int .u64 0), .v (.int .u64 (i * 4294967296))], .v (.bool true)], mm) := fun mm => if_pos ⟨rfl, rfl, i0, by omega⟩
    have c2 : ∀ mm, aR0 [.agg [.v (.int .u64 0), .v (.int .u64 (i * 4294967296))], .v (.int .u64 (n - 1))] mm = some (.tup [.v (.int .u64 (fF (i * 4294967296) (n - 1)).1), .v (.int .i64 (fF (i * 4294967296) (n - 1)).2)], mm) := fun mm => by
     show (if _ then _ else _) = _
     rw [if_pos ⟨by decide, by decide, by omega, by omega, by omega, by omega, .inl rfl⟩, show (0 : Int) * 18446744073709551616 + i * 4294967296 = i * 4294967296 by omega]
     rfl
    have s1 : aR Tryz.prog (m.push dE) 126 (.ptr m.vars.length 0) (.agg [.v (.int .u64 0), .v (.int .u64 (i * 4294967296))]) = some (m.push [.v (.int .u64 0), .v (.int .u64 (i * 4294967296))]) := by
     rw [stP (x0 := 0) (y0 := 0) (aJ (cs := dE)), lH]
    have l6 := vrP (aJ (m := m) (cs := [.v (.int .u64 0), .v (.int .u64 (i * 4294967296))]))
    refine go1 (jn @w1 (jn @t1 (jn @c1 (jn @s1 (jn @l6 (jn @w2 (jn @w3 (jn @t2 @c2)))))))) ?_
    exact bT rfl (by decide) (.cons rfl rfl (.cons rfl rfl .nil)) lV
  ·cases h
 ·cases h
/-! ### the wave -/
def kkW (i : Nat) : Int := [2044063, 27198923, 245884610, 1372256329, 4014944880, 4294967296].getD i 0
def fE (u : Int) : Nat → Int
 | 0 => 0
 | i + 1 => IntKind.i64.wrap (kkW i - tm u (fE u i))
theorem aYk (u : Int) : ∀ i, inI (fE u i)
 | 0 => by show inI 0; decide
 | i + 1 => tX _
def bE4 : List AV → Mem → Option (AV × Mem)
 | [.v (.int .i64 u)], m => if inI u then some (iv (fE u 6), m) else none
 | _, _ => none
def aVn : AV := .agg [.v (.int .i64 2044063), .v (.int .i64 27198923), .v (.int .i64 245884610), .v (.int .i64 1372256329), .v (.int .i64 4014944880), .v (.int .i64 4294967296)]
theorem cEs : lZ Tryz.prog 221 aVn (.v (.int .i64 0)) = some (.v (.int .i64 (kkW 0))) := by kernel_rfl
theorem cD1 : lZ Tryz.prog 221 aVn (.v (.int .i64 1)) = some (.v (.int .i64 (kkW 1))) := by kernel_rfl
theorem cE4 : lZ Tryz.prog 221 aVn (.v (.int .i64 2)) = some (.v (.int .i64 (kkW 2))) := by kernel_rfl
theorem cDv : lZ Tryz.prog 221 aVn (.v (.int .i64 3)) = some (.v (.int .i64 (kkW 3))) := by kernel_rfl
theorem cD9 : lZ Tryz.prog 221 aVn (.v (.int .i64 4)) = some (.v (.int .i64 (kkW 4))) := by kernel_rfl
theorem cEf : lZ Tryz.prog 221 aVn (.v (.int .i64 5)) = some (.v (.int .i64 (kkW 5))) := by kernel_rfl
theorem ixW : ∀ {i : Nat}, i < 6 → lZ Tryz.prog 221 aVn (.v (.int .i64 (i : Int))) = some (.v (.int .i64 (kkW i)))
 | 0, _ => cEs
 | 1, _ => cD1
 | 2, _ => cE4
 | 3, _ => cDv
 | 4, _ => cD9
 | 5, _ => cEf
 | n + 6, h => by omega
theorem mkW : cN Tryz.prog 221 [(0, .v (.int .i64 2044063)), (1, .v (.int .i64 27198923)), (2, .v (.int .i64 245884610)), (3, .v (.int .i64 1372256329)), (4, .v (.int .i64 4014944880)), (5, .v (.int .i64 4294967296))] = some aVn := by kernel_rfl
def bSk : Nat → Option (List Nat) := fun
 | 0 => some [0]
 | 1 => some [0, 3]
 | 2 => some [0, 3, 6, 7]
 | 3 => some [0, 3, 6, 7, 8]
 | 4 => some [0, 3, 5, 6, 7]
 | 5 => some [0, 3, 6, 7]
 | 6 => some [0, 3, 6, 7]
 | 7 => some [2]
 | _ => none
attribute [go_sem] bSk
def aJq : List (FuncId × (List AV → Mem → Option (AV × Mem))) := [(188, tmG)]
theorem bVz : aO Tryz.prog 189 bE4 := by
 have hC := aI (P := Tryz.prog) (l := aJq) (aA aRs aF)
 have t1 := taT aJq 188 rfl
 refine aP mixed hC Tryz.func189 rfl bSk false rfl fun args m r h => ?_
 unfold bE4 at h
 split at h
 ·rename_i u
  split at h
  ·rename_i hu
   simp only [Option.some.injEq] at h
   subst h
   refine ⟨nbT, ?_⟩
   refine en ?_
   refine go1 @mkW ?_
   refine cE (fun k e m' => ∃ i : Nat, i ≤ 6 ∧ m = m' ∧ k = 6 - i ∧ e = [(0, .v (.int .i64 u)), (3, .v (.int .i64 (fE u i))), (6, aVn), (7, .v (.int .i64 (i : Int)))]) (k := 6) ⟨0, by decide, rfl, rfl, rfl⟩ ?_
   rintro k e m' ⟨i, hi, rfl, rfl, rfl⟩
   refine go0 ?_
   refine aH rfl (fun hc => ?_) (fun hc => ?_)
   ·have hi1 : i < 6 := by have := of_decide_eq_true hc; omega
    have f1 := ixW hi1
    have c1 := aM1 hu (aYk u i)
    have f2 : IntKind.i64.wrap (kkW i - tm u (fE u i)) = fE u (i + 1) := rfl
    have r6 := cP (i := i) (by omega)
    refine go1 (jn @f1 (jn @t1 (jn @c1 (jn @f2 @r6)))) ?_
    exact ⟨6 - (i + 1), by omega, i + 1, by omega, rfl, rfl, rfl⟩
   ·have hi1 : i = 6 := by have := of_decide_eq_false hc; omega
    subst hi1
    refine go0 ?_
    exact aY rfl rfl
  ·cases h
 ·cases h
def aMd (t : Int) : Int := tm (IntKind.i64.wrap (4294967296 - IntKind.i64.wrap (tm t t * 4))) (fE (tm t t) 6)
def bSs : List AV → Mem → Option (AV × Mem)
 | [.v (.int .i64 t)], m => if inI t then some (iv (aMd t), m) else none
 | _, _ => none
def bXh : Nat → Option (List Nat) := fun
 | 0 => some [0]
 | 1 => some [3]
 | 2 => some [2]
 | _ => none
attribute [go_sem] bXh
def aDr : List (FuncId × (List AV → Mem → Option (AV × Mem))) := [(188, tmG), (189, bE4)]
theorem bXo : aO Tryz.prog 185 bSs := by
 have hC := aI (P := Tryz.prog) (l := aDr) (aA aRs (aA bVz aF))
 have t1 := taT aDr 188 rfl
 have t2 := taT aDr 189 rfl
 refine aP mixed hC Tryz.func185 rfl bXh false rfl fun args m r h => ?_
 unfold bSs at h
 split at h
 ·rename_i t
  split at h
  ·rename_i ht
   simp only [Option.some.injEq] at h
   subst h
   refine ⟨nbT, ?_⟩
   refine en ?_
   have c1 := aM1 ht ht
   have c2 : ∀ mm, bE4 [.v (.int .i64 (tm t t))] mm = some (.v (.int .i64 (fE (tm t t) 6)), mm) := fun mm => if_pos (aSa ht ht)
   have c3 := aM1 (tX (4294967296 - IntKind.i64.wrap (tm t t * 4))) (aYk (tm t t) 6)
   have l2 : ((2 : Int) < 0) = False := by decide
   have s2 : IntKind.i64.wrap (tm t t * 2 ^ min (Int.toNat 2) 64) = IntKind.i64.wrap (tm t t * 4) := rfl
   refine go1 (jn @t1 (jn @c1 (jn @l2 (jn @s2 (jn @t2 (jn @c2 @c3)))))) ?_
   exact aY rfl rfl
  ·cases h
 ·cases h
def pH (t : Int) : Int × Int := if inB t 0 4294967296 = false then (0, 1) else if t > 2147483648 then (IntKind.i64.wrap (0 - aMd (IntKind.i64.wrap (4294967296 - t))), 0) else (aMd t, 0)
def aS8 : List AV → Mem → Option (AV × Mem)
 | [.v (.int .i64 t)], m => if inI t then some (.tup [iv (pH t).1, iv (pH t).2], m) else none
 | _, _ => none
def bEy : Nat → Option (List Nat) := fun
 | 0 => some [0]
 | 1 => some [0, 4]
 | 2 => some [2, 3]
 | 3 => some [0, 8]
 | 4 => some [2, 3]
 | 5 => some [2, 3]
 | _ => none
attribute [go_sem] bEy
def xM : List (FuncId × (List AV → Mem → Option (AV × Mem))) := [(184, aF6), (185, bSs)]
theorem bOr : aO Tryz.prog 181 aS8 := by
 have hC := aI (P := Tryz.prog) (l := xM) (aA bD4 (aA bXo aF))
 have t1 := taT xM 184 rfl
 have t2 := taT xM 185 rfl
 refine aP mixed hC Tryz.func181 rfl bEy false rfl fun args m r h => ?_
 unfold aS8 at h
 split at h
 ·rename_i t
  split at h
  ·rename_i ht
   simp only [Option.some.injEq] at h
   subst h
   refine ⟨nbT, ?_⟩
   refine en ?_
   have c1 : ∀ mm, aF6 [.v (.int .i64 t)] mm = some (.v (.bool (inB t 0 4294967296)), mm) := fun _ => rfl
   have c2 : ∀ mm, bSs [.v (.int .i64 (IntKind.i64.wrap (4294967296 - t)))] mm = some (.v (.int .i64 (aMd (IntKind.i64.wrap (4294967296 - t)))), mm) := fun mm => if_pos (tX _)
   have c3 : ∀ mm, bSs [.v (.int .i64 t)] mm = some (.v (.int .i64 (aMd t)), mm) := fun mm => if_pos ht
   have k1 : (!true) = false := rfl
   have k2 : (!false) = true := rfl
   unfold pH
   cases hb : inB t 0 4294967296 with
   | false =>
    rw [hb] at c1
    refine go1 (jn @t1 (jn @c1 @k2)) ?_
    refine rcT rfl ?_
    refine go0 ?_
    rw [if_pos rfl]
    exact cM rfl rfl rfl
   | true =>
    rw [hb] at c1
    refine go1 (jn @t1 (jn @c1 @k1)) ?_
    refine rcF rfl ?_
    refine go0 ?_
    rw [if_neg (by decide)]
    refine aH rfl (fun hc => ?_) (fun hc => ?_)
    ·rw [if_pos (of_decide_eq_true hc)]
     refine go1 (jn @t2 @c2) ?_
     exact cM rfl rfl rfl
    ·rw [if_neg (of_decide_eq_false hc)]
     refine go1 (jn @t2 @c3) ?_
     exact cM rfl rfl rfl
  ·cases h
 ·cases h
def aG0 (t : Int) : Int × Int := if (pH t).2 ≠ 0 then (0, (pH t).2) else if (pH t).1 < 0 then (IntKind.i64.wrap (4294967296 - IntKind.i64.wrap (4294967296 - (pH t).1) / 2), 0) else (IntKind.i64.wrap (4294967296 + (pH t).1) / 2, 0)
def bF1 : List AV → Mem → Option (AV × Mem)
 | [.v (.int .i64 t)], m => if inI t then some (.tup [iv (aG0 t).1, iv (aG0 t).2], m) else none
 | _, _ => none
def bP1 : Nat → Option (List Nat) := fun
 | 0 => some [0]
 | 1 => some [4, 5]
 | 2 => some [4, 5, 11]
 | 3 => some [2, 3]
 | 4 => some [4, 15]
 | 5 => some [2, 3]
 | 6 => some [2, 3]
 | _ => none
attribute [go_sem] bP1
def aIr : List (FuncId × (List AV → Mem → Option (AV × Mem))) := [(181, aS8)]
theorem bVq : aO Tryz.prog 173 bF1 := by
 have hC := aI (P := Tryz.prog) (l := aIr) (aA bOr aF)
 have t1 := taT aIr 181 rfl
 refine aP mixed hC Tryz.func173 rfl bP1 false rfl fun args m r h => ?_
 unfold bF1 at h
 split at h
 ·rename_i t
  split at h
  ·rename_i ht
   simp only [Option.some.injEq] at h
   subst h
   refine ⟨nbT, ?_⟩
   refine en ?_
   have c1 : ∀ mm, aS8 [.v (.int .i64 t)] mm = some (.tup [.v (.int .i64 (pH t).1), .v (.int .i64 (pH t).2)], mm) := fun mm => if_pos ht
   unfold aG0
   generalize pH t = c at c1
   have s1 := bT6 (IntKind.i64.wrap (4294967296 - c.1))
   have s2 := bT6 (IntKind.i64.wrap (4294967296 + c.1))
   refine go1 (jn @t1 @c1) ?_
   by_cases he : c.2 = 0
   ·have q1 : (c.2 != 0) = false := by rw [he]; rfl
    refine aH rfl (fun hc => by rw [q1] at hc; cases hc) (fun hc => ?_)
    rw [if_neg (by rw [he]; decide)]
    refine go0 ?_
    refine aH rfl (fun hc => ?_) (fun hc => ?_)
    ·rw [if_pos (of_decide_eq_true hc)]
     refine go1 (jn @lt1 @s1) ?_
     exact cM rfl rfl rfl
    ·rw [if_neg (of_decide_eq_false hc)]
     refine go1 (jn @lt1 @s2) ?_
     exact cM rfl rfl rfl
   ·have q1 : (c.2 != 0) = true := by simpa using he
    refine aH rfl (fun hc => ?_) (fun hc => by rw [q1] at hc; cases hc)
    rw [if_pos he]
    refine go0 ?_
    exact cM rfl rfl rfl
  ·cases h
 ·cases h
end
section
attribute [local irreducible] Next aW cF Ops bQ
attribute [local irreducible] bE dH
attribute [local go_sem] cO bP Option.getD_some cJ aT aV iv bGq bF3 aMn bAb bW4 bWw bWx aXm aGa aP4 qK aBf
def aRk (c : Cv) : Bool := if c.kind = 1 then (c.b == 0) && (c.k == 0) else if c.kind = 2 ∨ c.kind = 5 then inB c.b 0 4503599627370496 && (c.k == 0) else if c.kind = 3 then inB c.b 0 4503599627370496 && inB c.k 1 16 else if c.kind = 4 then inB c.b 0 c.a && inB c.k 0 4294967296 else false
def bAg : List AV → Mem → Option (AV × Mem)
 | [.agg cs], m =>
  match aYn cs with
  | some c => some (.v (.bool (aRk c)), m)
  | none => none
 | _, _ => none
def bSc : Nat → Option (List Nat) := fun
 | 0 => some [1]
 | 1 => some [1, 4]
 | 2 => some [1, 4, 5]
 | 3 => some [2]
 | 4 => some [1, 4, 15]
 | 5 => some [1, 4, 15]
 | 6 => some [2]
 | 7 => some [1, 4, 26]
 | 8 => some [2]
 | 9 => some [1, 36]
 | 10 => some [2]
 | 11 => some [2]
 | _ => none
attribute [go_sem] bSc
def aIv : List (FuncId × (List AV → Mem → Option (AV × Mem))) := [(157, oZ)]
theorem bWg : aO Tryz.prog 158 bAg := by
 have hC := aI (P := Tryz.prog) (l := aIv) (aA aDb aF)
 have t1 := taT aIv 157 rfl
 refine aP mixed hC Tryz.func158 rfl bSc false rfl fun args m r h => ?_
 unfold bAg at h
 split at h
 ·rename_i cs
  split at h
  ·rename_i c hc0
   obtain rfl := uF hc0
   simp only [Option.some.injEq] at h
   subst h
   refine ⟨nbT, ?_⟩
   refine en ?_
   have v2 : (m.push c.row).var m.vars.length = some c.row := aJ
   have nr := aMn (m := m) (x := c)
   have hA := aG (cs := c.row) (aM m)
   refine go1 @nr ?_
   generalize m.push c.row = m2 at v2 hA
   generalize m.vars.length = r2 at v2
   have l0 := aO3 v2
   have l1 := bGt v2
   have l2 := bOj v2
   have l3 := bNq v2
   have c1 := eB c.b 0 4503599627370496
   have c2 := eB c.k 1 16
   have c3 := eB c.b 0 c.a
   have c4 := eB c.k 0 4294967296
   unfold aRk
   refine go1 @l0 ?_
   by_cases k1 : c.kind = 1
   ·refine aH rfl (fun hc => ?_) (fun hc => absurd hc (by rw [k1]; decide))
    rw [if_pos k1]
    cases hb : (c.b == 0) with
    | false =>
     refine go1 (jn @l2 @hb) ?_
     exact aE rfl rfl (aC hA)
    | true =>
     refine go1 (jn @l2 (jn @hb @l3)) ?_
     exact aE rfl rfl (aC hA)
   ·have b1 : (c.kind == 1) = false := by rw [beq_eq_false_iff_ne]; exact k1
    refine aH rfl (fun hc => by rw [b1] at hc; cases hc) (fun hc => ?_)
    rw [if_neg k1]
    refine go0 ?_
    by_cases k2 : c.kind = 2 ∨ c.kind = 5
    ·rw [if_pos k2]
     cases hb : inB c.b 0 4503599627370496 with
     | false =>
      rw [hb] at c1
      refine aH rfl (fun hc => ?_) (fun hc => ?_)
      ·refine go0 ?_
       refine aH rfl (fun hc => ?_) (fun hc2 => by rw [hc] at hc2; cases hc2)
       refine go1 (jn @l2 (jn @t1 @c1)) ?_
       exact aE rfl rfl (aC hA)
      ·refine go0 ?_
       have b5 : (c.kind == 5) = true := by
        rcases k2 with k2 | k2
        ·rw [k2] at hc; exact absurd hc (by decide)
        ·rw [k2]; rfl
       refine aH rfl (fun hc => ?_) (fun hc2 => by rw [b5] at hc2; cases hc2)
       refine go1 (jn @l2 (jn @t1 @c1)) ?_
       exact aE rfl rfl (aC hA)
     | true =>
      rw [hb] at c1
      refine aH rfl (fun hc => ?_) (fun hc => ?_)
      ·refine go0 ?_
       refine aH rfl (fun hc => ?_) (fun hc2 => by rw [hc] at hc2; cases hc2)
       refine go1 (jn @l2 (jn @t1 (jn @c1 @l3))) ?_
       exact aE rfl rfl (aC hA)
      ·refine go0 ?_
       have b5 : (c.kind == 5) = true := by
        rcases k2 with k2 | k2
        ·rw [k2] at hc; exact absurd hc (by decide)
        ·rw [k2]; rfl
       refine aH rfl (fun hc => ?_) (fun hc2 => by rw [b5] at hc2; cases hc2)
       refine go1 (jn @l2 (jn @t1 (jn @c1 @l3))) ?_
       exact aE rfl rfl (aC hA)
    ·have b2 : (c.kind == 2) = false := by rw [beq_eq_false_iff_ne]; exact fun h => k2 (.inl h)
     have b5 : (c.kind == 5) = false := by rw [beq_eq_false_iff_ne]; exact fun h => k2 (.inr h)
     rw [if_neg k2]
     refine aH rfl (fun hc => by rw [b2] at hc; cases hc) (fun hc => ?_)
     refine go0 ?_
     refine aH rfl (fun hc => by rw [b5] at hc; cases hc) (fun hc => ?_)
     refine go0 ?_
     by_cases k3 : c.kind = 3
     ·rw [if_pos k3]
      refine aH rfl (fun hc => ?_) (fun hc => absurd hc (by rw [k3]; decide))
      cases hb : inB c.b 0 4503599627370496 with
      | false =>
       rw [hb] at c1
       refine go1 (jn @l2 (jn @t1 @c1)) ?_
       exact aE rfl rfl (aC hA)
      | true =>
       rw [hb] at c1
       refine go1 (jn @l2 (jn @t1 (jn @c1 (jn @l3 @c2)))) ?_
       exact aE rfl rfl (aC hA)
     ·rw [if_neg k3]
      have b3 : (c.kind == 3) = false := by rw [beq_eq_false_iff_ne]; exact k3
      refine aH rfl (fun hc => by rw [b3] at hc; cases hc) (fun hc => ?_)
      refine go0 ?_
      by_cases k4 : c.kind = 4
      ·rw [if_pos k4]
       refine aH rfl (fun hc => ?_) (fun hc => absurd hc (by rw [k4]; decide))
       cases hb : inB c.b 0 c.a with
       | false =>
        rw [hb] at c3
        refine go1 (jn @l1 (jn @l2 (jn @t1 @c3))) ?_
        exact aE rfl rfl (aC hA)
       | true =>
        rw [hb] at c3
        refine go1 (jn @l1 (jn @l2 (jn @t1 (jn @c3 (jn @l3 @c4))))) ?_
        exact aE rfl rfl (aC hA)
      ·rw [if_neg k4]
       have b4 : (c.kind == 4) = false := by rw [beq_eq_false_iff_ne]; exact k4
       refine aH rfl (fun hc => by rw [b4] at hc; cases hc) (fun hc => ?_)
       refine go0 ?_
       exact aE rfl rfl (aC hA)
  ·cases h
 ·cases h
def jV (c : Cv) : Bool := inB c.a 0 4503599627370496 && aRk c
theorem aOz {c : Cv} (h : jV c = true) : inI c.a ∧ inI c.b ∧ inI c.k := by
 unfold jV aRk at h
 rw [Bool.and_eq_true, dW] at h
 obtain ⟨⟨a0, a1⟩, h⟩ := h
 have ha : inI c.a := ⟨by omega, by omega⟩
 refine ⟨ha, ?_⟩
 unfold inI
 split at h
 ·simp only [Bool.and_eq_true, beq_iff_eq] at h; omega
 ·split at h
  ·simp only [Bool.and_eq_true, beq_iff_eq, dW] at h; omega
  ·split at h
   ·simp only [Bool.and_eq_true, dW] at h; omega
   ·split at h
    ·simp only [Bool.and_eq_true, dW] at h; omega
    ·cases h
def lR : List AV → Mem → Option (AV × Mem)
 | [.agg cs], m =>
  match aYn cs with
  | some c => some (iv (if jV c then 0 else 1), m)
  | none => none
 | _, _ => none
theorem aCt (c : Cv) (m : Mem) : lR [.agg c.row] m = some (.v (.int .i64 (if jV c then 0 else 1)), m) := by
 simp only [lR, aAl]
 rfl
def aFw : Nat → Option (List Nat) := fun
 | 0 => some [1]
 | 1 => some [11]
 | 2 => some [2]
 | 3 => some [2]
 | _ => none
attribute [go_sem] aFw
def lW : List (FuncId × (List AV → Mem → Option (AV × Mem))) := [(157, oZ), (158, bAg)]
theorem aCq : aO Tryz.prog 143 lR := by
 have hC := aI (P := Tryz.prog) (l := lW) (aA aDb (aA bWg aF))
 have t1 := taT lW 157 rfl
 have t2 := taT lW 158 rfl
 refine aP mixed hC Tryz.func143 rfl aFw false rfl fun args m r h => ?_
 unfold lR at h
 split at h
 ·rename_i cs
  split at h
  ·rename_i c hc0
   obtain rfl := uF hc0
   simp only [Option.some.injEq] at h
   subst h
   refine ⟨nbT, ?_⟩
   refine en ?_
   have v2 : (m.push c.row).var m.vars.length = some c.row := aJ
   have nr := aMn (m := m) (x := c)
   have hA := aG (cs := c.row) (aM m)
   refine go1 @nr ?_
   generalize m.push c.row = m2 at v2 hA
   generalize m.vars.length = r2 at v2
   have l1 := bGt v2
   have l0 := cCa v2
   have c1 := eB c.a 0 4503599627370496
   have c2 : ∀ mm, bAg [.agg c.row] mm = some (.v (.bool (aRk c)), mm) := fun mm => by simp only [bAg, aAl]
   have k1 : (!true) = false := rfl
   have k2 : (!false) = true := rfl
   unfold jV
   cases ha : inB c.a 0 4503599627370496 with
   | false =>
    rw [ha] at c1
    refine go1 (jn @l1 (jn @t1 (jn @c1 @k2))) ?_
    refine rcT rfl ?_
    refine go0 ?_
    exact aE rfl rfl (aC hA)
   | true =>
    rw [ha] at c1
    cases hb : aRk c with
    | false =>
     rw [hb] at c2
     refine go1 (jn @l1 (jn @t1 (jn @c1 (jn @k1 (jn @k2 (jn @l0 (jn @t2 @c2))))))) ?_
     refine rcT rfl ?_
     refine go0 ?_
     exact aE rfl rfl (aC hA)
    | true =>
     rw [hb] at c2
     refine go1 (jn @l1 (jn @t1 (jn @c1 (jn @k1 (jn @l0 (jn @t2 @c2)))))) ?_
     refine rcF rfl ?_
     refine go0 ?_
     exact aE rfl rfl (aC hA)
  ·cases h
 ·cases h
def bNn (c : Cv) (i : Int) : Int := mx c.b (fZ c.a (yG c.k i).1).1
def bNo : List AV → Mem → Option (AV × Mem)
 | [.agg cs, .v (.int .i64 i)], m =>
  match aYn cs with
  | some c => if inI c.a ∧ inI c.k then some (iv (bNn c i), m) else none
  | none => none
 | _, _ => none
def bXb : Nat → Option (List Nat) := fun
 | 0 => some [1, 2]
 | 1 => some [2, 5]
 | 2 => some [2, 7]
 | 3 => some [4]
 | _ => none
attribute [go_sem] bXb
def aDy : List (FuncId × (List AV → Mem → Option (AV × Mem))) := [(172, bLb), (114, aGo)]
theorem bZl : aO Tryz.prog 161 bNo := by
 have hC := aI (P := Tryz.prog) (l := aDy) (aA bLy (aA aH1 aF))
 have t1 := taT aDy 172 rfl
 have t2 := taT aDy 114 rfl
 refine aP mixed hC Tryz.func161 rfl bXb false rfl fun args m r h => ?_
 unfold bNo at h
 split at h
 ·rename_i cs i
  split at h
  ·rename_i c hc0
   obtain rfl := uF hc0
   split at h
   ·rename_i hyp
    obtain ⟨ha, hk⟩ := hyp
    simp only [Option.some.injEq] at h
    subst h
    refine ⟨nbT, ?_⟩
    refine en ?_
    have v2 : (m.push c.row).var m.vars.length = some c.row := aJ
    have nr := aMn (m := m) (x := c)
    have hA := aG (cs := c.row) (aM m)
    refine go1 @nr ?_
    generalize m.push c.row = m2 at v2 hA
    generalize m.vars.length = r2 at v2
    have l1 := bGt v2
    have l2 := bOj v2
    have l3 := bNq v2
    have c1 : ∀ mm, bLb [.v (.int .i64 c.k), .v (.int .i64 i)] mm = some (.tup [.v (.int .i64 (yG c.k i).1), .v (.int .i64 (yG c.k i).2)], mm) := fun mm => if_pos hk
    have c2 := aF0 ha (bEn i hk)
    unfold bNn
    refine go1 (jn @l1 (jn @l2 (jn @l3 (jn @t1 (jn @c1 (jn @t2 @c2)))))) ?_
    exact aE rfl rfl (aC hA)
   ·cases h
  ·cases h
 ·cases h
def pZ (c : Cv) (t : Int) : Int := if c.kind = 3 then (yG (IntKind.i64.wrap (4294967296 - t)) c.k).1 else if c.kind = 5 then (aG0 t).1 else 4294967296
def aGy : List AV → Mem → Option (AV × Mem)
 | [.agg cs, .v (.int .i64 t)], m =>
  match aYn cs with
  | some c => if inI t then some (iv (pZ c t), m) else none
  | none => none
 | _, _ => none
def aXa : Nat → Option (List Nat) := fun
 | 0 => some [1, 2]
 | 1 => some [1, 2, 10]
 | 2 => some [1, 2, 10, 11]
 | 3 => some [5]
 | 4 => some [4]
 | 5 => some [1, 22]
 | 6 => some [7]
 | 7 => some [4]
 | 8 => some [4]
 | _ => none
attribute [go_sem] aXa
def tO : List (FuncId × (List AV → Mem → Option (AV × Mem))) := [(172, bLb), (173, bF1)]
theorem bKw : aO Tryz.prog 162 aGy := by
 have hC := aI (P := Tryz.prog) (l := tO) (aA bLy (aA bVq aF))
 have t1 := taT tO 172 rfl
 have t2 := taT tO 173 rfl
 refine aP mixed hC Tryz.func162 rfl aXa false rfl fun args m r h => ?_
 unfold aGy at h
 split at h
 ·rename_i cs t
  split at h
  ·rename_i c hc0
   obtain rfl := uF hc0
   split at h
   ·rename_i ht
    simp only [Option.some.injEq] at h
    subst h
    refine ⟨nbT, ?_⟩
    refine en ?_
    have v2 : (m.push c.row).var m.vars.length = some c.row := aJ
    have nr := aMn (m := m) (x := c)
    have hA := aG (cs := c.row) (aM m)
    refine go1 @nr ?_
    generalize m.push c.row = m2 at v2 hA
    generalize m.vars.length = r2 at v2
    have l0 := aO3 v2
    have l3 := bNq v2
    have c1 : ∀ mm, bLb [.v (.int .i64 (IntKind.i64.wrap (4294967296 - t))), .v (.int .i64 c.k)] mm = some (.tup [.v (.int .i64 (yG (IntKind.i64.wrap (4294967296 - t)) c.k).1), .v (.int .i64 (yG (IntKind.i64.wrap (4294967296 - t)) c.k).2)], mm) := fun mm => if_pos (tX _)
    have c2 : ∀ mm, bF1 [.v (.int .i64 t)] mm = some (.tup [.v (.int .i64 (aG0 t).1), .v (.int .i64 (aG0 t).2)], mm) := fun mm => if_pos ht
    unfold pZ
    refine go1 @l0 ?_
    by_cases k3 : c.kind = 3
    ·rw [if_pos k3]
     refine aH rfl (fun hc => ?_) (fun hc => absurd hc (by rw [k3]; decide))
     refine go1 (jn @l3 (jn @t1 @c1)) ?_
     exact aE rfl rfl (aC hA)
    ·rw [if_neg k3]
     have b3 : (c.kind == 3) = false := by rw [beq_eq_false_iff_ne]; exact k3
     refine aH rfl (fun hc => by rw [b3] at hc; cases hc) (fun hc => ?_)
     refine go0 ?_
     by_cases k5 : c.kind = 5
     ·rw [if_pos k5]
      refine aH rfl (fun hc => ?_) (fun hc => absurd hc (by rw [k5]; decide))
      refine go1 (jn @t2 @c2) ?_
      exact aE rfl rfl (aC hA)
     ·rw [if_neg k5]
      have b5 : (c.kind == 5) = false := by rw [beq_eq_false_iff_ne]; exact k5
      refine aH rfl (fun hc => by rw [b5] at hc; cases hc) (fun hc => ?_)
      refine go0 ?_
      exact aE rfl rfl (aC hA)
   ·cases h
  ·cases h
 ·cases h
end
section
attribute [local irreducible] Next aW cF Ops bQ
attribute [local irreducible] bE dH
attribute [local go_sem] cO bP Option.getD_some cJ aT aV iv bGq bF3 aMn bAb bW4 bWw bWx aXm aGa aP4 qK aBf bT9 bU5 bN4 bWs bZ8
theorem cAj {a b : Int} : cN Tryz.prog 94 [(0, .v (.int .i64 a)), (1, .v (.int .i64 b))] = some (.agg [.v (.int .i64 a), .v (.int .i64 b)]) := by kernel_rfl
attribute [local go_sem] cAj
theorem bWp {b : Int} : cN Tryz.prog 94 [(1, .v (.int .i64 b))] = some (.agg [.v (.int .i64 0), .v (.int .i64 b)]) := by kernel_rfl
attribute [local go_sem] bWp
theorem bKo {i n : Int} : inI (jY i n).1 := by
 unfold jY
 split
 ·exact (by decide : inI 0)
 ·split
  ·exact (by decide : inI 0)
  ·exact tX _
def eL (c : Cv) (i n : Int) : Int × Int :=
 if jV c = false ∨ inB n 1 1048576 = false ∨ inB i 0 (n - 1) = false then (0, 1) else if c.kind = 4 then (bNn c i, 0) else if c.kind = 2 then mX c.a c.b (jY i n).1 else mX c.b c.a (pZ c (jY i n).1)
def aAv : List AV → Mem → Option (AV × Mem)
 | [.agg cs, .v (.int .i64 i), .v (.int .i64 n)], m =>
  match aYn cs with
  | some c => some (.tup [iv (eL c i n).1, iv (eL c i n).2], m)
  | none => none
 | _, _ => none
theorem aM5 (c : Cv) (i n : Int) (m : Mem) : aAv [.agg c.row, .v (.int .i64 i), .v (.int .i64 n)] m = some (.tup [.v (.int .i64 (eL c i n).1), .v (.int .i64 (eL c i n).2)], m) := by
 simp only [aAv, aAl]
 rfl
def fL : Nat → Option (List Nat) := fun
 | 0 => some [1, 2, 3]
 | 1 => some [1, 2, 3, 24]
 | 2 => some [6, 7]
 | 3 => some [1, 3, 8]
 | 4 => some [1, 3, 8, 32]
 | 5 => some [1, 3, 8, 32, 33]
 | 6 => some [6, 7]
 | 7 => some [3, 8, 38]
 | 8 => some [6, 7]
 | 9 => some [6, 7]
 | _ => none
attribute [go_sem] fL
def kT : List (FuncId × (List AV → Mem → Option (AV × Mem))) := [(143, lR), (157, oZ), (160, aTr), (161, bNo), (136, aXs), (162, aGy)]
theorem bDd : aO Tryz.prog 149 aAv := by
 have hC := aI (P := Tryz.prog) (l := kT) (aA aCq (aA aDb (aA bRn (aA bZl (aA bFb (aA bKw aF))))))
 have t1 := taT kT 143 rfl
 have t2 := taT kT 157 rfl
 have t3 := taT kT 160 rfl
 have t4 := taT kT 161 rfl
 have t5 := taT kT 136 rfl
 have t6 := taT kT 162 rfl
 refine dJ Tryz.func149 rfl false rfl fun args m r h => ?_
 unfold aAv at h
 split at h
 ·rename_i cs i n
  split at h
  ·rename_i c hc0
   obtain rfl := uF hc0
   simp only [Option.some.injEq] at h
   subst h
   refine ⟨nbT, fun φ wd => ?_⟩
   refine en ?_
   have v2 : (m.push c.row).var m.vars.length = some c.row := aJ
   have nr := aMn (m := m) (x := c)
   have hA := aG (cs := c.row) (aM m)
   refine xq ?_
   refine aB (kp := fL) mixed hC ?_
   refine go1 @nr ?_
   refine xq ?_
   generalize m.push c.row = m2 at v2 hA
   generalize m.vars.length = r2 at v2
   have l0 := cCa v2
   have lk := aO3 v2
   have la := bGt v2
   have lb := bOj v2
   have c1 := aCt c
   have c2 := eB n 1 1048576
   have c3 := eB i 0 (n - 1)
   have k1 : (!true) = false := rfl
   have k2 : (!false) = true := rfl
   have z0 : ((0 : Int) != 0) = false := rfl
   have z1 : ((1 : Int) != 0) = true := rfl
   have hres : ∀ (e : Env) (x y : Int), Ev.get e 6 = .v (.int .i64 x) → Ev.get e 7 = .v (.int .i64 y) → (x, y) = eL c i n → aEu Tryz.prog false Tryz.f149 m (.tup [iv (eL c i n).1, iv (eL c i n).2], m) .ret e m2 [] := fun e x y h1 h2 h3 => by
    rw [← h3]
    exact aX (bT rfl (by decide) (.cons rfl (by rw [h1]; rfl) (.cons rfl (by rw [h2]; rfl) .nil)) (aC hA))
   refine aB (kp := fL) mixed hC ?_
   cases ho : jV c with
   | false =>
    rw [ho] at c1
    simp only [Bool.false_eq_true, if_false] at c1
    refine go1 (jn @l0 (jn @t1 (jn @c1 @z1))) ?_
    refine xq ?_
    refine xcT rfl ?_
    refine xq ?_
    refine aB (kp := fL) mixed hC ?_
    refine go0 ?_
    refine xq ?_
    exact hres _ _ _ rfl rfl (by unfold eL; rw [if_pos (.inl ho)])
   | true =>
    rw [ho] at c1
    simp only [if_true] at c1
    cases hn : inB n 1 1048576 with
    | false =>
     rw [hn] at c2
     refine go1 (jn @l0 (jn @t1 (jn @c1 (jn @z0 (jn @t2 (jn @c2 @k2)))))) ?_
     refine xq ?_
     refine xcT rfl ?_
     refine xq ?_
     refine aB (kp := fL) mixed hC ?_
     refine go0 ?_
     refine xq ?_
     exact hres _ _ _ rfl rfl (by unfold eL; rw [if_pos (.inr (.inl hn))])
    | true =>
     have hn2 := dW.1 hn
     have w1 : IntKind.i64.wrap (n - 1) = n - 1 := bB (by omega) (by omega)
     rw [hn] at c2
     cases hi : inB i 0 (n - 1) with
     | false =>
      rw [hi] at c3
      refine go1 (jn @l0 (jn @t1 (jn @c1 (jn @z0 (jn @t2 (jn @c2 (jn @k1 (jn @k2 (jn @w1 @c3))))))))) ?_
      refine xq ?_
      refine xcT rfl ?_
      refine xq ?_
      refine aB (kp := fL) mixed hC ?_
      refine go0 ?_
      refine xq ?_
      exact hres _ _ _ rfl rfl (by unfold eL; rw [if_pos (.inr (.inr hi))])
     | true =>
      have hi2 := dW.1 hi
      rw [hi] at c3
      refine go1 (jn @l0 (jn @t1 (jn @c1 (jn @z0 (jn @t2 (jn @c2 (jn @k1 (jn @w1 @c3)))))))) ?_
      refine xq ?_
      refine xcF rfl ?_
      have e0 : eL c i n = if c.kind = 4 then (bNn c i, 0) else if c.kind = 2 then mX c.a c.b (jY i n).1 else mX c.b c.a (pZ c (jY i n).1) := by unfold eL; rw [if_neg (by rw [ho, hn, hi]; simp)]
      rw [e0] at hres ⊢
      refine xq ?_
      have c4 : ∀ mm, aTr [.v (.int .i64 i), .v (.int .i64 n)] mm = some (.tup [.v (.int .i64 (jY i n).1), .v (.int .i64 (jY i n).2)], mm) := fun mm => if_pos ⟨by omega, by omega, by omega⟩
      obtain ⟨ha, hb, hk⟩ := aOz ho
      have c5 : ∀ mm, bNo [.agg c.row, .v (.int .i64 i)] mm = some (.v (.int .i64 (bNn c i)), mm) := fun mm => by
       simp only [bNo, aAl]
       exact if_pos ⟨ha, hk⟩
      have ht := bKo (i := i) (n := n)
      generalize (jY i n).1 = t at *
      have c6 := aN4 (t := t) ha hb
      have c7 : ∀ mm, aGy [.agg c.row, .v (.int .i64 t)] mm = some (.v (.int .i64 (pZ c t)), mm) := fun mm => by
       simp only [aGy, aAl]
       exact if_pos ht
      have c8 := aN4 (t := pZ c t) hb ha
      refine aB (kp := fL) mixed hC ?_
      refine go1 (jn @t3 @c4) ?_
      refine xq ?_
      refine aB (kp := fL) mixed hC ?_
      refine go1 @lk ?_
      refine xq ?_
      refine aB (kp := fL) mixed hC ?_
      refine go0 ?_
      refine xq ?_
      by_cases k4 : c.kind = 4
      ·rw [if_pos k4] at hres ⊢
       refine cK rfl (fun hc => ?_) (fun hc => absurd hc (by rw [k4]; decide))
       refine xq ?_
       refine aB (kp := fL) mixed hC ?_
       refine go1 (jn @l0 (jn @t4 @c5)) ?_
       refine xq ?_
       exact hres _ _ _ rfl rfl rfl
      ·rw [if_neg k4] at hres ⊢
       refine cK rfl (fun hc => absurd (eq_of_beq hc) k4) (fun hc => ?_)
       refine xq ?_
       refine aB (kp := fL) mixed hC ?_
       refine go0 ?_
       refine xq ?_
       by_cases kk2 : c.kind = 2
       ·rw [if_pos kk2] at hres ⊢
        refine cK rfl (fun hc => ?_) (fun hc => absurd hc (by rw [kk2]; decide))
        refine xq ?_
        refine aB (kp := fL) mixed hC ?_
        refine go1 (jn @la (jn @lb (jn @t5 @c6))) ?_
        refine xq ?_
        exact hres _ _ _ rfl rfl rfl
       ·rw [if_neg kk2] at hres ⊢
        refine cK rfl (fun hc => absurd (eq_of_beq hc) kk2) (fun hc => ?_)
        refine xq ?_
        refine bN (l2 := fL 9) mixed hC (by kernel_rfl) ?_
        refine eJ (jn @la (jn @lb (jn @l0 (jn @t6 (jn @c7 (jn @t5 @c8)))))) ?_
        refine xq ?_
        exact hres _ _ _ rfl rfl rfl
  ·cases h
 ·cases h
/-! ### cycles -/
def rD (a b c : Int) : Bool := inB a 1 1048576 && inB b 1 16 && inB c 0 1048576
def aKo : List AV → Mem → Option (AV × Mem)
 | [.v (.int .i64 a), .v (.int .i64 b), .v (.int .i64 c)], m => some (.v (.bool (rD a b c)), m)
 | _, _ => none
def aZg : Nat → Option (List Nat) := fun
 | 0 => some [0, 1, 2]
 | 1 => some [6]
 | _ => none
attribute [go_sem] aZg
def aCv : List (FuncId × (List AV → Mem → Option (AV × Mem))) := [(174, oZ)]
theorem bKd : aO Tryz.prog 163 aKo := by
 have hC := aI (P := Tryz.prog) (l := aCv) (aA bDr aF)
 have t1 := taT aCv 174 rfl
 refine aP mixed hC Tryz.func163 rfl aZg false rfl fun args m r h => ?_
 unfold aKo at h
 split at h
 ·rename_i a b c
  simp only [Option.some.injEq] at h
  subst h
  refine ⟨nbT, ?_⟩
  refine en ?_
  have c1 := eB a 1 1048576
  have c2 := eB b 1 16
  have c3 := eB c 0 1048576
  unfold rD
  cases h1 : inB a 1 1048576 with
  | false =>
   rw [h1] at c1
   refine go1 (jn @t1 @c1) ?_
   exact aY rfl rfl
  | true =>
   rw [h1] at c1
   cases h2 : inB b 1 16 with
   | false =>
    rw [h2] at c2
    refine go1 (jn @t1 (jn @c1 @c2)) ?_
    exact aY rfl rfl
   | true =>
    rw [h2] at c2
    refine go1 (jn @t1 (jn @c1 (jn @c2 @c3))) ?_
    exact aY rfl rfl
 ·cases h
def uX (times : Int) (s : Sp) : Sp := ⟨s.to_, s.to_ + mn ((s.to_ - s.from_) * times) 1048576⟩
def aTz (s : Sp) : Prop := 0 ≤ s.from_ ∧ s.from_ < s.to_ ∧ s.to_ ≤ 4194304
instance (s : Sp) : Decidable (aTz s) := by unfold aTz; exact inferInstance
theorem cBo {d t : Int} (h0 : 0 < d) (h1 : d ≤ 4194304) (t1 : 1 ≤ t) (t2 : t ≤ 16) : d ≤ d * t ∧ d * t ≤ 67108864 := by
 constructor
 ·have := Int.mul_le_mul_of_nonneg_left t1 (show 0 ≤ d by omega)
  omega
 ·exact Int.mul_le_mul h1 t2 (by omega) (by decide)
def aWd : List AV → Mem → Option (AV × Mem)
 | [.agg cs, .v (.int .i64 t)], m =>
  match bJe cs with
  | some s => if aTz s ∧ 1 ≤ t ∧ t ≤ 16 then some (.agg (uX t s).row, m) else none
  | none => none
 | _, _ => none
def bN9 : Nat → Option (List Nat) := fun
 | 0 => some [1, 2, 4]
 | 1 => some [4]
 | _ => none
attribute [go_sem] bN9
theorem bV2 : aO Tryz.prog 175 aWd := by
 have hC := aI (P := Tryz.prog) (l := []) aF
 refine aP mixed hC Tryz.func175 rfl bN9 false rfl fun args m r h => ?_
 unfold aWd at h
 split at h
 ·rename_i cs t
  split at h
  ·rename_i s hs0
   obtain rfl := aHb hs0
   split at h
   ·rename_i hyp
    obtain ⟨⟨f0, f1, f2⟩, t1, t2⟩ := hyp
    simp only [Option.some.injEq] at h
    subst h
    refine ⟨nbT, ?_⟩
    refine en ?_
    have v2 : ((m.push s.row).push eG).var m.vars.length = some s.row := aQ aJ
    have v4 : ((m.push s.row).push eG).var (m.push s.row).vars.length = some eG := aJ
    have nr := aP4 (m := m) (x := s)
    have nz := bN4 (m := m.push s.row)
    have hA := aG (cs := eG) (aG (cs := s.row) (aM m))
    have hge : m.vars.length ≤ (m.push s.row).vars.length := by rw [cH]; omega
    refine go1 (jn @nr @nz) ?_
    generalize (m.push s.row).push eG = m2 at v2 v4 hA
    generalize (m.push s.row).vars.length = r4 at v4 hge
    generalize m.vars.length = r2 at v2
    have l0 := aB3 v2
    have l1 := aFp v2
    obtain ⟨p0, p1⟩ := cBo (d := s.to_ - s.from_) (t := t) (by omega) (by omega) t1 t2
    have w1 : IntKind.i64.wrap (s.to_ - s.from_) = s.to_ - s.from_ := bB (by omega) (by omega)
    have w2 : IntKind.i64.wrap ((s.to_ - s.from_) * t) = (s.to_ - s.from_) * t := bB (by omega) (by omega)
    have hm : 0 ≤ mn ((s.to_ - s.from_) * t) 1048576 ∧ mn ((s.to_ - s.from_) * t) 1048576 ≤ 1048576 := by unfold mn; split <;> omega
    have w3 : IntKind.i64.wrap (s.to_ + mn ((s.to_ - s.from_) * t) 1048576) = s.to_ + mn ((s.to_ - s.from_) * t) 1048576 := bB (by omega) (by omega)
    have st : aR Tryz.prog m2 94 (.ptr r4 0) (.agg [.v (.int .i64 s.to_), .v (.int .i64 (s.to_ + mn ((s.to_ - s.from_) * t) 1048576))]) = some (bO m2 r4 (uX t s).row) := aS v4 bJx rfl rfl (Nat.le_refl _) rfl rfl
    refine go1 (jn @l0 (jn @l1 (jn @w1 (jn @w2 (jn @w3 @st))))) ?_
    exact eK rfl (bCj (bA v4)) rfl (aC (bD hA hge))
   ·cases h
  ·cases h
 ·cases h
end
end Go.Proofs.YtmockbddhhmmeaaGreat.Ev
