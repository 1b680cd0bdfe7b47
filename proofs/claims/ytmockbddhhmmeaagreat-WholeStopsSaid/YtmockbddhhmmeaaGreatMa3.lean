/- An operation: what the evaluator says of it, the machine does. -/
import Derived.Test.YtmockbddhhmmeaaGreatMa2
import Derived.LoopN
import Derived.Tactics
import Derived.Orders
namespace Go.Proofs.YtmockbddhhmmeaaGreat.Ev
open Go Go.Proofs
set_option maxRecDepth 10000
set_option maxHeartbeats 8000000
set_option linter.unusedVariables false
set_option linter.unusedSimpArgs false
section

/-- What the evaluator says of calls, the machine does. -/
def dU (P : Program) (call : CallF) : Prop :=
 ∀ f args m r m', call f args m = some (r, m') →
  (∃ fn, P.funcs[f]? = some fn ∧ fn.body.isNone = false ∧ (fn.name == "runtime.NumGoroutine") = false) ∧
  ∀ φ w vals, RM φ m w → Reps φ m w args vals →
   Calls P f vals w fun e w' => ∃ x φ', e = .returned x ∧ RM φ' m' w' ∧ Ext φ m w φ' m' w' ∧ Rep φ' m' w' r x

section
variable {P : Program} {φ : Phi} {m : Mem} {w : World}

theorem bW {s : Sem Value} {x : Value} {w' : World} (h : s.run P w = .ok x w') : (do pure (Next.value (← s)) : Sem Next).run P w = .ok (.value x) w' := by
 simp [Sem.run_bind, h]
theorem bAn {s : Sem Unit} {w' : World} (h : s.run P w = .ok () w') : (do s; pure Next.skip : Sem Next).run P w = .ok .skip w' := by
 simp [Sem.run_bind, h]

theorem bO4 {ops : List Operand} {f : Operand → AV} {ρ : Operand → Value} (h : ∀ x, Rep φ m w (f x) (ρ x)) : Reps φ m w (ops.map f) (ops.map ρ).toArray :=
 ⟨by simp, fun i a u h1 h2 => by
  simp only [List.getElem?_map, Option.map_eq_some_iff] at h1
  simp only [List.getElem?_toArray, List.getElem?_map, Option.map_eq_some_iff] at h2
  obtain ⟨x, hx, rfl⟩ := h1
  obtain ⟨y, hy, rfl⟩ := h2
  rw [hx] at hy
  cases hy
  exact h x⟩
theorem aRd {ops : Array Operand} {f : Operand → AV} {ρ : Operand → Value} (h : ∀ x, Rep φ m w (f x) (ρ x)) : Reps φ m w (ops.toList.map f) (ops.map ρ) := by
 have := bO4 (ops := ops.toList) h
 have e : (ops.toList.map ρ).toArray = ops.map ρ := by apply Array.ext'; simp
 rwa [e] at this
theorem bOq {P : Program} {e : Env} {a : Act} (hE : cX φ m w e a.tmps) {ts : List TypeId} {xs : Array Operand} (hl : ts.length = xs.size) :
  Reps φ m w (List.zipWith (opd P e) ts xs.toList) (xs.map a.eval) :=
 ⟨by simp [hl], fun i b u h1 h2 => by
  simp only [List.getElem?_zipWith] at h1
  simp only [Array.getElem?_map, Option.map_eq_some_iff] at h2
  obtain ⟨y, hy, rfl⟩ := h2
  cases h3 : ts[i]? with
  | none => simp [h3] at h1
  | some t =>
   have hy' : xs.toList[i]? = some y := by simpa using hy
   simp only [h3, hy', Option.some.injEq] at h1
   subst h1
   exact fU hE t y⟩
theorem aHi {P : Program} {e : Env} {a : Act} (hE : cX φ m w e a.tmps) (t : TypeId) (ps : Array (Nat × Operand)) :
  lT φ m w (ps.toList.map fun (i, x) => (i, opd P e (pL P t i) x)) (ps.map fun (i, x) => (i, a.eval x)).toList :=
 ⟨by simp, fun i p v h1 h2 => by
  simp only [List.getElem?_map, Option.map_eq_some_iff, Array.toList_map] at h1 h2
  obtain ⟨x, hx, rfl⟩ := h1
  obtain ⟨y, hy, rfl⟩ := h2
  rw [hx] at hy
  cases hy
  exact ⟨rfl, fU hE _ _⟩⟩
theorem xW {P : Program} {e : Env} {a : Act} (hE : cX φ m w e a.tmps) (t : TypeId) (x : Option Operand) : aDv φ m w (x.map (opd P e t)) (x.map a.eval) := by
 cases x with
 | none => exact .inl ⟨rfl, rfl⟩
 | some x => exact .inr ⟨_, _, rfl, rfl, fU hE t x⟩

/-- An argument is what it was, but nobody grows it. -/
theorem zV {a : AV} {x : Value} (h : Rep φ m w a x) : Rep φ m w (eR a) x := by
 cases h with
 | lst g sz rows ad c val hc hr ha hs hcell hrep hg => exact .lst _ _ _ _ _ val hc hr ha hs hcell hrep trivial
 | junk x => exact .junk x
 | v x => exact .v x
 | agg cs arr hn h => exact .agg cs arr hn h
 | tup cs arr hn h => exact .tup cs arr hn h
 | ptr r off cs h => exact .ptr r off cs h
 | eptr cs ad val hs h1 h2 => exact .eptr cs ad val hs h1 h2
 | vs r off sz n c cs h hb hn => exact .vs r off sz n c cs h hb hn
 | fn f first caps fv cv h1 h2 r1 r2 => exact .fn f first caps fv cv h1 h2 r1 r2
theorem bK3 {a : AV} {x : Value} (h : Rep φ m w a x) : Rep φ m w (lI a) x := by
 cases a with
 | agg cs =>
  cases h with
  | agg _ arr hn h =>
   refine .agg _ arr (by simpa using hn) fun i b u h1 h2 => ?_
   simp only [List.getElem?_map, Option.map_eq_some_iff] at h1
   obtain ⟨c, hc, rfl⟩ := h1
   exact zV (h i c u hc h2)
 | _ => exact zV h
theorem aDn {xs : List AV} {vs : Array Value} (h : Reps φ m w xs vs) : Reps φ m w (xs.map lI) vs :=
 ⟨by simpa using h.1, fun i a u h1 h2 => by
  simp only [List.getElem?_map, Option.map_eq_some_iff] at h1
  obtain ⟨c, hc, rfl⟩ := h1
  exact bK3 (h.2 i c u hc h2)⟩
theorem gI {xs ys : List AV} {us vs : Array Value} (h : Reps φ m w xs us) (k : Reps φ m w ys vs) : Reps φ m w (xs ++ ys) (us ++ vs) :=
 ⟨by simp [h.1, k.1], fun i a u h1 h2 => by
  rw [List.getElem?_append] at h1
  rw [Array.getElem?_append] at h2
  have e := h.1
  split at h1
  ·rw [if_pos (by omega)] at h2; exact h.2 i a u h1 h2
  ·rw [if_neg (by omega)] at h2; rw [e] at h2; exact k.2 _ a u h1 h2⟩

/-- A call of a function value. -/
theorem bWf {call : CallF} (hC : dU P call) (hR : RM φ m w) {o : Oper} {a : Act} {c : Call} (ho : o.op = .call c) {fo : Operand} (hc : c.callee = .value fo)
  {f : AV} (hf : Rep φ m w f (a.eval fo)) {xs : List AV} (hx : Reps φ m w xs (c.args.map a.eval)) {av : AV} {m' : Mem} (h : aUx call f xs m = some (av, m'))
  {K : Act → World → Prop} {Q : Exit → Act → World → Prop}
  (hK : ∀ x w' φ', RM φ' m' w' → Ext φ m w φ' m' w' → Rep φ' m' w' av x → K (a.put o.dst x) w') : o.wp P a w K Q := by
 unfold aUx at h
 split at h
 ·rename_i g first caps
  generalize hfv : a.eval fo = fv at hf
  cases hf with
  | fn _ _ _ fv cv h1 h2 r1 r2 =>
   obtain ⟨⟨fn, hfn, hbody, hname⟩, hcalls⟩ := hC _ _ _ _ _ h
   have hreps := hcalls φ w (fv ++ c.args.map a.eval ++ cv) hR (aDn (gI (gI ⟨h1, r1⟩ hx) ⟨h2, r2⟩))
   have hrun : (execOp a.eval o).run P w = .ok (.enter g (fv ++ c.args.map a.eval ++ cv)) w := by
    unfold execOp
    rw [ho]
    have hn : ¬ fn.name = "runtime.NumGoroutine" := by simpa using hname
    have hb : ¬ fn.body = none := by intro e; rw [e] at hbody; simp at hbody
    simp [resolve, hc, hfv, Deferred.ofValue, invoke, callFunc, hfn, hn, hb, Sem.run_bind, run_program]
   unfold Oper.wp
   rw [hrun, Oper.upon_enter]
   refine hreps.mono fun e w' hh => ?_
   obtain ⟨x, φ', rfl, g1, g2, g3⟩ := hh
   exact hK x w' φ' g1 g2 g3
 ·cases h

theorem aPi (hR : RM φ m w) {b : Builtin} {ts : List TypeId} {xs : List AV} {vs : Array Value} {av : AV} {m' : Mem} (ty : TypeId) (cs : Array Bool) (hx : Reps φ m w xs vs)
  (h : vJ P m b ts xs = some (av, m')) : ∃ x w' φ', (builtin b ts.toArray ty cs vs).run P w = .ok (.value x) w' ∧ RM φ' m' w' ∧ Ext φ m w φ' m' w' ∧ Rep φ' m' w' av x := by
 unfold vJ at h
 split at h
 ·rename_i t x
  simp only [Option.map_eq_some_iff, Prod.mk.injEq] at h
  obtain ⟨r, hr, rfl, rfl⟩ := h
  obtain ⟨v, rfl⟩ : ∃ v, vs = #[v] := by
   have := hx.1; simp at this; exact Array.size_eq_one_iff.mp this
  obtain ⟨y, hy, hrep⟩ := bHm (P := P) ty (hx.2 0 _ _ rfl rfl) hr
  exact ⟨y, w, φ, bW hy, hR, Ext.refl .., hrep⟩
 ·rename_i xs
  simp only [Option.map_eq_some_iff, Prod.mk.injEq] at h
  obtain ⟨r, hr, rfl, rfl⟩ := h
  obtain ⟨k, x, rest, he, z, hz, hrep⟩ := aFr (P := P) (fun k a b w => bMt k a b w) hx hr
  refine ⟨z, w, φ, bW ?_, hR, Ext.refl .., hrep⟩
  unfold Builtin.max_
  rw [he]
  exact hz
 ·rename_i xs
  simp only [Option.map_eq_some_iff, Prod.mk.injEq] at h
  obtain ⟨r, hr, rfl, rfl⟩ := h
  obtain ⟨k, x, rest, he, z, hz, hrep⟩ := aFr (P := P) (fun k a b w => bRe k a b w) hx hr
  refine ⟨z, w, φ, bW ?_, hR, Ext.refl .., hrep⟩
  unfold Builtin.min_
  rw [he]
  exact hz
 ·rename_i t t2 x y
  obtain ⟨v, u, rfl⟩ : ∃ v u, vs = #[v, u] := by
   have h2 := hx.1; simp at h2; exact ⟨vs[0], vs[1], by apply Array.ext <;> simp [h2]; intro i hi; rcases i with _ | _ | i <;> first | omega | (intro _; rfl)⟩
  obtain ⟨z, w', φ', hz, g1, g2, g3⟩ := aTe (P := P) hR ty (hx.2 0 _ _ rfl rfl) (hx.2 1 _ _ rfl rfl) h
  exact ⟨z, w', φ', bW hz, g1, g2, g3⟩
 ·cases h

theorem aJz {a : AV} {x : Value} {b : Bool} (h : Rep φ m w a x) (hb : cJ a = some b) : ∃ ad n c, x = .slice ad n c ∧ ad.isNone = b := by
 unfold cJ at hb
 split at hb
 ·cases h; cases hb; exact ⟨none, 0, 0, rfl, rfl⟩
 ·cases hb
  cases h with
  | lst _ _ _ ad c val hc hr ha hs hcell hrep hg =>
   have hg : ad ≠ none := hg
   cases ad with
   | none => exact absurd rfl hg
   | some ad => exact ⟨_, _, _, rfl, rfl⟩
 ·cases hb
  cases h with
  | lst _ _ _ ad c val hc hr ha hs hcell hrep hg =>
   cases ad with
   | none => have := ha rfl; simp at hc; omega
   | some ad => exact ⟨_, _, _, rfl, rfl⟩
 ·cases hb
theorem aPa {t e : TypeId} (hu : P.underlying t = some (.slice e)) {ad : Option Addr} {n c : Nat} (N : Nat) : (Op.equalIn (N + 1) t (.slice ad n c) (.slice none 0 0)).run P w = .ok ad.isNone w := by
 unfold Op.equalIn
 simp only [Sem.run_bind, aN hu, Result.andThen_ok]
 cases ad <;> rfl
theorem bHd {op : BinOp} {t : TypeId} {ox : Operand} {ad : Option Addr} {n c : Nat} {a : AV} {r : Bool} (ht : (dB P t).isSome = true) (hop : op = .eql ∨ op = .neq) :
  (do eqGuard op t ox (.const (.slice none 0 0)) (.slice ad n c) (.slice none 0 0); binOp op t (.slice ad n c) (.slice none 0 0) : Sem Value).run P w = .ok (.bool (if op = .eql then ad.isNone else !ad.isNone)) w := by
 cases he : dB P t with
 | none => simp [he] at ht
 | some e =>
  have hu := bH he
  have heq : (Op.equal t (.slice ad n c) (.slice none 0 0)).run P w = .ok ad.isNone w := aPa hu _
  have hg : (eqGuard op t ox (.const (.slice none 0 0)) (.slice ad n c) (.slice none 0 0)).run P w = .ok () w := lP (fun cs h => by cases h) (fun h => by cases h)
  rw [Sem.run_bind, hg, Result.andThen_ok]
  rcases hop with rfl | rfl
  ·show (do pure (Value.bool (← Op.equal t (.slice ad n c) (.slice none 0 0))) : Sem Value).run P w = _
   rw [Sem.run_bind, heq]
   rfl
  ·show (do pure (Value.bool (!(← Op.equal t (.slice ad n c) (.slice none 0 0)))) : Sem Value).run P w = _
   rw [Sem.run_bind, heq]
   rfl
theorem bBl {op : BinOp} {t : TypeId} {x y r : AV} {ox oy : Operand} {a : Act} (hx : Rep φ m w x (a.eval ox)) (hy : Rep φ m w y (a.eval oy)) (h : aUb P op t x oy y = some r) :
  ∃ z, (do eqGuard op t ox oy (a.eval ox) (a.eval oy); binOp op t (a.eval ox) (a.eval oy) : Sem Value).run P w = .ok z w ∧ Rep φ m w r z := by
 unfold aUb at h
 split at h
 ·rename_i b hb
  cases h
  unfold bDp at hb
  split at hb
  ·have e : a.eval (.const (.slice none 0 0)) = .slice none 0 0 := rfl
   rw [e]
   split at hb
   ·rename_i e0 he
    obtain ⟨ad, n, c, hv, rfl⟩ := aJz hx hb
    rw [hv]
    exact ⟨_, bHd (a := x) (r := true) (by simp [he]) (.inl rfl), by simpa using .v _⟩
   ·rename_i e0 he
    simp only [Option.map_eq_some_iff] at hb
    obtain ⟨b', hb', rfl⟩ := hb
    obtain ⟨ad, n, c, hv, rfl⟩ := aJz hx hb'
    rw [hv]
    exact ⟨_, bHd (a := x) (r := true) (by simp [he]) (.inr rfl), by simpa using .v _⟩
   ·cases hb
  ·cases hb
 ·exact bJ7 hx hy h
theorem aI1 {call : CallF} (hC : dU P call) (hR : RM φ m w) {e : Env} {a : Act} (hE : cX φ m w e a.tmps) {o : Oper} {av : AV} {m' : Mem} (h : evOp P call e m o = some (av, m'))
  {K : Act → World → Prop} {Q : Exit → Act → World → Prop}
  (hK : ∀ x w' φ', RM φ' m' w' → Ext φ m w φ' m' w' → Rep φ' m' w' av x → K (a.put o.dst x) w') : o.wp P a w K Q := by
 -- a value, the world as it was
 have still : ∀ {x : Value} {b : AV}, (execOp a.eval o).run P w = .ok (.value x) w → Rep φ m w b x → b = av → m = m' → o.wp P a w K Q := by
  intro x b hr hx e1 e2
  subst e1 e2
  unfold Oper.wp
  rw [hr, Oper.upon_value]
  exact hK x w φ hR (Ext.refl ..) hx
 have moved : ∀ {x : Value} {w' : World} {φ' : Phi}, (execOp a.eval o).run P w = .ok (.value x) w' → RM φ' m' w' → Ext φ m w φ' m' w' → Rep φ' m' w' av x → o.wp P a w K Q := by
  intro x w' φ' hr g1 g2 g3
  unfold Oper.wp
  rw [hr, Oper.upon_value]
  exact hK x w' φ' g1 g2 g3
 have rep : ∀ t x, Rep φ m w (opd P e t x) (a.eval x) := fun t x => fU hE t x
 have ex : execOp a.eval o = execOp a.eval o := rfl
 conv at ex => rhs; unfold execOp
 unfold evOp at h
 dsimp only at h
 split at h <;> rename_i hop <;> (try (rw [hop] at ex; simp only [] at ex))
 ·rename_i x
  simp only [Option.some.injEq, Prod.mk.injEq] at h
  exact still (by rw [ex]; rfl) (rep o.type x) h.1 h.2
 ·rename_i x
  simp only [Option.some.injEq, Prod.mk.injEq] at h
  exact still (by rw [ex]; rfl) (rep o.type x) h.1 h.2
 ·rename_i c x y
  split at h
  ·rename_i t ht
   have hc := rep o.type c
   rw [ht] at hc
   generalize hcv : a.eval c = cv at hc
   cases hc
   simp only [Option.some.injEq, Prod.mk.injEq] at h
   refine still (x := if t then a.eval x else a.eval y) (b := if t then opd P e o.type x else opd P e o.type y) (by rw [ex, hcv]; simp [asBool, Sem.run_bind]) ?_ h.1 h.2
   cases t
   ·exact rep o.type y
   ·exact rep o.type x
  ·cases h
 ·rename_i t
  split at h
  ·rename_i z hz
   split at h
   ·rename_i hok
    simp only [Option.map_eq_some_iff, Prod.mk.injEq] at h
    obtain ⟨m2, hm2, rfl, rfl⟩ := h
    obtain ⟨w', φ', h1, h2, h3, h4⟩ := aI7 (P := P) hR hz hok hm2
    exact moved (by rw [ex]; exact bW h1) h2 h3 h4
   ·cases h
  ·cases h
 ·rename_i t x
  split at h
  ·rename_i cs hcs
   simp only [Option.map_eq_some_iff, Prod.mk.injEq] at h
   obtain ⟨m2, hm2, rfl, rfl⟩ := h
   obtain ⟨w', φ', h1, h2, h3, h4⟩ := bI6 (P := P) (t := t) hR (rep t x) hcs hm2
   exact moved (by rw [ex]; exact bW h1) h2 h3 h4
  ·cases h
 ·rename_i t ps
  simp only [Option.map_eq_some_iff, Prod.mk.injEq] at h
  obtain ⟨r, hr, rfl, rfl⟩ := h
  obtain ⟨y, h1, h2⟩ := aX8 (P := P) hR (aHi hE t ps) hr
  exact still (by rw [ex]; exact bW h1) h2 rfl rfl
 ·rename_i t n ps
  simp only [Option.map_eq_some_iff, Prod.mk.injEq] at h
  obtain ⟨r, hr, rfl, rfl⟩ := h
  obtain ⟨y, w', φ', h1, h2, h3, h4⟩ := aG6 (P := P) hR (aHi hE t ps) hr
  exact moved (by rw [ex]; exact bW h1) h2 h3 h4
 ·rename_i t x
  simp only [Option.map_eq_some_iff, Prod.mk.injEq] at h
  obtain ⟨r, hr, rfl, rfl⟩ := h
  obtain ⟨y, h1, h2⟩ := aMc (P := P) hR (rep t x) hr
  exact still (by rw [ex]; exact bW h1) h2 rfl rfl
 ·rename_i t x y
  simp only [Option.map_eq_some_iff, Prod.mk.injEq] at h
  obtain ⟨m2, hm2, rfl, rfl⟩ := h
  obtain ⟨w', h1, h2, h3⟩ := aXk (P := P) hR (rep t x) (rep t y) hm2
  unfold Oper.wp
  rw [ex, bAn h1, Oper.upon_skip]
  exact hK undef w' φ h2 h3 (.v _)
 ·rename_i x
  split at h
  ·rename_i r off hx
   simp only [Option.some.injEq, Prod.mk.injEq] at h
   have hr := rep o.type x
   rw [hx] at hr
   generalize hxv : a.eval x = xv at hr
   cases hr with
   | ptr _ _ cs hv => exact still (by rw [ex, hxv]; rfl) (.ptr r off cs hv) h.1 h.2
  ·rename_i cs hx
   simp only [Option.some.injEq, Prod.mk.injEq] at h
   have hr := rep o.type x
   rw [hx] at hr
   generalize hxv : a.eval x = xv at hr
   cases hr with
   | eptr _ ad val h1 h2 h3 => exact still (by rw [ex, hxv]; rfl) (.eptr cs ad val h1 h2 h3) h.1 h.2
  ·rename_i f first caps hx
   simp only [Option.some.injEq, Prod.mk.injEq] at h
   have hr := rep o.type x
   rw [hx] at hr
   generalize hxv : a.eval x = xv at hr
   cases hr with
   | fn _ _ _ fv cv h1 h2 r1 r2 => exact still (by rw [ex, hxv]; rfl) (.fn (.func f) first caps fv cv h1 h2 r1 r2) h.1 h.2
  ·cases h
 ·rename_i op t x y b
  simp only [Option.map_eq_some_iff, Prod.mk.injEq] at h
  obtain ⟨r, hr, rfl, rfl⟩ := h
  obtain ⟨z, h1, h2⟩ := bBl (P := P) (rep t x) (rep t y) hr
  exact still (by rw [ex]; exact bW h1) h2 rfl rfl
 ·rename_i op t x
  simp only [Option.map_eq_some_iff, Prod.mk.injEq] at h
  obtain ⟨r, hr, rfl, rfl⟩ := h
  obtain ⟨z, h1, h2⟩ := bOs (P := P) (rep t x) hr
  exact still (by rw [ex]; exact bW h1) h2 rfl rfl
 ·rename_i src dst x
  simp only [Option.map_eq_some_iff, Prod.mk.injEq] at h
  obtain ⟨r, hr, rfl, rfl⟩ := h
  obtain ⟨z, h1, h2⟩ := aPr (P := P) hR (rep src x) hr
  exact still (by rw [ex]; exact bW h1) h2 rfl rfl
 ·rename_i f first caps
  simp only [Option.some.injEq, Prod.mk.injEq] at h
  have h1 := aRd (ops := first) (rep o.type)
  have h2 := aRd (ops := caps) (rep o.type)
  exact still (by rw [ex]; exact bW rfl) (.fn f _ _ _ _ h1.1 h2.1 h1.2 h2.2) h.1 h.2
 ·rename_i t n c
  split at h
  ·rename_i cs sz k hk
   simp only [Option.map_eq_some_iff, Prod.mk.injEq] at h
   obtain ⟨m2, hm2, rfl, rfl⟩ := h
   obtain ⟨v, w', φ', h1, h2, h3, h4⟩ := aKb (P := P) hR (rep o.type n) (rep o.type c) hk hm2
   exact moved (by rw [ex]; exact bW h1) h2 h3 h4
  ·cases h
 ·rename_i t x lo hi mx
  simp only [Option.map_eq_some_iff, Prod.mk.injEq] at h
  obtain ⟨r, hr, rfl, rfl⟩ := h
  obtain ⟨z, h1, h2⟩ := bAh (P := P) hR (rep t x) (xW hE o.type lo) (xW hE o.type hi) (xW hE o.type mx) hr
  exact still (by rw [ex]; exact bW h1) h2 rfl rfl
 ·rename_i t x i
  simp only [Option.map_eq_some_iff, Prod.mk.injEq] at h
  obtain ⟨r, hr, rfl, rfl⟩ := h
  obtain ⟨z, h1, h2⟩ := aKd (P := P) (rep t x) hr
  exact still (by rw [ex]; exact bW h1) h2 rfl rfl
 ·rename_i t x i
  simp only [Option.map_eq_some_iff, Prod.mk.injEq] at h
  obtain ⟨r, hr, rfl, rfl⟩ := h
  obtain ⟨z, h1, h2⟩ := aY6 (P := P) (rep t x) hr
  exact still (by rw [ex]; exact bW h1) h2 rfl rfl
 ·rename_i t x i
  simp only [Option.map_eq_some_iff, Prod.mk.injEq] at h
  obtain ⟨r, hr, rfl, rfl⟩ := h
  obtain ⟨z, h1, h2⟩ := aKe (P := P) (rep t x) (rep o.type i) hr
  exact still (by rw [ex]; exact bW h1) h2 rfl rfl
 ·rename_i t x i
  simp only [Option.map_eq_some_iff, Prod.mk.injEq] at h
  obtain ⟨r, hr, rfl, rfl⟩ := h
  obtain ⟨z, h1, h2⟩ := bAm (P := P) (rep t x) (rep o.type i) hr
  exact still (by rw [ex]; exact bW h1) h2 rfl rfl
 ·rename_i x i
  split at h
  ·rename_i cs hx
   simp only [Option.map_eq_some_iff, Prod.mk.injEq] at h
   obtain ⟨r, hr, rfl, rfl⟩ := h
   have hr' := rep o.type x
   rw [hx] at hr'
   generalize hxv : a.eval x = xv at hr'
   cases hr' with
   | tup _ arr hn hh =>
    have hlt : i < arr.size := by have := (List.getElem?_eq_some_iff.mp hr).1; omega
    exact still (x := arr[i]) (by rw [ex, hxv]; exact bW (by simp [Instr.extract, hlt])) (hh i _ _ hr (Array.getElem?_eq_getElem hlt)) rfl rfl
  ·cases h
 ·rename_i c
  split at h
  ·rename_i hsz
   have hx := bOq (P := P) hE (ts := c.argTypes.toList) (xs := c.args) (by simpa using hsz)
   split at h
   ·rename_i b hb
    obtain ⟨x, w', φ', h1, h2, h3, h4⟩ := aPi (P := P) hR o.type (c.args.map fun | .const _ => true | _ => false) hx h
    refine moved (by rw [ex]; simp only [resolve, hb, Sem.run_bind, Sem.run_pure, Result.andThen_ok, invoke]; exact h1) h2 h3 h4
   ·rename_i f hf
    exact bWf hC hR hop hf (rep o.type f) hx h hK
   ·cases h
  ·cases h
 ·cases h
end
end
section
section
variable {P : Program} {φ : Phi} {m : Mem} {w : World}

/-- A state of a function's run: what the environment and the memory stand for, behind the state at the begin. -/
def St (φ₀ : Phi) (m₀ : Mem) (w₀ : World) (nt : Nat) (e : Env) (m : Mem) (a : Act) (w : World) : Prop :=
 ∃ φ, RM φ m w ∧ Ext φ₀ m₀ w₀ φ m w ∧ cX φ m w e a.tmps ∧ nt ≤ a.tmps.size ∧ a.defers = []

theorem eQ (a : Act) (dst : Option Tmp) (x : Value) : (a.put dst x).defers = a.defers := by cases dst <;> rfl
theorem St.put {φ₀ m₀ w₀ nt e m} {a : Act} {w : World} {φ : Phi} {m' : Mem} {w' : World} {φ' : Phi} (hE : cX φ m w e a.tmps) (hX : Ext φ₀ m₀ w₀ φ m w) (hn : nt ≤ a.tmps.size) (hd : a.defers = [])
  (hR' : RM φ' m' w') (hx : Ext φ m w φ' m' w') {av : AV} {x : Value} (hv : Rep φ' m' w' av x) {dst : Option Tmp} {e' : Env} (hp : putAV nt dst av e = some e') :
  St φ₀ m₀ w₀ nt e' m' (a.put dst x) w' :=
 ⟨φ', hR', hX.trans hx, (hE.mono hx).put hp hn hv a.defers, by rw [gG]; exact hn, by rw [eQ]; exact hd⟩
theorem cW {ops : Array Oper} {e : Env} {o : Oper} {b : Bool} {tmps : Array Value} (hE : cX φ m w e tmps) (h : wantedAV ops e o = some b) :
  Region.wanted o (yielded ops tmps) = b := by
 unfold wantedAV at h
 unfold Region.wanted
 split at h
 ·rename_i hg
  simp only [Option.some.injEq] at h
  rw [hg]
  exact h
 ·rename_i j want hg
  rw [hg]
  simp only []
  split at h
  ·rename_i hj
   simp only [Option.some.injEq] at h
   simp [yielded, hj, ← h]
  ·rename_i d hj
   have hr := hE d
   split at h
   ·rename_i q hq
    simp only [Option.some.injEq] at h
    rw [hq] at hr
    generalize hu : tmps.getD d undef = u at hr
    cases hr
    have hd : d < tmps.size := by
     refine Nat.lt_of_not_le fun hle => ?_
     rw [Array.getD_eq_getD_getElem?, Array.getElem?_eq_none hle] at hu
     cases hu
    have : tmps[d]? = some (.bool q) := by
     rw [Array.getD_eq_getD_getElem?, Array.getElem?_eq_getElem hd] at hu
     rw [Array.getElem?_eq_getElem hd]
     exact congrArg some hu
    simp [yielded, hj, this, ← h]
   ·rename_i q hq
    simp only [Option.some.injEq] at h
    rw [hq] at hr
    generalize hu : tmps.getD d undef = u at hr
    cases hr
    have : yielded ops tmps j = none := by
     unfold yielded
     rw [hj, Option.bind_some]
     cases hd : tmps[d]? with
     | none => rfl
     | some y =>
      rw [Array.getD_eq_getD_getElem?, hd] at hu
      cases hu
      rfl
    rw [this, ← h]
    rfl
   ·cases h

theorem aDf {P : Program} {pu : Bool} {o : Oper} {m : Mem} {x : Option (AV × Mem)} {r : AV × Mem} (h : keeps P pu o m x = some r) :
  x = some r ∧ ((pu && clsOf P o == .ca) = true → r.2 = m) := by
 unfold keeps at h
 split at h
 ·rename_i a m'
  split at h
  ·rename_i hk
   simp only [Option.some.injEq] at h
   subst h
   exact ⟨rfl, hk⟩
  ·cases h
 ·cases h

theorem aHe {call : CallF} (hC : dU P call) {φ₀ : Phi} {m₀ : Mem} {w₀ : World} {nt : Nat} {ops : Array Oper} {pu : Bool} {Q : Exit → Act → World → Prop} :
  ∀ (l : List Oper) (e : Env) (m : Mem) (e' : Env) (m' : Mem), mW P call nt ops pu l e m = some (e', m') → (∀ a w, St φ₀ m₀ w₀ nt e' m' a w → Q .normal a w) →
   ∀ a w, St φ₀ m₀ w₀ nt e m a w → wpList P ops Q l a w
 | [], e, m, e', m', h, hQ, a, w, hs => by
  simp only [mW, Option.some.injEq, Prod.mk.injEq] at h
  obtain ⟨rfl, rfl⟩ := h
  exact hQ a w hs
 | o :: rest, e, m, e', m', h, hQ, a, w, hs => by
  obtain ⟨φ, hR, hX, hE, hn, hd⟩ := hs
  unfold mW at h
  unfold wpList
  split at h
  ·cases h
  ·rename_i hw
   rw [cW hE hw, if_pos rfl]
   left
   split at h
   ·rename_i av m1 hk
    split at h
    ·rename_i e1 hp
     refine aI1 hC hR hE (aDf hk).1 fun x w' φ' g1 g2 g3 => ?_
     exact aHe hC rest e1 m1 e' m' h hQ _ _ (St.put hE hX hn hd g1 g2 g3 hp)
    ·cases h
   ·cases h
  ·rename_i hw
   rw [cW hE hw, if_neg (by simp)]
   split at h
   ·rename_i e1 hp
    exact aHe hC rest e1 m e' m' h hQ _ _ (St.put hE hX hn hd hR (Ext.refl ..) (.v _) hp)
   ·cases h
end
end
section

/-! ### what an operation looks at -/
theorem aDj {P : Program} {call : CallF} {e e' : Env} {m : Mem} {o : Oper} (h : ∀ x, x ∈ o.op.operands.toList → ∀ t, opd P e t x = opd P e' t x) :
  evOp P call e m o = evOp P call e' m o := by
 cases ho : o.op <;> simp only [ho, Op.operands] at h <;> simp only [evOp, ho]
 case move x => rw [h x (by simp)]
 case assign x => rw [h x (by simp)]
 case pick c a b => rw [h c (by simp), h a (by simp), h b (by simp)]
 case box t x => rw [h x (by simp)]
 case build t ps =>
  have : (ps.toList.map fun (i, x) => (i, opd P e (pL P t i) x)) = ps.toList.map fun (i, x) => (i, opd P e' (pL P t i) x) :=
   List.map_congr_left fun p hp => by show (p.1, opd P e _ p.2) = (p.1, opd P e' _ p.2); rw [h p.2 (by simp; exact ⟨p.1, by simpa using hp⟩)]
  rw [this]
 case buildSlice t n ps =>
  have : (ps.toList.map fun (i, x) => (i, opd P e (pL P t i) x)) = ps.toList.map fun (i, x) => (i, opd P e' (pL P t i) x) :=
   List.map_congr_left fun p hp => by show (p.1, opd P e _ p.2) = (p.1, opd P e' _ p.2); rw [h p.2 (by simp; exact ⟨p.1, by simpa using hp⟩)]
  rw [this]
 case load t x => rw [h x (by simp)]
 case store t x y => rw [h x (by simp), h y (by simp)]
 case nilCheck x => rw [h x (by simp)]
 case binOp op t x y b => rw [h x (by simp), h y (by simp)]
 case unOp op t x => rw [h x (by simp)]
 case convert s d x => rw [h x (by simp)]
 case makeFunc f a b =>
  have h1 : a.toList.map (opd P e o.type) = a.toList.map (opd P e' o.type) := List.map_congr_left fun x hx => h x (by simp at hx ⊢; exact .inl hx) _
  have h2 : b.toList.map (opd P e o.type) = b.toList.map (opd P e' o.type) := List.map_congr_left fun x hx => h x (by simp at hx ⊢; exact .inr hx) _
  rw [h1, h2]
 case makeSlice t x y => rw [h x (by simp), h y (by simp)]
 case slice t x lo hi mx =>
  have h1 : lo.map (opd P e o.type) = lo.map (opd P e' o.type) := by cases lo <;> simp; exact h _ (by simp) _
  have h2 : hi.map (opd P e o.type) = hi.map (opd P e' o.type) := by cases hi <;> simp; exact h _ (by simp) _
  have h3 : mx.map (opd P e o.type) = mx.map (opd P e' o.type) := by cases mx <;> simp; exact h _ (by simp) _
  rw [h x (by simp), h1, h2, h3]
 case fieldAddr t x i => rw [h x (by simp)]
 case field t x i => rw [h x (by simp)]
 case indexAddr t x i => rw [h x (by simp), h i (by simp)]
 case index t x i => rw [h x (by simp), h i (by simp)]
 case extract x i => rw [h x (by simp)]
 case call c =>
  have hz : List.zipWith (opd P e) c.argTypes.toList c.args.toList = List.zipWith (opd P e') c.argTypes.toList c.args.toList := by
   apply List.ext_getElem?
   intro i
   simp only [List.getElem?_zipWith]
   cases h1 : c.argTypes.toList[i]? with
   | none => rfl
   | some t =>
    cases h2 : c.args.toList[i]? with
    | none => rfl
    | some x =>
     have hx : x ∈ c.args.toList := List.mem_of_getElem? h2
     simp only []
     rw [h x (by simp only [Call.operands]; cases c.callee <;> simp at hx ⊢ <;> first | exact hx | exact .inr hx)]
  split
  ·cases hc : c.callee with
   | builtin b => simp only [hz]
   | value f => simp only [hz]; rw [h f (by simp [Call.operands, hc])]
   | invoke r n => rfl
  ·rfl

/-- What reads no memory and is no call: the memory is all one to it. -/
theorem bPh {P : Program} {call : CallF} {e : Env} {m m' : Mem} {o : Oper} {a : AV} (h : evOp P call e m o = some (a, m')) (hn : clsOf P o = .n) :
  m' = m ∧ ∀ m2, evOp P call e m2 o = some (a, m2) := by
 have pure' : ∀ {x : Option AV} {y : AV × Mem}, x.map (·, m) = some y → y.2 = m ∧ ∀ m2 : Mem, x.map (·, m2) = some (y.1, m2) := by
  intro x y hy
  cases x with
  | none => simp at hy
  | some x => simp only [Option.map_some, Option.some.injEq] at hy; subst hy; exact ⟨rfl, fun m2 => rfl⟩
 have some' : ∀ {x : AV} {y : AV × Mem}, some (x, m) = some y → y.2 = m ∧ ∀ m2 : Mem, some (x, m2) = some (y.1, m2) := by
  intro x y hy
  simp only [Option.some.injEq] at hy; subst hy; exact ⟨rfl, fun m2 => rfl⟩
 unfold clsOf at hn
 unfold evOp at h ⊢
 dsimp only at h ⊢
 split at h <;> rename_i hop <;> (try (rw [hop] at hn; simp only [reduceCtorEq] at hn))
 case h_1 => simpa only [hop] using some' h
 case h_2 => simpa only [hop] using some' h
 case h_3 c x y =>
  split at h
  ·rename_i t ht
   simpa only [hop, ht] using some' h
  ·cases h
 case h_6 => simpa only [hop] using pure' h
 case h_7 => simpa only [hop] using pure' h
 case h_10 x =>
  split at h
  ·rename_i hx; simpa only [hop, hx] using some' h
  ·rename_i hx; simpa only [hop, hx] using some' h
  ·rename_i hx; simpa only [hop, hx] using some' h
  ·cases h
 case h_11 => simpa only [hop] using pure' h
 case h_12 => simpa only [hop] using pure' h
 case h_14 => simpa only [hop] using some' h
 case h_16 t x lo hi mx =>
  split at hn
  ·cases hn
  ·rename_i ht
   have e2 : ∀ m2, sT P m2 t (opd P e t x) (lo.map (opd P e o.type)) (hi.map (opd P e o.type)) (mx.map (opd P e o.type)) =
     sT P m t (opd P e t x) (lo.map (opd P e o.type)) (hi.map (opd P e o.type)) (mx.map (opd P e o.type)) := by
    intro m2
    unfold sT
    cases hta : mM P t with
    | some q => simp [hta] at ht
    | none => split <;> simp
   have := pure' h
   simp only [hop, e2]
   exact this
 case h_17 => simpa only [hop] using pure' h
 case h_18 => simpa only [hop] using pure' h
 case h_19 => simpa only [hop] using pure' h
 case h_20 => simpa only [hop] using pure' h
 case h_21 x i =>
  split at h
  ·rename_i hx; simpa only [hop, hx] using pure' h
  ·cases h
 case h_22 c =>
  split at h
  ·rename_i hsz
   simp only [hop, hsz, if_true]
   split at h
   ·rename_i b hb
    unfold vJ at h ⊢
    split at h
    ·rename_i he; simpa only [he] using pure' h
    ·exact pure' h
    ·exact pure' h
    ·rw [hb] at hn; simp only [reduceCtorEq] at hn
    ·cases h
   ·rename_i f hf; rw [hf] at hn; simp only [reduceCtorEq] at hn
   ·cases h
  ·cases h
 case h_23 => cases h
/-- What reads: the memory stays. -/
theorem bTh {P : Program} {call : CallF} {e : Env} {m m' : Mem} {o : Oper} {a : AV} (h : evOp P call e m o = some (a, m')) (hn : clsOf P o = .rd) : m' = m := by
 have pure' : ∀ {x : Option AV} {y : AV × Mem}, x.map (·, m) = some y → y.2 = m := by
  intro x y hy
  cases x with
  | none => simp at hy
  | some x => simp only [Option.map_some, Option.some.injEq] at hy; subst hy; rfl
 unfold clsOf at hn
 unfold evOp at h
 dsimp only at h
 split at h <;> rename_i hop <;> (try (rw [hop] at hn; simp only [reduceCtorEq] at hn)) <;> first | exact pure' h | skip
 case h_22 c =>
  cases hc : c.callee with
  | builtin b => rw [hc] at hn; cases b <;> cases hn
  | value f => rw [hc] at hn; cases hn
  | invoke r n => rw [hc] at hn; cases hn
 case h_23 => cases h

/-! ### the trace -/
def aDm (P : Program) (call : CallF) (nt : Nat) (ops : Array Oper) (pu : Bool) (o : Oper) (e : Env) (m : Mem) (a : AV) (e' : Env) (m' : Mem) : Prop :=
 putAV nt o.dst a e = some e' ∧
  ((wantedAV ops e o = some true ∧ keeps P pu o m (evOp P call e m o) = some (a, m')) ∨ (wantedAV ops e o = some false ∧ a = .v (.tuple #[]) ∧ m' = m))
theorem aI4 {P : Program} {call : CallF} {nt : Nat} {ops : Array Oper} {pu : Bool} : ∀ (l : List Oper) (e : Env) (m : Mem) (e' : Env) (m' : Mem), mW P call nt ops pu l e m = some (e', m') →
  ∃ (E : Nat → Env) (M : Nat → Mem) (A : Nat → AV), E 0 = e ∧ M 0 = m ∧ E l.length = e' ∧ M l.length = m' ∧ ∀ (k : Nat) o, l[k]? = some o → aDm P call nt ops pu o (E k) (M k) (A k) (E (k + 1)) (M (k + 1))
 | [], e, m, e', m', h => by
  simp only [mW, Option.some.injEq, Prod.mk.injEq] at h
  exact ⟨fun _ => e, fun _ => m, fun _ => .junk, rfl, rfl, h.1, h.2, fun k o hk => by simp at hk⟩
 | o :: rest, e, m, e', m', h => by
  have cons : ∀ a e1 m1, aDm P call nt ops pu o e m a e1 m1 → mW P call nt ops pu rest e1 m1 = some (e', m') →
    ∃ (E : Nat → Env) (M : Nat → Mem) (A : Nat → AV), E 0 = e ∧ M 0 = m ∧ E (o :: rest).length = e' ∧ M (o :: rest).length = m' ∧ ∀ (k : Nat) o', (o :: rest)[k]? = some o' → aDm P call nt ops pu o' (E k) (M k) (A k) (E (k + 1)) (M (k + 1)) := by
   intro a e1 m1 hs h1
   obtain ⟨E, M, A, hE, hM, hE', hM', hk⟩ := aI4 rest e1 m1 e' m' h1
   refine ⟨fun | 0 => e | k + 1 => E k, fun | 0 => m | k + 1 => M k, fun | 0 => a | k + 1 => A k, rfl, rfl, hE', hM', fun k o' ho => ?_⟩
   cases k with
   | zero =>
    simp only [List.getElem?_cons_zero, Option.some.injEq] at ho
    subst ho
    show aDm P call nt ops pu o e m a (E 0) (M 0)
    rw [hE, hM]
    exact hs
   | succ k => exact hk k o' (by simpa using ho)
  unfold mW at h
  split at h
  ·cases h
  ·rename_i hw
   split at h
   ·rename_i av m1 hk
    split at h
    ·rename_i e1 hp
     exact cons av e1 m1 ⟨hp, .inl ⟨hw, hk⟩⟩ h
    ·cases h
   ·cases h
  ·rename_i hw
   split at h
   ·rename_i e1 hp
    exact cons _ e1 m ⟨hp, .inr ⟨hw, rfl, rfl⟩⟩ h
   ·cases h

/-! ### who comes ahead of whom -/
theorem aX3 (acc : List Nat) : ∀ (es : List Edge) (s i : Nat),
  (es.foldl (fun s e => if Region.binds .any e = true then s ||| (2 ^ e.on ||| acc.getD e.on 0) else s) s).testBit i = true →
  s.testBit i = true ∨ ∃ e ∈ es, Region.binds .any e = true ∧ (e.on = i ∨ (acc.getD e.on 0).testBit i = true)
 | [], s, i, h => .inl h
 | e :: es, s, i, h => by
  rw [List.foldl_cons] at h
  rcases aX3 acc es _ i h with h1 | ⟨e', he, hb, hh⟩
  ·split at h1
   ·rename_i hb
    rw [Nat.testBit_or, Nat.testBit_or, Bool.or_eq_true, Bool.or_eq_true, Nat.testBit_two_pow, decide_eq_true_eq] at h1
    rcases h1 with h1 | h1
    ·exact .inl h1
    ·exact .inr ⟨e, List.mem_cons_self .., hb, h1⟩
   ·exact .inl h1
  ·exact .inr ⟨e', List.mem_cons_of_mem _ he, hb, hh⟩
theorem aRp : ∀ (l : List Oper) (acc : List Nat), ∃ r, masks l acc = acc ++ r
 | [], acc => ⟨[], by simp [masks]⟩
 | o :: l, acc => by
  obtain ⟨r, hr⟩ := aRp l (acc ++ [aAx o acc])
  exact ⟨aAx o acc :: r, by rw [masks, hr]; simp⟩
theorem aZe : ∀ (l : List Oper) (acc : List Nat) (j : Nat) (o : Oper), l[j]? = some o →
  ∃ pre, pre.length = acc.length + j ∧ (∃ r, masks l acc = pre ++ r) ∧ (masks l acc).getD (acc.length + j) 0 = aAx o pre
 | [], _, j, o, h => by simp at h
 | o' :: l, acc, 0, o, h => by
  simp only [List.getElem?_cons_zero, Option.some.injEq] at h
  subst h
  obtain ⟨r, hr⟩ := aRp l (acc ++ [aAx o' acc])
  refine ⟨acc, rfl, ⟨aAx o' acc :: r, by rw [masks, hr]; simp⟩, ?_⟩
  rw [masks, hr]
  simp [List.getD_eq_getElem?_getD]
 | o' :: l, acc, j + 1, o, h => by
  obtain ⟨pre, h1, h2, h3⟩ := aZe l (acc ++ [aAx o' acc]) j o (by simpa using h)
  refine ⟨pre, by simp at h1; omega, by rw [masks]; exact h2, ?_⟩
  rw [masks, ← h3]
  congr 1
  simp; omega
/-- If all that binds is listed ahead, then so is all that the row of bits holds. -/
theorem fD {l : List Oper} {S : Nat → Prop} (hb : ∀ (j : Nat) o, l[j]? = some o → ∀ e ∈ o.after.toList, Region.binds .any e = true → e.on < j)
  (hc : ∀ (j : Nat) o, l[j]? = some o → S j → ∀ e ∈ o.after.toList, Region.binds .any e = true → S e.on) :
  ∀ (j : Nat) o, l[j]? = some o → (∀ e ∈ o.after.toList, Region.binds .any e = true → S e.on) → ∀ i, ((masks l []).getD j 0).testBit i = true → S i := by
 intro j
 induction j using Nat.strongRecOn with
 | _ j ih =>
  intro o ho hp i hi
  obtain ⟨pre, hl, ⟨r, hr⟩, he⟩ := aZe l [] j o ho
  simp only [List.length_nil, Nat.zero_add] at hl he
  rw [he, aAx] at hi
  rcases aX3 pre _ 0 i hi with h0 | ⟨e, hm, hbi, h1⟩
  ·simp at h0
  ·have hlt := hb j o ho e hm hbi
   have hS := hp e hm hbi
   rcases h1 with rfl | h1
   ·exact hS
   ·have hjl : j < l.length := (List.getElem?_eq_some_iff.mp ho).1
    have hq : l[e.on]? = some l[e.on] := List.getElem?_eq_getElem (by omega)
    refine ih e.on hlt _ hq (hc e.on _ hq hS) i ?_
    rw [hr, List.getD_eq_getElem?_getD, List.getElem?_append_left (by omega), ← List.getD_eq_getElem?_getD]
    exact h1
end
section

def chg (P : Program) (pu : Bool) (o : Oper) : Prop := clsOf P o = .wr ∨ (clsOf P o = .ca ∧ pu = false)
structure Drawn (P : Program) (l : List Oper) (pu : Bool) : Prop where
 edge : ∀ (j : Nat) o, l[j]? = some o → ∀ e ∈ o.after.toList, Region.binds .any e = true → e.on < j
 dst : ∀ (i j : Nat) oi oj, i < j → l[i]? = some oi → l[j]? = some oj → ∀ d, oi.dst = some d → oj.dst ≠ some d
 apart : ∀ (i j : Nat) oi oj, i < j → l[i]? = some oi → l[j]? = some oj → ((masks l []).getD j 0).testBit i = true ∨
  (oi.apart l.toArray oj = true ∧ (clsOf P oi = .n ∨ clsOf P oj = .n ∨ (¬ chg P pu oi ∧ ¬ chg P pu oj)))
theorem bMm {P : Program} {l : List Oper} (h : aBo P l = true) : Drawn P l (rL P l) := by
 have gd : ∀ (j : Nat) o, l[j]? = some o → l.getD j default = o := fun j o ho => by rw [List.getD_eq_getElem?_getD, ho]; rfl
 have lt : ∀ (j : Nat) o, l[j]? = some o → j < l.length := fun j o ho => (List.getElem?_eq_some_iff.mp ho).1
 simp only [aBo, List.all_eq_true, List.mem_range, Bool.and_eq_true] at h
 refine ⟨fun j o ho e he hb => ?_, fun i j oi oj hij hi hj d hd => ?_, fun i j oi oj hij hi hj => ?_⟩
 ·have h1 := (h j (lt j o ho)).1
  rw [gd j o ho, Array.all_eq_true'] at h1
  have h2 := h1 e (by simpa using he)
  simpa [hb] using h2
 ·have h1 := ((h j (lt j oj hj)).2 i hij).1
  rw [gd j oj hj, gd i oi hi, hd] at h1
  intro e
  rw [e] at h1
  simp at h1
 ·have h1 := ((h j (lt j oj hj)).2 i hij).2
  rw [gd j oj hj, gd i oi hi, Bool.or_eq_true] at h1
  rcases h1 with h1 | h1
  ·exact .inl h1
  ·by_cases hb : ((masks l []).getD j 0).testBit i = true
   ·exact .inl hb
   ·right
    simp only [bE3, Bool.and_eq_true] at h1
    refine ⟨h1.1, ?_⟩
    cases hpu : rL P l with
    | true =>
     have h2 := h1.2
     unfold chg
     cases c1 : clsOf P oi <;> cases c2 : clsOf P oj <;> simp_all
    | false =>
     simp only [rL, List.any_eq_false, List.mem_range] at hpu
     have h3 := hpu j (lt j oj hj)
     rw [Bool.not_eq_true, List.any_eq_false] at h3
     have h3 := h3 i (by simpa using hij)
     rw [gd j oj hj, gd i oi hi] at h3
     have hb' : ((masks l []).getD j 0).testBit i = false := by simpa using hb
     by_cases c1 : clsOf P oi = .n
     ·exact .inl c1
     ·by_cases c2 : clsOf P oj = .n
      ·exact .inr (.inl c2)
      ·by_cases hca : clsOf P oi = .ca ∨ clsOf P oj = .ca
       ·exact absurd (by rw [hb']; rcases hca with e | e <;> simp [c1, c2, e]) h3
       ·have h2 := h1.2
        unfold chg
        cases d1 : clsOf P oi <;> cases d2 : clsOf P oj <;> simp_all

section
variable {P : Program} {call : CallF} {l : List Oper} {pu : Bool} {nt : Nat} {E : Nat → Env} {M : Nat → Mem} {A : Nat → AV}
variable (hD : Drawn P l pu) (hT : ∀ (k : Nat) o, l[k]? = some o → aDm P call nt l.toArray pu o (E k) (M k) (A k) (E (k + 1)) (M (k + 1)))
include hT
theorem aOc {k : Nat} {o : Oper} (h : l[k]? = some o) (t : Nat) : get (E (k + 1)) t = if o.dst = some t then A k else get (E k) t := by
 have hp := (hT k o h).1
 unfold putAV at hp
 split at hp
 ·rename_i hd
  simp only [Option.some.injEq] at hp
  rw [← hp, if_neg (by rw [hd]; simp)]
 ·rename_i d hd
  split at hp
  ·simp only [Option.some.injEq] at hp
   rw [← hp, hd]
   simp [Ev.get]
  ·cases hp
theorem aO4 {t : Nat} : ∀ k, k ≤ l.length → (∀ (j : Nat) o, j < k → l[j]? = some o → o.dst ≠ some t) → get (E k) t = get (E 0) t
 | 0, _, _ => rfl
 | k + 1, hk, h => by
  have ho : l[k]? = some l[k] := List.getElem?_eq_getElem (by omega)
  rw [aOc hT ho, if_neg (h k _ (by omega) ho)]
  exact aO4 k (by omega) fun j o hj => h j o (by omega)
include hD
theorem aTp {t j : Nat} {o : Oper} (hj : l[j]? = some o) (hd : o.dst = some t) : ∀ k, k ≤ l.length → j < k → get (E k) t = A j
 | 0, _, h => by omega
 | k + 1, hk, h => by
  have ho : l[k]? = some l[k] := List.getElem?_eq_getElem (by omega)
  by_cases e : j = k
  ·subst e
   rw [hj] at ho
   rw [aOc hT hj, if_pos hd]
  ·rw [aOc hT ho, if_neg (hD.dst j k o _ (by omega) hj ho t hd)]
   exact aTp hj hd k (by omega) (by omega)
omit hD
theorem aWj {j : Nat} {o : Oper} (ho : l[j]? = some o) (hc : ¬ chg P pu o) : M (j + 1) = M j := by
 obtain ⟨_, ⟨_, hk⟩ | ⟨_, _, h⟩⟩ := hT j o ho
 ·obtain ⟨h1, h2⟩ := aDf hk
  cases c : clsOf P o with
  | n => exact (bPh h1 c).1
  | rd => exact bTh h1 c
  | ca =>
   cases pu with
   | false => exact absurd (.inr ⟨c, rfl⟩) hc
   | true => exact h2 (by simp [c])
  | wr => exact absurd (.inl c) hc
 ·exact h
theorem aBg {a : Nat} : ∀ b, a ≤ b → b ≤ l.length → (∀ (j : Nat) o, a ≤ j → j < b → l[j]? = some o → ¬ chg P pu o) → M b = M a
 | 0, h, _, _ => by
  have : a = 0 := by omega
  rw [this]
 | b + 1, h, hb, hc => by
  by_cases e : a = b + 1
  ·rw [e]
  ·have ho : l[b]? = some l[b] := List.getElem?_eq_getElem (by omega)
   rw [aWj hT ho (hc b _ (by omega) (by omega) ho)]
   exact aBg b (by omega) (by omega) fun j o h1 h2 => hc j o h1 (by omega)
end

def Slots (l : List Oper) (lst : Nat → Prop) (A : Nat → AV) (e : Env) (φ : Phi) (m : Mem) (w : World) (tmps : Array Value) : Prop :=
 ∀ t, (∀ (j : Nat) o, l[j]? = some o → o.dst = some t → lst j → Rep φ m w (A j) (tmps.getD t undef)) ∧
  ((∀ (j : Nat) o, l[j]? = some o → o.dst = some t → ¬ lst j) → Rep φ m w (get e t) (tmps.getD t undef))
structure Inv (P : Program) (l : List Oper) (pu : Bool) (nt : Nat) (M : Nat → Mem) (A : Nat → AV) (e : Env) (φ₀ : Phi) (m₀ : Mem) (w₀ : World) (lst : Nat → Prop) (k : Nat) (a : Act) (w : World) : Prop where
 st : ∃ φ, RM φ (M k) w ∧ Ext φ₀ m₀ w₀ φ (M k) w ∧ Slots l lst A e φ (M k) w a.tmps
 size : nt ≤ a.tmps.size
 defers : a.defers = []
 kle : k ≤ l.length
 closed : ∀ (j : Nat) o, l[j]? = some o → lst j → ∀ e ∈ o.after.toList, Region.binds .any e = true → lst e.on
 kk : ∀ (j : Nat) o, l[j]? = some o → chg P pu o → (lst j ↔ j < k)

theorem qH {a : Act} {dst : Option Tmp} {x : Value} {t : Nat} (h : dst ≠ some t) : (a.put dst x).tmps.getD t undef = a.tmps.getD t undef := by
 cases dst with
 | none => rfl
 | some d =>
  have : d ≠ t := fun e => h (by rw [e])
  simp only [Act.put, Array.getD_eq_getD_getElem?, Array.getElem?_setIfInBounds_ne this]
theorem aO7 {a : Act} {x : Value} {t nt : Nat} {av : AV} {e e' : Env} {dst : Option Tmp} (hd : dst = some t) (hp : putAV nt dst av e = some e') (hn : nt ≤ a.tmps.size) :
  (a.put dst x).tmps.getD t undef = x := by
 subst hd
 unfold putAV at hp
 simp only [] at hp
 split at hp
 ·rename_i h
  have : t < a.tmps.size := Nat.lt_of_lt_of_le h hn
  simp [Act.put, Array.getD, this]
 ·cases hp

section
variable {P : Program} {call : CallF} {l : List Oper} {pu : Bool} {nt : Nat} {E : Nat → Env} {M : Nat → Mem} {A : Nat → AV} {φ₀ : Phi} {m₀ : Mem} {w₀ : World}

theorem bMl (hC : dU P call) (hD : Drawn P l pu) (hT : ∀ (k : Nat) o, l[k]? = some o → aDm P call nt l.toArray pu o (E k) (M k) (A k) (E (k + 1)) (M (k + 1)))
  {lst : Nat → Prop} {k : Nat} {a : Act} {w : World} (hI : Inv P l pu nt M A (E 0) φ₀ m₀ w₀ lst k a w) {i : Nat} {o : Oper} (ho : l[i]? = some o) (hni : ¬ lst i)
  (hready : ∀ e ∈ o.after.toList, Region.binds .any e = true → lst e.on) {K : Act → World → Prop} {Q : Exit → Act → World → Prop}
  (hK : ∀ k' a' w', Inv P l pu nt M A (E 0) φ₀ m₀ w₀ (fun j => j = i ∨ lst j) k' a' w' → K a' w') : wpOp P l.toArray Q i K a w := by
 obtain ⟨⟨φ, hR, hX, hS⟩, hsize, hdef, hkle, hclosed, hkk⟩ := hI
 have hil : i < l.length := (List.getElem?_eq_some_iff.mp ho).1
 -- who looks at what
 have hlook : ∀ t, t ∈ o.looksAt l.toArray → Rep φ (M k) w (get (E i) t) (a.tmps.getD t undef) := by
  intro t ht
  by_cases hx : ∃ (j : Nat) (oj : Oper), j < i ∧ l[j]? = some oj ∧ oj.dst = some t
  ·obtain ⟨j, oj, hji, hj, hd⟩ := hx
   rw [aTp hD hT hj hd i (by omega) hji]
   refine (hS t).1 j oj hj hd ?_
   rcases hD.apart j i oj o hji hj ho with hb | ⟨hap, _⟩
   ·exact fD hD.edge hclosed i o ho hready j hb
   ·exact absurd ht ((Oper.apart_spec hap).1 t hd)
  ·rw [aO4 hT i (by omega) fun j oj hji hj hd => hx ⟨j, oj, hji, hj, hd⟩]
   refine (hS t).2 fun j oj hj hd hl => ?_
   rcases Nat.lt_trichotomy j i with hlt | heq | hgt
   ·exact hx ⟨j, oj, hlt, hj, hd⟩
   ·subst heq; exact hni hl
   ·rcases hD.apart i j o oj hgt ho hj with hb | ⟨hap, _⟩
    ·exact hni (fD hD.edge hclosed j oj hj (hclosed j oj hj hl) i hb)
    ·exact absurd ht ((Oper.apart_spec hap).2.2 t hd)
 -- the memory
 have ord : clsOf P o ≠ .n → ∀ (j : Nat) oj, l[j]? = some oj → chg P pu oj → (j < i → lst j) ∧ (i < j → ¬ lst j) := by
  intro hn j oj hj hc
  have hjn : clsOf P oj ≠ .n := by rintro e; rcases hc with h | h <;> simp [e] at h
  refine ⟨fun hlt => ?_, fun hgt hl => ?_⟩
  ·rcases hD.apart j i oj o hlt hj ho with hb | ⟨_, h | h | h⟩
   ·exact fD hD.edge hclosed i o ho hready j hb
   ·exact absurd h hjn
   ·exact absurd h hn
   ·exact absurd hc h.1
  ·rcases hD.apart i j o oj hgt ho hj with hb | ⟨_, h | h | h⟩
   ·exact hni (fD hD.edge hclosed j oj hj (hclosed j oj hj hl) i hb)
   ·exact absurd h hn
   ·exact absurd h hjn
   ·exact absurd hc h.2
 have hMk : clsOf P o ≠ .n → M k = M i := by
  intro hn
  rcases Nat.le_total k i with hle | hle
  ·refine (aBg hT i hle (by omega) fun j oj h1 h2 hj hc => ?_).symm
   have := (hkk j oj hj hc).mp ((ord hn j oj hj hc).1 h2)
   omega
  ·refine aBg hT k hle hkle fun j oj h1 h2 hj hc => ?_
   have hl := (hkk j oj hj hc).mpr h2
   rcases Nat.lt_or_eq_of_le h1 with h3 | h3
   ·exact (ord hn j oj hj hc).2 h3 hl
   ·subst h3; exact hni hl
 have hkk' : ∀ k', (chg P pu o → k' = i + 1) → (¬ chg P pu o → k' = k) → ∀ (j : Nat) oj, l[j]? = some oj → chg P pu oj → ((j = i ∨ lst j) ↔ j < k') := by
  intro k' h1 h2 j oj hj hc
  by_cases hco : chg P pu o
  ·rw [h1 hco]
   have hn : clsOf P o ≠ .n := by rintro e; rcases hco with h | h <;> simp [e] at h
   have hor := ord hn j oj hj hc
   constructor
   ·rintro (h | h)
    ·omega
    ·exact Nat.lt_of_not_le fun hge => hor.2 (by omega) h
   ·intro h
    by_cases e : j = i
    ·exact .inl e
    ·exact .inr (hor.1 (by omega))
  ·rw [h2 hco]
   have hne : j ≠ i := by rintro rfl; rw [hj] at ho; cases ho; exact hco hc
   rw [← hkk j oj hj hc]
   simp [hne]
 obtain ⟨hput, hstep⟩ := hT i o ho
 -- the state behind it
 have after : ∀ k' x w' φ', k' ≤ l.length → (chg P pu o → k' = i + 1) → (¬ chg P pu o → k' = k) → RM φ' (M k') w' → Ext φ (M k) w φ' (M k') w' → Rep φ' (M k') w' (A i) x →
   Inv P l pu nt M A (E 0) φ₀ m₀ w₀ (fun j => j = i ∨ lst j) k' (a.put o.dst x) w' := by
  intro k' x w' φ' hk' h1 h2 g1 g2 g3
  refine ⟨⟨φ', g1, hX.trans g2, fun t => ⟨fun j oj hj hd hl => ?_, fun hno => ?_⟩⟩, by rw [gG]; exact hsize, by rw [eQ]; exact hdef, hk', fun j oj hj hl e he hb => ?_, hkk' k' h1 h2⟩
  ·by_cases e : j = i
   ·subst e
    rw [hj] at ho
    cases ho
    rw [aO7 hd hput hsize]
    exact g3
   ·have hne : o.dst ≠ some t := by
     rcases Nat.lt_or_gt_of_ne e with h | h
     ·exact hD.dst j i oj o h hj ho t hd
     ·exact fun hod => hD.dst i j o oj h ho hj t hod hd
    rw [qH hne]
    exact ((hS t).1 j oj hj hd (hl.resolve_left e)).mono g2
  ·have hne : o.dst ≠ some t := fun hd => hno i o ho hd (.inl rfl)
   rw [qH hne]
   exact ((hS t).2 fun j oj hj hd hl => hno j oj hj hd (.inr hl)).mono g2
  ·rcases hl with h | h
   ·subst h
    rw [hj] at ho
    cases ho
    exact .inr (hready e he hb)
   ·exact .inr (hclosed j oj hj h e he hb)
 -- the environment cut to what is looked at
 let E' : Env := (o.looksAt l.toArray).map fun s => (s, get (E i) s)
 have hE' : cX φ (M k) w E' a.tmps := by
  intro t
  rw [nR]
  split
  ·exact hlook t ‹_›
  ·exact .junk _
 have hget : ∀ t, t ∈ o.looksAt l.toArray → get E' t = get (E i) t := fun t ht => by rw [nR, if_pos ht]
 have hwant : wantedAV l.toArray E' o = wantedAV l.toArray (E i) o := by
  unfold wantedAV
  cases hg : o.guard with
  | none => rfl
  | some g =>
   obtain ⟨j, want⟩ := g
   simp only []
   cases hj : (l.toArray[j]?).bind (·.dst) with
   | none => rfl
   | some d =>
    simp only []
    rw [hget d (by simp [Oper.looksAt, hg]; right; simpa using hj)]
 have hop : ∀ m, evOp P call E' m o = evOp P call (E i) m o := by
  intro m
  refine aDj fun x hx t => ?_
  cases x with
  | tmp s => exact hget s (by simp only [Oper.looksAt, List.mem_append, List.mem_filterMap]; exact .inl ⟨_, hx, rfl⟩)
  | const v => rfl
  | func f => rfl
  | global g => rfl
 unfold wpOp
 rw [List.getElem?_toArray, ho]
 simp only []
 rcases hstep with ⟨hw, hk⟩ | ⟨hw, hA, hM⟩
 ·rw [cW hE' (hwant.trans hw), if_pos rfl]
  left
  obtain ⟨h1, h2⟩ := aDf hk
  by_cases hn : clsOf P o = .n
  ·have h3 := (bPh h1 hn).2 (M k)
   rw [← hop] at h3
   have hc : ¬ chg P pu o := by rintro (h | h) <;> simp [hn] at h
   exact aI1 hC hR hE' h3 fun x w' φ' g1 g2 g3 => hK k _ _ (after k x w' φ' hkle (fun h => absurd h hc) (fun _ => rfl) g1 g2 g3)
  ·rw [← hMk hn, ← hop] at h1
   by_cases hc : chg P pu o
   ·exact aI1 hC hR hE' h1 fun x w' φ' g1 g2 g3 => hK (i + 1) _ _ (after (i + 1) x w' φ' hil (fun _ => rfl) (fun h => absurd hc h) g1 g2 g3)
   ·have hM : M (i + 1) = M k := by rw [hMk hn, aWj hT ho hc]
    rw [hM] at h1
    exact aI1 hC hR hE' h1 fun x w' φ' g1 g2 g3 => hK k _ _ (after k x w' φ' hkle (fun h => absurd h hc) (fun _ => rfl) g1 g2 g3)
 ·rw [cW hE' (hwant.trans hw), if_neg (by simp)]
  have hrep : ∀ φ m w, Rep φ m w (A i) undef := fun φ m w => by rw [hA]; exact .v _
  by_cases hc : chg P pu o
  ·have hn : clsOf P o ≠ .n := by rintro e; rcases hc with h | h <;> simp [e] at h
   have e : M (i + 1) = M k := by rw [hM, hMk hn]
   refine hK (i + 1) _ _ (after (i + 1) undef w φ hil (fun _ => rfl) (fun h => absurd hc h) ?_ ?_ (hrep ..))
   ·rw [e]; exact hR
   ·rw [e]; exact Ext.refl ..
  ·exact hK k _ _ (after k undef w φ hkle (fun h => absurd h hc) (fun _ => rfl) hR (Ext.refl ..) (hrep ..))

/-- How many are not listed yet. -/
def unl (f : Nat → Bool) : Nat → Nat
 | 0 => 0
 | n + 1 => unl f n + (if f n then 0 else 1)
theorem aF7 {f : Nat → Bool} : ∀ n, unl f n = 0 → ∀ j, j < n → f j = true
 | 0, _, j, hj => by omega
 | n + 1, h, j, hj => by
  simp only [unl] at h
  have h1 : unl f n = 0 := by omega
  by_cases e : j = n
  ·subst e
   by_cases hf : f j = true
   ·exact hf
   ·simp [hf] at h
  ·exact aF7 n h1 j (by omega)
theorem aKn {f g : Nat → Bool} {i : Nat} (hi : f i = false) (hg : ∀ j, g j = (decide (j = i) || f j)) : ∀ n, unl f n = unl g n + if i < n then 1 else 0
 | 0 => by simp [unl]
 | n + 1 => by
  simp only [unl, aKn hi hg n, hg n]
  by_cases e : n = i
  ·subst e; simp [hi]
  ·have h2 : (i < n + 1) ↔ (i < n) := by omega
   by_cases h3 : i < n
   ·simp [e, h2, h3]; omega
   ·simp [e, h2, h3]

theorem bLi (hC : dU P call) (hD : Drawn P l pu) (hT : ∀ (k : Nat) o, l[k]? = some o → aDm P call nt l.toArray pu o (E k) (M k) (A k) (E (k + 1)) (M (k + 1))) {Q : Exit → Act → World → Prop}
  (hQ : ∀ a w, St φ₀ m₀ w₀ nt (E l.length) (M l.length) a w → Q .normal a w) :
  ∀ (n : Nat) (listed : Array Bool) (k : Nat) (a : Act) (w : World), listed.size = l.length → unl (fun j => listed.getD j false) l.length ≤ n →
   Inv P l pu nt M A (E 0) φ₀ m₀ w₀ (fun j => listed.getD j false = true) k a w → wpAny P .any l.toArray Q n listed a w := by
 -- all are listed
 have done : ∀ (listed : Array Bool) k a w, listed.size = l.length → (∀ j, j < l.length → listed.getD j false = true) → Inv P l pu nt M A (E 0) φ₀ m₀ w₀ (fun j => listed.getD j false = true) k a w → Q .normal a w := by
  intro listed k a w hsz hall hI
  obtain ⟨⟨φ, hR, hX, hS⟩, hsize, hdef, hkle, hclosed, hkk⟩ := hI
  have hM : M l.length = M k := aBg hT l.length hkle (Nat.le_refl _) fun j o h1 h2 hj hc => by
   have := (hkk j o hj hc).mp (hall j h2)
   omega
  refine hQ a w ⟨φ, by rw [hM]; exact hR, by rw [hM]; exact hX, fun t => ?_, hsize, hdef⟩
  rw [hM]
  by_cases hx : ∃ (j : Nat) (oj : Oper), l[j]? = some oj ∧ oj.dst = some t
  ·obtain ⟨j, oj, hj, hd⟩ := hx
   have hjl : j < l.length := (List.getElem?_eq_some_iff.mp hj).1
   rw [aTp hD hT hj hd l.length (Nat.le_refl _) hjl]
   exact (hS t).1 j oj hj hd (hall j hjl)
  ·rw [aO4 hT l.length (Nat.le_refl _) fun j oj hji hj hd => hx ⟨j, oj, hj, hd⟩]
   exact (hS t).2 fun j oj hj hd => absurd ⟨j, oj, hj, hd⟩ hx
 have gd : ∀ (listed : Array Bool) j, listed.size = l.length → j < l.length → listed.getD j true = listed.getD j false := by
  intro listed j hs hj
  simp [Array.getD, hs, hj]
 have rdy : ∀ (listed : Array Bool) i, listed.size = l.length → (i ∈ Region.ready .any l.toArray listed ↔ ∃ o, l[i]? = some o ∧ listed.getD i false = false ∧ ∀ e ∈ o.after.toList, Region.binds .any e = true → listed.getD e.on false = true) := by
  intro listed i hs
  simp only [Region.ready, List.mem_filter, List.mem_range, Bool.and_eq_true, List.size_toArray, List.getElem?_toArray, Bool.not_eq_true']
  constructor
  ·rintro ⟨h1, h2, h3⟩
   have ho : l[i]? = some l[i] := List.getElem?_eq_getElem h1
   rw [ho] at h3
   simp only [Option.map_some, Option.getD_some, Array.all_eq_true'] at h3
   rw [gd listed i hs h1] at h2
   refine ⟨_, ho, h2, fun e he hb => ?_⟩
   have := h3 e (by simpa using he)
   simpa [hb] using this
  ·rintro ⟨o, ho, h2, h3⟩
   have h1 : i < l.length := (List.getElem?_eq_some_iff.mp ho).1
   refine ⟨h1, by rw [gd listed i hs h1]; exact h2, ?_⟩
   rw [ho]
   simp only [Option.map_some, Option.getD_some, Array.all_eq_true']
   intro e he
   have := h3 e (by simpa using he)
   cases hb : Region.binds .any e with
   | false => rfl
   | true => simpa using this hb
 have noneReady : ∀ (listed : Array Bool), listed.size = l.length → Region.ready .any l.toArray listed = [] → ∀ j, j < l.length → listed.getD j false = true := by
  intro listed hs hn j
  induction j using Nat.strongRecOn with
  | _ j ih =>
   intro hj
   have ho : l[j]? = some l[j] := List.getElem?_eq_getElem hj
   cases hl : listed.getD j false with
   | true => rfl
   | false =>
    have : j ∈ Region.ready .any l.toArray listed := (rdy listed j hs).mpr ⟨_, ho, hl, fun e he hb => ih e.on (hD.edge j _ ho e he hb) (Nat.lt_trans (hD.edge j _ ho e he hb) hj)⟩
    rw [hn] at this
    cases this
 intro n
 induction n with
 | zero =>
  intro listed k a w hs hu hI
  have hall := aF7 l.length (by omega : unl (fun j => listed.getD j false) l.length = 0)
  refine ⟨?_, done listed k a w hs hall hI⟩
  cases hr : Region.ready .any l.toArray listed with
  | nil => rfl
  | cons i r =>
   obtain ⟨o, ho, h2, _⟩ := (rdy listed i hs).mp (by rw [hr]; simp)
   rw [hall i (List.getElem?_eq_some_iff.mp ho).1] at h2
   cases h2
 | succ n ih =>
  intro listed k a w hs hu hI
  refine ⟨fun hn => done listed k a w hs (noneReady listed hs hn) hI, fun i hi => ?_⟩
  obtain ⟨o, ho, h2, h3⟩ := (rdy listed i hs).mp hi
  have hil : i < l.length := (List.getElem?_eq_some_iff.mp ho).1
  have hset : ∀ j, (listed.setIfInBounds i true).getD j false = (decide (j = i) || listed.getD j false) := by
   intro j
   by_cases e : j = i
   ·subst e; simp [Array.getD, hs, hil]
   ·have e' : i ≠ j := fun h => e h.symm
    simp only [Array.getD_eq_getD_getElem?, Array.getElem?_setIfInBounds_ne e', e, decide_false, Bool.false_or]
  refine bMl hC hD hT hI ho (by rw [h2]; simp) h3 fun k' a' w' hI' => ih _ k' a' w' (by simpa using hs) ?_ ?_
  ·have := aKn (f := fun j => listed.getD j false) (g := fun j => (listed.setIfInBounds i true).getD j false) h2 hset l.length
   rw [if_pos hil] at this
   omega
  ·have e : (fun j => (listed.setIfInBounds i true).getD j false = true) = fun j => j = i ∨ listed.getD j false = true := by
    funext j
    rw [hset j]
    simp
   rw [e]
   exact hI'

theorem aTd (f : Nat → Bool) : ∀ n, unl f n ≤ n
 | 0 => Nat.le_refl _
 | n + 1 => by
  have := aTd f n
  simp only [unl]
  split <;> omega

theorem aYy (hm : P.follows .mixedOrders = true) (hC : dU P call) {id : Nat} {e e' : Env} {m m' : Mem} (h : aG2 P call nt l e m = some (e', m')) {a : Act} {w : World}
  (hs : St φ₀ m₀ w₀ nt e m a w) {Q : Exit → Act → World → Prop} (hQ : ∀ a w, St φ₀ m₀ w₀ nt e' m' a w → Q .normal a w) : (Code.region id l.toArray true).wp P Q a w := by
 unfold aG2 at h
 split at h
 ·rename_i hok
  have hD := bMm hok
  obtain ⟨E, M, A, rfl, rfl, rfl, rfl, hT⟩ := aI4 l e m e' m' h
  obtain ⟨φ, hR, hX, hE, hn, hd⟩ := hs
  refine wp_region_any hm (bLi hC hD hT hQ l.toArray.size _ 0 a _ (by simp) (aTd ..) ?_)
  have no : ∀ j, ¬ (Array.replicate l.toArray.size false).getD j false = true := by
   intro j
   simp [Array.getD]
  exact ⟨⟨φ, oH hR, hX.trans (iR φ (M 0) w), fun t => ⟨fun j o _ _ hl => absurd hl (no j), fun _ => (hE t).mono (iR φ (M 0) w)⟩⟩, hn, hd, Nat.zero_le _, fun j o _ hl => absurd hl (no j),
   fun j o _ _ => ⟨fun hl => absurd hl (no j), fun h => by omega⟩⟩
 ·cases h
end
end
section
def bQy : Ex → Exit
 | .normal => .normal
 | .exit id => .exit id
 | .ret => .ret
section
variable {P : Program} {call : CallF} {nt : Nat} {φ₀ : Phi} {m₀ : Mem} {w₀ : World}

theorem St.restr {e : Env} {m : Mem} {a : Act} {w : World} (h : St φ₀ m₀ w₀ nt e m a w) (l : Option (List Nat)) : St φ₀ m₀ w₀ nt (restr l e) m a w := by
 obtain ⟨φ, h1, h2, h3, h4⟩ := h
 exact ⟨φ, h1, h2, h3.restr l, h4⟩
/-- What a piece of code leaves behind. -/
def kB (φ₀ : Phi) (m₀ : Mem) (w₀ : World) (nt : Nat) (r : Ex × Env × Mem) : Exit → Act → World → Prop := fun x a w => x = bQy r.1 ∧ St φ₀ m₀ w₀ nt r.2.1 r.2.2 a w
theorem aOh {b : Code} {body : Env → Mem → Res} (hb : ∀ e m r, body e m = some r → ∀ a w, St φ₀ m₀ w₀ nt e m a w → b.wp P (kB φ₀ m₀ w₀ nt r) a w) {r : Ex × Env × Mem} :
  ∀ n e m, zA body n e m = some r → ∀ a w, St φ₀ m₀ w₀ nt e m a w → Code.rounds P b (kB φ₀ m₀ w₀ nt r) n a w
 | 0, e, m, h, a, w, hs => by cases h
 | n + 1, e, m, h, a, w, hs => by
  rw [rounds_succ]
  unfold zA at h
  split at h
  ·rename_i e' m' h1
   refine wp_mono (hb e m _ h1 a w hs) fun x a' w' hp => ?_
   obtain ⟨rfl, hs'⟩ := hp
   exact aOh hb n e' m' h a' w' hs'
  ·rename_i h1
   refine wp_mono (hb e m _ h a w hs) fun x a' w' hp => ?_
   obtain ⟨rfl, hs'⟩ := hp
   obtain ⟨x, e', m'⟩ := r
   cases x with
   | normal => exact absurd h (h1 e' m')
   | exit id => exact ⟨rfl, hs'⟩
   | ret => exact ⟨rfl, hs'⟩
theorem aDx (hm : P.follows .mixedOrders = true) (hC : dU P call) (kp : Nat → Option (List Nat)) (n : Nat) : ∀ (c : Code) (e : Env) (m : Mem) (r : Ex × Env × Mem), code P call nt kp n c e m = some r →
  ∀ a w, St φ₀ m₀ w₀ nt e m a w → c.wp P (kB φ₀ m₀ w₀ nt r) a w := by
 intro c
 induction c with
 | skip =>
  intro e m r h a w hs
  simp only [code, Option.some.injEq] at h
  subst h
  exact wp_skip ⟨rfl, hs⟩
 | region id ops draw =>
  intro e m r h a w hs
  unfold code at h
  split at h
  ·rename_i e' m' h1
   simp only [Option.some.injEq] at h
   subst h
   cases draw with
   | true =>
    rw [if_pos rfl] at h1
    have := aYy (id := id) (Q := kB φ₀ m₀ w₀ nt (.normal, Ev.restr (kp id) e', m')) hm hC h1 hs fun a w hs => ⟨rfl, hs.restr _⟩
    simpa using this
   | false =>
    rw [if_neg (by simp)] at h1
    exact wp_region_list (aHe hC ops.toList e m e' m' h1 (fun a w hs => ⟨rfl, hs.restr _⟩) a w hs)
  ·cases h
 | seq x y ihx ihy =>
  intro e m r h a w hs
  unfold code at h
  refine wp_seq ?_
  split at h
  ·rename_i e' m' h1
   refine wp_mono (ihx e m _ h1 a w hs) fun x a' w' hp => ?_
   obtain ⟨rfl, hs'⟩ := hp
   exact ihy e' m' r h a' w' hs'
  ·rename_i h1
   refine wp_mono (ihx e m _ h a w hs) fun x a' w' hp => ?_
   obtain ⟨rfl, hs'⟩ := hp
   obtain ⟨x, e', m'⟩ := r
   cases x with
   | normal => exact absurd h (h1 e' m')
   | exit id => exact ⟨rfl, hs'⟩
   | ret => exact ⟨rfl, hs'⟩
 | cond c x y ihx ihy =>
  intro e m r h a w hs
  unfold code at h
  split at h
  ·rename_i t ht
   have hc : a.eval c = .bool t := by
    obtain ⟨φ, _, _, hE, _⟩ := hs
    have := fU (P := P) hE 0 c
    rw [ht] at this
    generalize hv : a.eval c = v at this
    cases this
    rfl
   refine wp_cond hc ?_
   cases t with
   | true => exact ihx e m r h a w hs
   | false => exact ihy e m r h a w hs
  ·cases h
 | block id b ih =>
  intro e m r h a w hs
  unfold code at h
  refine wp_block ?_
  split at h
  ·rename_i q e' m' h1
   refine wp_mono (ih e m _ h1 a w hs) fun x a' w' hp => ?_
   obtain ⟨rfl, hs'⟩ := hp
   show (if q = id then _ else _)
   split at h
   ·rename_i hq
    rw [if_pos hq]
    simp only [Option.some.injEq] at h
    subst h
    exact ⟨rfl, hs'⟩
   ·rename_i hq
    rw [if_neg hq]
    simp only [Option.some.injEq] at h
    subst h
    exact ⟨rfl, hs'⟩
  ·rename_i h1
   refine wp_mono (ih e m _ h a w hs) fun x a' w' hp => ?_
   obtain ⟨rfl, hs'⟩ := hp
   obtain ⟨x, e', m'⟩ := r
   cases x with
   | normal => exact ⟨rfl, hs'⟩
   | exit id => exact absurd h (h1 id e' m')
   | ret => exact ⟨rfl, hs'⟩
 | loop b ih =>
  intro e m r h a w hs
  unfold code at h
  exact wp_loop_rounds n (aOh ih n e m h a w hs)
 | exit id =>
  intro e m r h a w hs
  simp only [code, Option.some.injEq] at h
  subst h
  exact wp_exit ⟨rfl, hs⟩
 | ret =>
  intro e m r h a w hs
  simp only [code, Option.some.injEq] at h
  subst h
  exact wp_ret ⟨rfl, hs⟩
 | _ => intro e m r h; simp [code] at h
end
end
section

/-- What an abstract value leads to: variables below n, tokens below k. -/
inductive Low (n k : Nat) : AV → Prop
 | junk : Low n k .junk
 | v (x : Value) : Low n k (.v x)
 | agg (cs : List AV) (h : ∀ (i : Nat) c, cs[i]? = some c → Low n k c) : Low n k (.agg cs)
 | tup (cs : List AV) (h : ∀ (i : Nat) c, cs[i]? = some c → Low n k c) : Low n k (.tup cs)
 | lst (g : Grow) (sz : Nat) (rows : List (List AV)) (h : ∀ id ver, g = .tok id ver → id < k) : Low n k (.lst g sz rows)
 | ptr (r off : Nat) (h : r < n) : Low n k (.ptr r off)
 | eptr (cs : List AV) (h : ∀ (i : Nat) c, cs[i]? = some c → Low n k c) : Low n k (.eptr cs)
 | vs (r off sz m c : Nat) (h : r < n) : Low n k (.vs r off sz m c)
 | fn (f : Fn) (first caps : List AV) (h1 : ∀ (i : Nat) c, first[i]? = some c → Low n k c) (h2 : ∀ (i : Nat) c, caps[i]? = some c → Low n k c) : Low n k (.fn f first caps)

theorem aT7 {φ : Phi} {m m1 : Mem} {w : World} {n k : Nat} (hv : ∀ r, r < n → m1.var r = m.var r) (ht : ∀ id, id < k → m1.toks[id]? = m.toks[id]?) {a : AV} {x : Value} (h : Rep φ m w a x) :
  Low n k a → Rep φ m1 w a x := by
 induction h with
 | junk x => exact fun _ => .junk x
 | v x => exact fun _ => .v x
 | agg cs arr hn _ ih => intro hl; cases hl with | agg _ hl => exact .agg cs arr hn fun i a u h1 h2 => ih i a u h1 h2 (hl i a h1)
 | tup cs arr hn _ ih => intro hl; cases hl with | tup _ hl => exact .tup cs arr hn fun i a u h1 h2 => ih i a u h1 h2 (hl i a h1)
 | lst g sz rows a c val hc hr ha hs hcell _ hg ih =>
  intro hl
  cases hl with
  | lst _ _ _ hl =>
   refine .lst g sz rows a c val hc hr ha hs hcell (fun i row j x h1 h2 => ih i row j x h1 h2 ?_) ?_
   ·have hall := (hr i row h1).2
    rw [List.all_eq_true] at hall
    have := hall x (List.mem_of_getElem? h2)
    unfold kD at this
    split at this
    ·exact .v _
    ·exact .lst _ _ _ fun id ver e => by cases e
    ·cases this
   ·cases g with
    | no => exact trivial
    | full => exact hg
    | here => exact hg
    | tok id ver =>
     obtain ⟨v, h1, h2⟩ := hg
     exact ⟨v, (ht id (hl id ver rfl)).trans h1, h2⟩
 | ptr r off cs h => intro hl; cases hl with | ptr _ _ hl => exact .ptr r off cs ((hv r hl).trans h)
 | eptr cs ad val hs hcell _ ih => intro hl; cases hl with | eptr _ hl => exact .eptr cs ad val hs hcell fun j x e => ih j x e (hl j x e)
 | vs r off sz n c cs h hb hn => intro hl; cases hl with | vs _ _ _ _ _ hl => exact .vs r off sz n c cs ((hv r hl).trans h) hb hn
 | fn f first caps fv cv h1 h2 _ _ ih1 ih2 =>
  intro hl
  cases hl with
  | fn _ _ _ l1 l2 => exact .fn f first caps fv cv h1 h2 (fun i a u e1 e2 => ih1 i a u e1 e2 (l1 i a e1)) fun i a u e1 e2 => ih2 i a u e1 e2 (l2 i a e1)

theorem aX2 {φ : Phi} {m : Mem} {w : World} {g : Grow} {sz : Nat} {rows : List (List AV)} {x : Value} (h : Rep φ m w (.lst g sz rows) x) (n : Nat) : Low n m.toks.length (.lst g sz rows) := by
 cases h with
 | lst _ _ _ a c val hc hr ha hs hcell hrep hg =>
  refine .lst g sz rows fun id ver e => ?_
  subst e
  obtain ⟨v, h1, _⟩ := hg
  exact (List.getElem?_eq_some_iff.mp h1).1
theorem aXx {n k : Nat} {cs : List AV} (h : cs.all isV = true) : Low n k (.eptr cs) := .eptr _ fun i c hc => by
 have := List.all_eq_true.1 h c (List.mem_of_getElem? hc)
 cases c with
 | v x => exact .v _
 | _ => cases this
theorem aQt {n k : Nat} {c : AV} (h : bEu c = true) : Low n k c := by
 unfold bEu at h
 split at h
 ·exact .v _
 ·exact aXx h
 ·cases h
/-- A variable's cells lead to nothing younger than it. -/
theorem aZq {φ : Phi} {m : Mem} {w : World} {n r : Nat} {c : AV} {x : Value} (h : Rep φ m w c x) (hok : okCell c = true) (hr : refLe r c = true) (hn : r < n) : Low n m.toks.length c := by
 have arg : ∀ {a : AV} {u : Value}, Rep φ m w a u → refLe.okArg r a = true → Low n m.toks.length a := by
  intro a u ha ho
  unfold refLe.okArg at ho
  split at ho
  ·exact .ptr _ _ (by simp at ho; omega)
  ·exact .v _
  ·exact aX2 ha n
  ·exact aXx ho
  ·cases ho
 cases c with
 | v x => exact .v x
 | lst g sz rows => exact aX2 h n
 | ptr q off => exact .ptr _ _ (by simp [refLe] at hr; omega)
 | vs q off sz m c => exact .vs _ _ _ _ _ (by simp [refLe] at hr; omega)
 | fn f first caps =>
  simp only [refLe, Bool.and_eq_true, List.all_eq_true] at hr
  cases h with
  | fn _ _ _ fv cv h1 h2 r1 r2 =>
   refine .fn _ _ _ (fun i a hi => ?_) fun i a hi => ?_
   ·have hlt : i < fv.size := by rw [h1]; exact (List.getElem?_eq_some_iff.mp hi).1
    exact arg (r1 i a _ hi (Array.getElem?_eq_getElem hlt)) (hr.1 a (List.mem_of_getElem? hi))
   ·have hlt : i < cv.size := by rw [h2]; exact (List.getElem?_eq_some_iff.mp hi).1
    exact arg (r2 i a _ hi (Array.getElem?_eq_getElem hlt)) (hr.2 a (List.mem_of_getElem? hi))
 | _ => simp [okCell] at hok

/-! ### the memory behind a call -/
/-- Cells of the callee's own variables are never written again. -/
def aFm (φ : Phi) (m : Mem) (n : Nat) : Phi where
 vb := φ.vb
 im b o := φ.im b o ∨ ∃ r cs, n ≤ r ∧ m.var r = some cs ∧ b = φ.vb r ∧ o < cs.length
 tk := φ.tk
theorem aM7 (φ : Phi) (m : Mem) (w : World) (n : Nat) : Ext φ m w (aFm φ m n) m w :=
 ⟨rfl, rfl, rfl, Nat.le_refl _, fun _ _ h => ⟨.inl h, rfl⟩, fun _ cs h => ⟨rfl, cs, h, rfl⟩, fun _ v h => ⟨v, h, Nat.le_refl _, fun _ => rfl⟩, fun _ _ _ => rfl, fun _ h => .inl h, fun b o h => h.elim .inl fun ⟨r, cs, _, hv, he, _⟩ => .inr (.inl (.inl ⟨r, cs, hv, he.symm⟩))⟩
theorem lQ (m₀ m : Mem) : (∀ r, r < m₀.vars.length → (bI m₀ m).var r = m.var r) ∧ (∀ r cs, (bI m₀ m).var r = some cs → r < m₀.vars.length ∧ m.var r = some cs) ∧
  (∀ id, id < (bI m₀ m).toks.length → (bI m₀ m).toks[id]? = m.toks[id]?) ∧ (bI m₀ m).toks.length ≤ m.toks.length ∧
  (m₀.toks.length ≤ m.toks.length → m₀.toks.length ≤ (bI m₀ m).toks.length) ∧
  (((bI m₀ m).vars = m₀.vars) ∨ (bI m₀ m).toks = m.toks) := by
 have take_var : ∀ r, r < m₀.vars.length → ((m.vars.take m₀.vars.length)[r]?).join = (m.vars[r]?).join := fun r hr => by rw [List.getElem?_take_of_lt hr]
 have take_lt : ∀ (l : List (Option (List AV))) r cs, (((l.take m₀.vars.length)[r]?).join) = some cs → r < m₀.vars.length := fun l r cs h => by
  rw [List.getElem?_take] at h
  split at h
  ·assumption
  ·cases h
 unfold bI
 split
 ·rename_i he
  refine ⟨fun r hr => ?_, fun r cs h => ?_, fun id hid => ?_, by simp; omega, fun h => by simp; omega, .inl rfl⟩
  ·show (m₀.vars[r]?).join = _
   rw [← he]; exact take_var r hr
  ·have h' : (m₀.vars[r]?).join = some cs := h
   rw [← he] at h'
   have hlt := take_lt _ r cs h'
   exact ⟨hlt, (take_var r hlt).symm.trans h'⟩
  ·simp only [List.length_take] at hid
   exact List.getElem?_take_of_lt (by omega)
 ·exact ⟨fun r hr => take_var r hr, fun r cs h => ⟨take_lt _ r cs h, (take_var r (take_lt _ r cs h)).symm.trans h⟩, fun id _ => rfl, Nat.le_refl _, fun h => h, .inr rfl⟩

section
variable {φ₀ φ : Phi} {m₀ m : Mem} {w₀ w : World}
theorem aTm (hX : Ext φ₀ m₀ w₀ φ m w) : m₀.toks.length ≤ m.toks.length := by
 rcases Nat.eq_zero_or_pos m₀.toks.length with h | h
 ·omega
 ·obtain ⟨v', h1, _⟩ := hX.tk (m₀.toks.length - 1) m₀.toks[m₀.toks.length - 1] (List.getElem?_eq_getElem (by omega))
  have := (List.getElem?_eq_some_iff.mp h1).1
  omega
theorem aUn (hR₀ : RM φ₀ m₀ w₀) (hR : RM φ m w) (hX : Ext φ₀ m₀ w₀ φ m w) : RM (aFm φ m m₀.vars.length) (bI m₀ m) w := by
 obtain ⟨f1, f2, f3, f4, f5, f6⟩ := lQ m₀ m
 have f7 := f5 (aTm hX)
 refine ⟨fun r cs h => ?_, fun r r' cs cs' h1 h2 e => hR.inj r r' cs cs' (f2 r cs h1).2 (f2 r' cs' h2).2 e, fun r cs o h hi => ?_, fun id b s e hid htk hlt => ?_, fun id id' b s e s' e' h1 h2 => hR.tinj id id' b s e s' e' (by omega) (by omega), fun b o hi => ?_⟩
 ·obtain ⟨hr, hv⟩ := f2 r cs h
  obtain ⟨arr, T, h1, h2, h3, h4⟩ := hR.var r cs hv
  refine ⟨arr, T, h1, ⟨h2.1, fun i a u e1 e2 => ?_⟩, h3, h4⟩
  have ha := (h2.2 i a u e1 e2).mono (aM7 φ m w m₀.vars.length)
  rw [List.all_eq_true] at h3 h4
  have hmem := List.mem_of_getElem? e1
  refine aT7 (n := m₀.vars.length) (k := (bI m₀ m).toks.length) f1 f3 ha ?_
  rcases f6 with f6 | f6
  ·-- the variables are what they were
   have hv0 : m₀.var r = some cs := by
    have : (bI m₀ m).var r = m₀.var r := by unfold Mem.var; rw [f6]
    rw [← this]; exact h
   obtain ⟨arr0, T0, g1, g2, g3, g4⟩ := hR₀.var r cs hv0
   have hlt : i < arr0.size := by rw [g2.1]; exact (List.getElem?_eq_some_iff.mp e1).1
   have hl := aZq (n := m₀.vars.length) (g2.2 i a _ e1 (Array.getElem?_eq_getElem hlt)) (h3 a hmem) (h4 a hmem) hr
   clear f6
   -- from the tokens of old to those that are left
   have up : ∀ {c : AV}, Low m₀.vars.length m₀.toks.length c → Low m₀.vars.length (bI m₀ m).toks.length c := by
    intro c hc
    induction hc with
    | junk => exact .junk
    | v x => exact .v x
    | agg cs h ih => exact .agg cs ih
    | tup cs h ih => exact .tup cs ih
    | lst g sz rows h => exact .lst g sz rows fun id ver e => Nat.lt_of_lt_of_le (h id ver e) f7
    | ptr r off h => exact .ptr r off h
    | eptr cs h ih => exact .eptr cs ih
    | vs r off sz m c h => exact .vs r off sz m c h
    | fn f first caps h1 h2 ih1 ih2 => exact .fn f first caps ih1 ih2
   exact up hl
  ·rw [f6]
   exact aZq (n := m₀.vars.length) (h2.2 i a u e1 e2) (h3 a hmem) (h4 a hmem) hr
 ·obtain ⟨hr, hv⟩ := f2 r cs h
  rcases hi with hi | ⟨r', cs', h1, h2, h3, _⟩
  ·exact hR.vim r cs o hv hi
  ·have := hR.inj r r' cs cs' hv h2 h3
   omega
 ·obtain ⟨arr, T, g1, g2, g3, g4, g5⟩ := hR.tok id b s e (by omega) htk hlt
  refine ⟨arr, T, g1, g2, fun o h1 h2 hi => ?_, fun r cs hv => g4 r cs (f2 r cs hv).2, g5⟩
  rcases hi with hi | ⟨r', cs', _, h3, h4, _⟩
  ·exact g3 o h1 h2 hi
  ·exact g4 r' cs' h3 h4.symm
 ·rcases hi with hi | ⟨r, cs, _, h2, h3, _⟩
  ·exact hR.imlt b o hi
  ·obtain ⟨arr, T, h1, _⟩ := hR.var r cs h2
   rw [h3]
   exact (Array.getElem?_eq_some_iff.mp h1).1
theorem aKm (hX : Ext φ₀ m₀ w₀ φ m w) : Ext φ₀ m₀ w₀ (aFm φ m m₀.vars.length) (bI m₀ m) w := by
 obtain ⟨f1, f2, f3, f4, f5, f6⟩ := lQ m₀ m
 have f7 := f5 (aTm hX)
 refine ⟨hX.os, hX.tape, hX.output, hX.size, fun b o h => ⟨.inl (hX.im b o h).1, (hX.im b o h).2⟩, fun r cs h => ?_, fun id v h => ?_, hX.blk, fun b hb => hX.own b ?_, fun b o h => h.elim (hX.imn b o) fun ⟨r, cs, _, hv, he, _⟩ => .inr (hX.own b (.inl ⟨r, cs, hv, he.symm⟩))⟩
 ·obtain ⟨e, cs', hv, hl⟩ := hX.vb r cs h
  have hr : r < m₀.vars.length := by
   unfold Mem.var at h
   refine Nat.lt_of_not_le fun hle => ?_
   rw [List.getElem?_eq_none hle] at h
   cases h
  exact ⟨e, cs', (f1 r hr).trans hv, hl⟩
 ·obtain ⟨v', hv, hle, he⟩ := hX.tk id v h
  have hid := (List.getElem?_eq_some_iff.mp h).1
  exact ⟨v', (f3 id (by omega)).trans hv, hle, he⟩
 ·rcases hb with ⟨r, cs, hv, e⟩ | ⟨id, s, e, hid, h1, h2⟩
  ·exact .inl ⟨r, cs, (f2 r cs hv).2, e⟩
  ·exact .inr ⟨id, s, e, by omega, h1, h2⟩

/-! ### results -/
theorem tG {a b : AV} {x : Value} (h : Rep φ m w a x) (hb : pV m₀.vars.length a = some b) : Rep (aFm φ m m₀.vars.length) (bI m₀ m) w b x := by
 obtain ⟨f1, f2, f3, f4, f5, f6⟩ := lQ m₀ m
 have h' := h.mono (aM7 φ m w m₀.vars.length)
 have low : ∀ {c : AV}, Rep (aFm φ m m₀.vars.length) m w c x → Low m₀.vars.length 0 c → Rep (aFm φ m m₀.vars.length) (bI m₀ m) w c x := fun hc hl => aT7 (k := 0) f1 (fun id h => by omega) hc hl
 unfold pV at hb
 split at hb
 ·simp only [Option.some.injEq] at hb; subst hb; cases h; exact .v _
 ·simp only [Option.some.injEq] at hb; subst hb
  exact low (zV h') (.lst _ _ _ fun id ver e => by cases e)
 ·split at hb
  ·rename_i hr
   simp only [Option.some.injEq] at hb; subst hb
   exact low h' (.ptr _ _ hr)
  ·cases hb
 ·split at hb
  ·rename_i hr
   simp only [Option.some.injEq] at hb; subst hb
   exact low h' (.fn _ _ _ (fun i c hc => aQt (List.all_eq_true.1 hr.1 c (List.mem_of_getElem? hc))) fun i c hc => aQt (List.all_eq_true.1 hr.2 c (List.mem_of_getElem? hc)))
  ·cases hb
 ·cases hb
theorem tC (hR : RM φ m w) {a b : AV} {x : Value} (h : Rep φ m w a x) (hb : fP m₀.vars.length m a = some b) : Rep (aFm φ m m₀.vars.length) (bI m₀ m) w b x := by
 obtain ⟨f1, f2, f3, f4, f5, f6⟩ := lQ m₀ m
 unfold fP at hb
 split at hb
 ·rename_i cs
  simp only [Option.map_eq_some_iff] at hb
  obtain ⟨r, hr, rfl⟩ := hb
  obtain ⟨hl, hs⟩ := jS hr
  cases h with
  | agg _ arr hn h =>
   refine .agg r arr (by rw [hl]; exact hn) fun i b u h1 h2 => ?_
   obtain ⟨c, hc, hcb⟩ := hs i b h1
   exact tG (h i c u hc h2) hcb
 ·rename_i r off sz n c
  split at hb
  ·cases hb
  ·rename_i hr
   split at hb
   ·rename_i cs hcs
    split at hb
    ·rename_i hc
     obtain ⟨rfl, rfl, rfl, rfl⟩ := hc
     simp only [Option.map_eq_some_iff] at hb
     obtain ⟨cs', hcs', rfl⟩ := hb
     obtain ⟨hl, hs⟩ := jS hcs'
     cases h with
     | vs _ _ _ _ _ cs2 hv hbd hn =>
      obtain ⟨arr, T, g1, g2, g3, g4⟩ := hR.var r cs hcs
      have hlen : (tV cs').length = cs.length := by simp [tV, hl]
      rw [← hlen]
      have at' : ∀ (i : Nat) row (j : Nat) y, (tV cs')[i]? = some row → row[j]? = some y → j = 0 ∧ cs'[i]? = some y ∧ i < cs.length := by
       intro i row j y h1 h2
       simp only [tV, List.getElem?_map, Option.map_eq_some_iff] at h1
       obtain ⟨z, hz, rfl⟩ := h1
       have hil := (List.getElem?_eq_some_iff.mp hz).1
       cases j with
       | zero => simp at h2; subst h2; exact ⟨rfl, hz, by omega⟩
       | succ j => simp at h2
      have cell : ∀ (i : Nat) y, cs'[i]? = some y → i < cs.length → ∃ z, arr[i]? = some (arr.getD i undef) ∧ cs[i]? = some z ∧ gF z = some y ∧ Rep φ m w y (arr.getD i undef) ∧ one (arr.getD i undef) = true := by
       intro i y hy hi
       obtain ⟨z, hz, hzy⟩ := hs i y hy
       have hia : i < arr.size := by rw [g2.1]; exact hi
       have e : arr[i]? = some (arr.getD i undef) := by simp [Array.getD, hia]
       obtain ⟨k1, k2⟩ := sM (g2.2 i z _ hz e) hzy
       exact ⟨z, e, hz, hzy, k1, k2⟩
      refine .lst .no 1 (tV cs') (some ⟨φ.vb r, 0, none⟩) _ (fun i j => arr.getD i undef) (by simp) (fun i row h1 => ?_) (fun e => by cases e) (fun ad e _ => by cases e; rfl) (fun ad i row j y e h1 h2 => ?_) (fun i row j y h1 h2 => ?_) trivial
      ·simp only [tV, List.getElem?_map, Option.map_eq_some_iff] at h1
       obtain ⟨z, hz, rfl⟩ := h1
       refine ⟨rfl, ?_⟩
       obtain ⟨q, hq, hqz⟩ := hs i z hz
       simp only [List.all_cons, List.all_nil, Bool.and_true]
       unfold gF at hqz
       split at hqz
       ·split at hqz
        ·cases hqz; rfl
        ·cases hqz
       ·cases hqz; rfl
       ·cases hqz
      ·cases e
       obtain ⟨rfl, h3, h4⟩ := at' i row j y h1 h2
       obtain ⟨z, k1, k2, k3, k4, k5⟩ := cell i y h3 h4
       refine ⟨.inr ⟨r, cs, by omega, hcs, rfl, by simpa using h4⟩, ?_, k5⟩
       simp only [World.cell?, g1, Nat.zero_add, Nat.mul_one, Nat.add_zero]
       exact k1
      ·obtain ⟨rfl, h3, h4⟩ := at' i row j y h1 h2
       obtain ⟨z, k1, k2, k3, k4, k5⟩ := cell i y h3 h4
       refine aT7 (k := 0) f1 (fun id h => by omega) (k4.mono (aM7 φ m w m₀.vars.length)) ?_
       unfold gF at k3
       split at k3
       ·split at k3
        ·cases k3; exact .v _
        ·cases k3
       ·cases k3; exact .lst _ _ _ fun id ver e => by cases e
       ·cases k3
    ·cases hb
   ·cases hb
 ·exact tG h hb
end
end
end Go.Proofs.YtmockbddhhmmeaaGreat.Ev
