/- An operation: what the evaluator says of it, the machine does. -/
import Derived.Test.YtojaokhkbmiidaaEv12
namespace Go.Proofs.Ytojaokhkbmiidaa.Ev
open Go
set_option linter.unusedVariables false
set_option linter.unusedSimpArgs false

/-- What the evaluator says of calls, the machine does. -/
def CallOk (P : Program) (call : CallF) : Prop :=
  ∀ f args m r m', call f args m = some (r, m') →
    (∃ fn, P.funcs[f]? = some fn ∧ fn.body.isNone = false ∧ (fn.name == "runtime.NumGoroutine") = false) ∧
    ∀ φ w vals, RM φ m w → Reps φ m w args vals →
      Calls P f vals w fun e w' => ∃ x φ', e = .returned x ∧ RM φ' m' w' ∧ Ext φ m w φ' m' w' ∧ Rep φ' m' w' r x

section
variable {P : Program} {φ : Phi} {m : Mem} {w : World}

theorem fin_value {s : Sem Value} {x : Value} {w' : World} (h : s.run P w = .ok x w') : (do pure (Next.value (← s)) : Sem Next).run P w = .ok (.value x) w' := by
  simp [Sem.run_bind, h]
theorem fin_skip {s : Sem Unit} {w' : World} (h : s.run P w = .ok () w') : (do s; pure Next.skip : Sem Next).run P w = .ok .skip w' := by
  simp [Sem.run_bind, h]

theorem reps_map {ops : List Operand} {f : Operand → AV} {ρ : Operand → Value} (h : ∀ x, Rep φ m w (f x) (ρ x)) : Reps φ m w (ops.map f) (ops.map ρ).toArray :=
  ⟨by simp, fun i a u h1 h2 => by
    simp only [List.getElem?_map, Option.map_eq_some_iff] at h1
    simp only [List.getElem?_toArray, List.getElem?_map, Option.map_eq_some_iff] at h2
    obtain ⟨x, hx, rfl⟩ := h1
    obtain ⟨y, hy, rfl⟩ := h2
    rw [hx] at hy
    cases hy
    exact h x⟩
theorem reps_mapA {ops : Array Operand} {f : Operand → AV} {ρ : Operand → Value} (h : ∀ x, Rep φ m w (f x) (ρ x)) : Reps φ m w (ops.toList.map f) (ops.map ρ) := by
  have := reps_map (ops := ops.toList) h
  have e : (ops.toList.map ρ).toArray = ops.map ρ := by apply Array.ext'; simp
  rwa [e] at this
theorem reps_zip {P : Program} {e : Env} {a : Act} (hE : EnvRep φ m w e a.tmps) {ts : List TypeId} {xs : Array Operand} (hl : ts.length = xs.size) :
    Reps φ m w (List.zipWith (opd P e) ts xs.toList) (xs.map a.eval) :=
  ⟨by simp [hl], fun i b u h1 h2 => by
    simp only [List.getElem?_zipWith] at h1
    simp only [Array.getElem?_map, Option.map_eq_some_iff] at h2
    obtain ⟨y, hy, rfl⟩ := h2
    cases h3 : ts[i]? with
    | none => simp [h3] at h1
    | some t =>
      have hy' : xs.toList[i]? = some y := by simpa using hy
      simp only [h3, hy', Option.some.injEq] at h1
      subst h1
      exact rep_opd hE t y⟩
theorem parts_zip {P : Program} {e : Env} {a : Act} (hE : EnvRep φ m w e a.tmps) (t : TypeId) (ps : Array (Nat × Operand)) :
    PartsRep φ m w (ps.toList.map fun (i, x) => (i, opd P e (fieldTy P t i) x)) (ps.map fun (i, x) => (i, a.eval x)).toList :=
  ⟨by simp, fun i p v h1 h2 => by
    simp only [List.getElem?_map, Option.map_eq_some_iff, Array.toList_map] at h1 h2
    obtain ⟨x, hx, rfl⟩ := h1
    obtain ⟨y, hy, rfl⟩ := h2
    rw [hx] at hy
    cases hy
    exact ⟨rfl, rep_opd hE _ _⟩⟩
theorem opt_map {P : Program} {e : Env} {a : Act} (hE : EnvRep φ m w e a.tmps) (t : TypeId) (x : Option Operand) : OptRep φ m w (x.map (opd P e t)) (x.map a.eval) := by
  cases x with
  | none => exact .inl ⟨rfl, rfl⟩
  | some x => exact .inr ⟨_, _, rfl, rfl, rep_opd hE t x⟩

/-- An argument is what it was, but nobody grows it. -/
theorem rep_argCell {a : AV} {x : Value} (h : Rep φ m w a x) : Rep φ m w (argCell a) x := by
  cases h with
  | lst g sz rows ad c val hc hr ha hs hcell hrep hg => exact .lst _ _ _ _ _ val hc hr ha hs hcell hrep trivial
  | junk x => exact .junk x
  | v x => exact .v x
  | agg cs arr hn h => exact .agg cs arr hn h
  | tup cs arr hn h => exact .tup cs arr hn h
  | ptr r off cs h => exact .ptr r off cs h
  | eptr cs ad val hs h1 h2 => exact .eptr cs ad val hs h1 h2
  | vs r off sz n c cs h hb hn => exact .vs r off sz n c cs h hb hn
  | fn f first caps fv cv h1 h2 r1 r2 => exact .fn f first caps fv cv h1 h2 r1 r2
theorem rep_argAV {a : AV} {x : Value} (h : Rep φ m w a x) : Rep φ m w (argAV a) x := by
  cases a with
  | agg cs =>
    cases h with
    | agg _ arr hn h =>
      refine .agg _ arr (by simpa using hn) fun i b u h1 h2 => ?_
      simp only [List.getElem?_map, Option.map_eq_some_iff] at h1
      obtain ⟨c, hc, rfl⟩ := h1
      exact rep_argCell (h i c u hc h2)
  | _ => exact rep_argCell h
theorem reps_argAV {xs : List AV} {vs : Array Value} (h : Reps φ m w xs vs) : Reps φ m w (xs.map argAV) vs :=
  ⟨by simpa using h.1, fun i a u h1 h2 => by
    simp only [List.getElem?_map, Option.map_eq_some_iff] at h1
    obtain ⟨c, hc, rfl⟩ := h1
    exact rep_argAV (h.2 i c u hc h2)⟩
theorem reps_append {xs ys : List AV} {us vs : Array Value} (h : Reps φ m w xs us) (k : Reps φ m w ys vs) : Reps φ m w (xs ++ ys) (us ++ vs) :=
  ⟨by simp [h.1, k.1], fun i a u h1 h2 => by
    rw [List.getElem?_append] at h1
    rw [Array.getElem?_append] at h2
    have e := h.1
    split at h1
    · rw [if_pos (by omega)] at h2; exact h.2 i a u h1 h2
    · rw [if_neg (by omega)] at h2; rw [e] at h2; exact k.2 _ a u h1 h2⟩

/-- A call of a function value. -/
theorem call_wp {call : CallF} (hC : CallOk P call) (hR : RM φ m w) {o : Oper} {a : Act} {c : Call} (ho : o.op = .call c) {fo : Operand} (hc : c.callee = .value fo)
    {f : AV} (hf : Rep φ m w f (a.eval fo)) {xs : List AV} (hx : Reps φ m w xs (c.args.map a.eval)) {av : AV} {m' : Mem} (h : evCall call f xs m = some (av, m'))
    {K : Act → World → Prop} {Q : Exit → Act → World → Prop}
    (hK : ∀ x w' φ', RM φ' m' w' → Ext φ m w φ' m' w' → Rep φ' m' w' av x → K (a.put o.dst x) w') : o.wp P a w K Q := by
  unfold evCall at h
  split at h
  · rename_i g first caps
    generalize hfv : a.eval fo = fv at hf
    cases hf with
    | fn _ _ _ fv cv h1 h2 r1 r2 =>
      obtain ⟨⟨fn, hfn, hbody, hname⟩, hcalls⟩ := hC _ _ _ _ _ h
      have hreps := hcalls φ w (fv ++ c.args.map a.eval ++ cv) hR (reps_argAV (reps_append (reps_append ⟨h1, r1⟩ hx) ⟨h2, r2⟩))
      have hrun : (execOp a.eval o).run P w = .ok (.enter g (fv ++ c.args.map a.eval ++ cv)) w := by
        unfold execOp
        rw [ho]
        have hn : ¬ fn.name = "runtime.NumGoroutine" := by simpa using hname
        have hb : ¬ fn.body = none := by intro e; rw [e] at hbody; simp at hbody
        simp [resolve, hc, hfv, Deferred.ofValue, invoke, callFunc, hfn, hn, hb, Sem.run_bind, run_program]
      unfold Oper.wp
      rw [hrun, Oper.upon_enter]
      refine hreps.mono fun e w' hh => ?_
      obtain ⟨x, φ', rfl, g1, g2, g3⟩ := hh
      exact hK x w' φ' g1 g2 g3
  · cases h

theorem builtin_sound (hR : RM φ m w) {b : Builtin} {ts : List TypeId} {xs : List AV} {vs : Array Value} {av : AV} {m' : Mem} (ty : TypeId) (cs : Array Bool) (hx : Reps φ m w xs vs)
    (h : evBuiltin P m b ts xs = some (av, m')) : ∃ x w' φ', (builtin b ts.toArray ty cs vs).run P w = .ok (.value x) w' ∧ RM φ' m' w' ∧ Ext φ m w φ' m' w' ∧ Rep φ' m' w' av x := by
  unfold evBuiltin at h
  split at h
  · rename_i t x
    simp only [Option.map_eq_some_iff, Prod.mk.injEq] at h
    obtain ⟨r, hr, rfl, rfl⟩ := h
    obtain ⟨v, rfl⟩ : ∃ v, vs = #[v] := by
      have := hx.1; simp at this; exact Array.size_eq_one_iff.mp this
    obtain ⟨y, hy, hrep⟩ := len_sound (P := P) ty (hx.2 0 _ _ rfl rfl) hr
    exact ⟨y, w, φ, fin_value hy, hR, Ext.refl .., hrep⟩
  · rename_i xs
    simp only [Option.map_eq_some_iff, Prod.mk.injEq] at h
    obtain ⟨r, hr, rfl, rfl⟩ := h
    obtain ⟨k, x, rest, he, z, hz, hrep⟩ := minmax_sound (P := P) (fun k a b w => max2_int k a b w) hx hr
    refine ⟨z, w, φ, fin_value ?_, hR, Ext.refl .., hrep⟩
    unfold Builtin.max_
    rw [he]
    exact hz
  · rename_i xs
    simp only [Option.map_eq_some_iff, Prod.mk.injEq] at h
    obtain ⟨r, hr, rfl, rfl⟩ := h
    obtain ⟨k, x, rest, he, z, hz, hrep⟩ := minmax_sound (P := P) (fun k a b w => min2_int k a b w) hx hr
    refine ⟨z, w, φ, fin_value ?_, hR, Ext.refl .., hrep⟩
    unfold Builtin.min_
    rw [he]
    exact hz
  · rename_i t t2 x y
    obtain ⟨v, u, rfl⟩ : ∃ v u, vs = #[v, u] := by
      have h2 := hx.1; simp at h2; exact ⟨vs[0], vs[1], by apply Array.ext <;> simp [h2]; intro i hi; rcases i with _ | _ | i <;> first | omega | (intro _; rfl)⟩
    obtain ⟨z, w', φ', hz, g1, g2, g3⟩ := append_sound (P := P) hR ty (hx.2 0 _ _ rfl rfl) (hx.2 1 _ _ rfl rfl) h
    exact ⟨z, w', φ', fin_value hz, g1, g2, g3⟩
  · cases h

theorem isNil_sound {a : AV} {x : Value} {b : Bool} (h : Rep φ m w a x) (hb : isNil a = some b) : ∃ ad n c, x = .slice ad n c ∧ ad.isNone = b := by
  unfold isNil at hb
  split at hb
  · cases h; cases hb; exact ⟨none, 0, 0, rfl, rfl⟩
  · cases hb
    cases h with
    | lst _ _ _ ad c val hc hr ha hs hcell hrep hg =>
      have hg : ad ≠ none := hg
      cases ad with
      | none => exact absurd rfl hg
      | some ad => exact ⟨_, _, _, rfl, rfl⟩
  · cases hb
    cases h with
    | lst _ _ _ ad c val hc hr ha hs hcell hrep hg =>
      cases ad with
      | none => have := ha rfl; simp at hc; omega
      | some ad => exact ⟨_, _, _, rfl, rfl⟩
  · cases hb
theorem slice_nil_run {t e : TypeId} (hu : P.underlying t = some (.slice e)) {ad : Option Addr} {n c : Nat} (N : Nat) : (Op.equalIn (N + 1) t (.slice ad n c) (.slice none 0 0)).run P w = .ok ad.isNone w := by
  unfold Op.equalIn
  simp only [Sem.run_bind, run_underlying' hu, Result.andThen_ok]
  cases ad <;> rfl
theorem nil_run {op : BinOp} {t : TypeId} {ox : Operand} {ad : Option Addr} {n c : Nat} {a : AV} {r : Bool} (ht : (tElem P t).isSome = true) (hop : op = .eql ∨ op = .neq) :
    (do eqGuard op t ox (.const (.slice none 0 0)) (.slice ad n c) (.slice none 0 0); binOp op t (.slice ad n c) (.slice none 0 0) : Sem Value).run P w = .ok (.bool (if op = .eql then ad.isNone else !ad.isNone)) w := by
  cases he : tElem P t with
  | none => simp [he] at ht
  | some e =>
    have hu := elem_under he
    have heq : (Op.equal t (.slice ad n c) (.slice none 0 0)).run P w = .ok ad.isNone w := slice_nil_run hu _
    have hg : (eqGuard op t ox (.const (.slice none 0 0)) (.slice ad n c) (.slice none 0 0)).run P w = .ok () w := guard_plain (fun cs h => by cases h) (fun h => by cases h)
    rw [Sem.run_bind, hg, Result.andThen_ok]
    rcases hop with rfl | rfl
    · show (do pure (Value.bool (← Op.equal t (.slice ad n c) (.slice none 0 0))) : Sem Value).run P w = _
      rw [Sem.run_bind, heq]
      rfl
    · show (do pure (Value.bool (!(← Op.equal t (.slice ad n c) (.slice none 0 0)))) : Sem Value).run P w = _
      rw [Sem.run_bind, heq]
      rfl
theorem binN_sound {op : BinOp} {t : TypeId} {x y r : AV} {ox oy : Operand} {a : Act} (hx : Rep φ m w x (a.eval ox)) (hy : Rep φ m w y (a.eval oy)) (h : evBinN P op t x oy y = some r) :
    ∃ z, (do eqGuard op t ox oy (a.eval ox) (a.eval oy); binOp op t (a.eval ox) (a.eval oy) : Sem Value).run P w = .ok z w ∧ Rep φ m w r z := by
  unfold evBinN at h
  split at h
  · rename_i b hb
    cases h
    unfold nilCmp at hb
    split at hb
    · have e : a.eval (.const (.slice none 0 0)) = .slice none 0 0 := rfl
      rw [e]
      split at hb
      · rename_i e0 he
        obtain ⟨ad, n, c, hv, rfl⟩ := isNil_sound hx hb
        rw [hv]
        exact ⟨_, nil_run (a := x) (r := true) (by simp [he]) (.inl rfl), by simpa using .v _⟩
      · rename_i e0 he
        simp only [Option.map_eq_some_iff] at hb
        obtain ⟨b', hb', rfl⟩ := hb
        obtain ⟨ad, n, c, hv, rfl⟩ := isNil_sound hx hb'
        rw [hv]
        exact ⟨_, nil_run (a := x) (r := true) (by simp [he]) (.inr rfl), by simpa using .v _⟩
      · cases hb
    · cases hb
  · exact bin_sound hx hy h
theorem op_wp {call : CallF} (hC : CallOk P call) (hR : RM φ m w) {e : Env} {a : Act} (hE : EnvRep φ m w e a.tmps) {o : Oper} {av : AV} {m' : Mem} (h : evOp P call e m o = some (av, m'))
    {K : Act → World → Prop} {Q : Exit → Act → World → Prop}
    (hK : ∀ x w' φ', RM φ' m' w' → Ext φ m w φ' m' w' → Rep φ' m' w' av x → K (a.put o.dst x) w') : o.wp P a w K Q := by
  -- a value, the world as it was
  have still : ∀ {x : Value} {b : AV}, (execOp a.eval o).run P w = .ok (.value x) w → Rep φ m w b x → b = av → m = m' → o.wp P a w K Q := by
    intro x b hr hx e1 e2
    subst e1 e2
    unfold Oper.wp
    rw [hr, Oper.upon_value]
    exact hK x w φ hR (Ext.refl ..) hx
  have moved : ∀ {x : Value} {w' : World} {φ' : Phi}, (execOp a.eval o).run P w = .ok (.value x) w' → RM φ' m' w' → Ext φ m w φ' m' w' → Rep φ' m' w' av x → o.wp P a w K Q := by
    intro x w' φ' hr g1 g2 g3
    unfold Oper.wp
    rw [hr, Oper.upon_value]
    exact hK x w' φ' g1 g2 g3
  have rep : ∀ t x, Rep φ m w (opd P e t x) (a.eval x) := fun t x => rep_opd hE t x
  have ex : execOp a.eval o = execOp a.eval o := rfl
  conv at ex => rhs; unfold execOp
  unfold evOp at h
  dsimp only at h
  split at h <;> rename_i hop <;> (try (rw [hop] at ex; simp only [] at ex))
  · rename_i x
    simp only [Option.some.injEq, Prod.mk.injEq] at h
    exact still (by rw [ex]; rfl) (rep o.type x) h.1 h.2
  · rename_i x
    simp only [Option.some.injEq, Prod.mk.injEq] at h
    exact still (by rw [ex]; rfl) (rep o.type x) h.1 h.2
  · rename_i c x y
    split at h
    · rename_i t ht
      have hc := rep o.type c
      rw [ht] at hc
      generalize hcv : a.eval c = cv at hc
      cases hc
      simp only [Option.some.injEq, Prod.mk.injEq] at h
      refine still (x := if t then a.eval x else a.eval y) (b := if t then opd P e o.type x else opd P e o.type y) (by rw [ex, hcv]; simp [asBool, Sem.run_bind]) ?_ h.1 h.2
      cases t
      · exact rep o.type y
      · exact rep o.type x
    · cases h
  · rename_i t
    split at h
    · rename_i z hz
      split at h
      · rename_i hok
        simp only [Option.map_eq_some_iff, Prod.mk.injEq] at h
        obtain ⟨m2, hm2, rfl, rfl⟩ := h
        obtain ⟨w', φ', h1, h2, h3, h4⟩ := alloc_sound (P := P) hR hz hok hm2
        exact moved (by rw [ex]; exact fin_value h1) h2 h3 h4
      · cases h
    · cases h
  · rename_i t x
    split at h
    · rename_i cs hcs
      simp only [Option.map_eq_some_iff, Prod.mk.injEq] at h
      obtain ⟨m2, hm2, rfl, rfl⟩ := h
      obtain ⟨w', φ', h1, h2, h3, h4⟩ := box_sound (P := P) (t := t) hR (rep t x) hcs hm2
      exact moved (by rw [ex]; exact fin_value h1) h2 h3 h4
    · cases h
  · rename_i t ps
    simp only [Option.map_eq_some_iff, Prod.mk.injEq] at h
    obtain ⟨r, hr, rfl, rfl⟩ := h
    obtain ⟨y, h1, h2⟩ := build_sound (P := P) hR (parts_zip hE t ps) hr
    exact still (by rw [ex]; exact fin_value h1) h2 rfl rfl
  · rename_i t n ps
    simp only [Option.map_eq_some_iff, Prod.mk.injEq] at h
    obtain ⟨r, hr, rfl, rfl⟩ := h
    obtain ⟨y, w', φ', h1, h2, h3, h4⟩ := buildSlice_sound (P := P) hR (parts_zip hE t ps) hr
    exact moved (by rw [ex]; exact fin_value h1) h2 h3 h4
  · rename_i t x
    simp only [Option.map_eq_some_iff, Prod.mk.injEq] at h
    obtain ⟨r, hr, rfl, rfl⟩ := h
    obtain ⟨y, h1, h2⟩ := load_sound (P := P) hR (rep t x) hr
    exact still (by rw [ex]; exact fin_value h1) h2 rfl rfl
  · rename_i t x y
    simp only [Option.map_eq_some_iff, Prod.mk.injEq] at h
    obtain ⟨m2, hm2, rfl, rfl⟩ := h
    obtain ⟨w', h1, h2, h3⟩ := store_sound (P := P) hR (rep t x) (rep t y) hm2
    unfold Oper.wp
    rw [ex, fin_skip h1, Oper.upon_skip]
    exact hK undef w' φ h2 h3 (.v _)
  · rename_i x
    split at h
    · rename_i r off hx
      simp only [Option.some.injEq, Prod.mk.injEq] at h
      have hr := rep o.type x
      rw [hx] at hr
      generalize hxv : a.eval x = xv at hr
      cases hr with
      | ptr _ _ cs hv => exact still (by rw [ex, hxv]; rfl) (.ptr r off cs hv) h.1 h.2
    · rename_i cs hx
      simp only [Option.some.injEq, Prod.mk.injEq] at h
      have hr := rep o.type x
      rw [hx] at hr
      generalize hxv : a.eval x = xv at hr
      cases hr with
      | eptr _ ad val h1 h2 h3 => exact still (by rw [ex, hxv]; rfl) (.eptr cs ad val h1 h2 h3) h.1 h.2
    · rename_i f first caps hx
      simp only [Option.some.injEq, Prod.mk.injEq] at h
      have hr := rep o.type x
      rw [hx] at hr
      generalize hxv : a.eval x = xv at hr
      cases hr with
      | fn _ _ _ fv cv h1 h2 r1 r2 => exact still (by rw [ex, hxv]; rfl) (.fn (.func f) first caps fv cv h1 h2 r1 r2) h.1 h.2
    · cases h
  · rename_i op t x y b
    simp only [Option.map_eq_some_iff, Prod.mk.injEq] at h
    obtain ⟨r, hr, rfl, rfl⟩ := h
    obtain ⟨z, h1, h2⟩ := binN_sound (P := P) (rep t x) (rep t y) hr
    exact still (by rw [ex]; exact fin_value h1) h2 rfl rfl
  · rename_i op t x
    simp only [Option.map_eq_some_iff, Prod.mk.injEq] at h
    obtain ⟨r, hr, rfl, rfl⟩ := h
    obtain ⟨z, h1, h2⟩ := un_sound (P := P) (rep t x) hr
    exact still (by rw [ex]; exact fin_value h1) h2 rfl rfl
  · rename_i src dst x
    simp only [Option.map_eq_some_iff, Prod.mk.injEq] at h
    obtain ⟨r, hr, rfl, rfl⟩ := h
    obtain ⟨z, h1, h2⟩ := convert_sound (P := P) hR (rep src x) hr
    exact still (by rw [ex]; exact fin_value h1) h2 rfl rfl
  · rename_i f first caps
    simp only [Option.some.injEq, Prod.mk.injEq] at h
    have h1 := reps_mapA (ops := first) (rep o.type)
    have h2 := reps_mapA (ops := caps) (rep o.type)
    exact still (by rw [ex]; exact fin_value rfl) (.fn f _ _ _ _ h1.1 h2.1 h1.2 h2.2) h.1 h.2
  · rename_i t n c
    split at h
    · rename_i cs sz k hk
      simp only [Option.map_eq_some_iff, Prod.mk.injEq] at h
      obtain ⟨m2, hm2, rfl, rfl⟩ := h
      obtain ⟨v, w', φ', h1, h2, h3, h4⟩ := makeSlice_sound (P := P) hR (rep o.type n) (rep o.type c) hk hm2
      exact moved (by rw [ex]; exact fin_value h1) h2 h3 h4
    · cases h
  · rename_i t x lo hi mx
    simp only [Option.map_eq_some_iff, Prod.mk.injEq] at h
    obtain ⟨r, hr, rfl, rfl⟩ := h
    obtain ⟨z, h1, h2⟩ := slice_sound (P := P) hR (rep t x) (opt_map hE o.type lo) (opt_map hE o.type hi) (opt_map hE o.type mx) hr
    exact still (by rw [ex]; exact fin_value h1) h2 rfl rfl
  · rename_i t x i
    simp only [Option.map_eq_some_iff, Prod.mk.injEq] at h
    obtain ⟨r, hr, rfl, rfl⟩ := h
    obtain ⟨z, h1, h2⟩ := fieldAddr_sound (P := P) (rep t x) hr
    exact still (by rw [ex]; exact fin_value h1) h2 rfl rfl
  · rename_i t x i
    simp only [Option.map_eq_some_iff, Prod.mk.injEq] at h
    obtain ⟨r, hr, rfl, rfl⟩ := h
    obtain ⟨z, h1, h2⟩ := field_sound (P := P) (rep t x) hr
    exact still (by rw [ex]; exact fin_value h1) h2 rfl rfl
  · rename_i t x i
    simp only [Option.map_eq_some_iff, Prod.mk.injEq] at h
    obtain ⟨r, hr, rfl, rfl⟩ := h
    obtain ⟨z, h1, h2⟩ := indexAddr_sound (P := P) (rep t x) (rep o.type i) hr
    exact still (by rw [ex]; exact fin_value h1) h2 rfl rfl
  · rename_i t x i
    simp only [Option.map_eq_some_iff, Prod.mk.injEq] at h
    obtain ⟨r, hr, rfl, rfl⟩ := h
    obtain ⟨z, h1, h2⟩ := index_sound (P := P) (rep t x) (rep o.type i) hr
    exact still (by rw [ex]; exact fin_value h1) h2 rfl rfl
  · rename_i x i
    split at h
    · rename_i cs hx
      simp only [Option.map_eq_some_iff, Prod.mk.injEq] at h
      obtain ⟨r, hr, rfl, rfl⟩ := h
      have hr' := rep o.type x
      rw [hx] at hr'
      generalize hxv : a.eval x = xv at hr'
      cases hr' with
      | tup _ arr hn hh =>
        have hlt : i < arr.size := by have := (List.getElem?_eq_some_iff.mp hr).1; omega
        exact still (x := arr[i]) (by rw [ex, hxv]; exact fin_value (by simp [Instr.extract, hlt])) (hh i _ _ hr (Array.getElem?_eq_getElem hlt)) rfl rfl
    · cases h
  · rename_i c
    split at h
    · rename_i hsz
      have hx := reps_zip (P := P) hE (ts := c.argTypes.toList) (xs := c.args) (by simpa using hsz)
      split at h
      · rename_i b hb
        obtain ⟨x, w', φ', h1, h2, h3, h4⟩ := builtin_sound (P := P) hR o.type (c.args.map fun | .const _ => true | _ => false) hx h
        refine moved (by rw [ex]; simp only [resolve, hb, Sem.run_bind, Sem.run_pure, Result.andThen_ok, invoke]; exact h1) h2 h3 h4
      · rename_i f hf
        exact call_wp hC hR hop hf (rep o.type f) hx h hK
      · cases h
    · cases h
  · cases h
end
end Go.Proofs.Ytojaokhkbmiidaa.Ev
