/- More operations that leave the memory alone: cuts, lengths, arithmetic, comparisons, conversions. -/
import Derived.Test.YtojaokhkbmiidaaEv4
import Derived.Laws.StructEq
namespace Go.Proofs.Ytojaokhkbmiidaa.Ev
open Go
set_option linter.unusedVariables false
set_option linter.unusedSimpArgs false
section
variable {P : Program} {φ : Phi} {m : Mem} {w : World}

/-! ### cuts -/
def OptRep (φ : Phi) (m : Mem) (w : World) (x : Option AV) (v : Option Value) : Prop :=
  (x = none ∧ v = none) ∨ ∃ a u, x = some a ∧ v = some u ∧ Rep φ m w a u
theorem bound_run {x : Option AV} {xv : Option Value} (hx : OptRep φ m w x xv) {d l : Nat} (h : evBound x d = some l) :
    (x = none ∧ xv = none ∧ l = d) ∨ ∃ k i, xv = some (.int k i) ∧ 0 ≤ i ∧ l = i.toNat := by
  rcases hx with ⟨rfl, rfl⟩ | ⟨a, u, rfl, rfl, hr⟩
  · simp only [evBound, Option.some.injEq] at h
    exact .inl ⟨rfl, rfl, h.symm⟩
  · unfold evBound at h
    split at h
    · rename_i e; cases e
    · rename_i k i e
      simp only [Option.some.injEq] at e
      subst e
      cases hr
      split at h
      · rename_i h0
        simp only [Option.some.injEq] at h
        exact .inr ⟨_, _, rfl, h0, h.symm⟩
      · cases h
    · cases h

theorem bounds_run {lo hi : Option AV} {lov hiv : Option Value} (hlo : OptRep φ m w lo lov) (hhi : OptRep φ m w hi hiv) {len cap l h : Nat} {b : Bool}
    (el : evBound lo 0 = some l) (eh : evBound hi len = some h) (h1 : l ≤ h) (h2 : h ≤ cap) (h3 : hi = none → len ≤ cap) :
    (Instr.sliceBounds b len cap lov hiv none).run P w = .ok (l, h, cap) w := by
  rcases bound_run hlo el with ⟨rfl, rfl, rfl⟩ | ⟨k, i, rfl, i0, rfl⟩ <;> rcases bound_run hhi eh with ⟨rfl, rfl, rfl⟩ | ⟨k', i', rfl, i0', rfl⟩
  · simp [Instr.sliceBounds]
  · have : i' ≤ (cap : Int) := by omega
    simp [Instr.sliceBounds, Instr.sliceBound, asIntOf, i0', this]
  · have : i ≤ (h : Int) := by omega
    simp [Instr.sliceBounds, Instr.sliceBound, asIntOf, i0, this]
  · have : i' ≤ (cap : Int) := by omega
    have : i ≤ i' := by omega
    have e : max i' 0 = i' := by omega
    simp [Instr.sliceBounds, Instr.sliceBound, asIntOf, i0, i0', this, ‹i' ≤ (cap : Int)›, e]
theorem slice_sound (hR : RM φ m w) {t : TypeId} {x a : AV} {xv : Value} {lo hi mx : Option AV} {lov hiv mxv : Option Value} (hx : Rep φ m w x xv)
    (hlo : OptRep φ m w lo lov) (hhi : OptRep φ m w hi hiv) (hmx : OptRep φ m w mx mxv) (h : evSlice P m t x lo hi mx = some a) :
    ∃ y, (Instr.sliceAt t xv lov hiv mxv).run P w = .ok y w ∧ Rep φ m w a y := by
  have hmn : mx = none → mxv = none := fun e => by
    rcases hmx with ⟨_, e2⟩ | ⟨a, u, e1, _, _⟩
    · exact e2
    · rw [e] at e1; cases e1
  unfold evSlice at h
  split at h
  · rename_i s
    cases hx
    split at h
    · rename_i l hh el eh
      obtain rfl := hmn rfl
      split at h
      · rename_i hc
        obtain ⟨hs, c1, c2⟩ := hc
        simp only [Option.some.injEq] at h
        subst h
        exact ⟨_, by simp [Instr.sliceAt, Instr.slice, run_underlying' (str_under hs), bounds_run hlo hhi el eh c1 c2 (fun _ => Nat.le_refl _)], .v _⟩
      · cases h
    · cases h
  · rename_i g sz rows
    split at h
    · rename_i e he
      split at h
      · rename_i k l hh hsz el eh
        obtain rfl := hmn rfl
        split at h
        · rename_i hc
          obtain ⟨rfl, c1, c2⟩ := hc
          simp only [Option.some.injEq] at h
          subst h
          cases hx with
          | lst _ _ _ ad c val hlen hr han hs hcell hrep hg =>
            have hb := bounds_run (P := P) (b := true) hlo hhi el eh c1 (Nat.le_trans c2 hlen) (fun _ => hlen)
            refine ⟨.slice (if c = l then ad else ad.map (·.add (l * sz))) (hh - l) (c - l), by simp [Instr.sliceAt, Instr.slice, run_underlying' (elem_under he), hb, run_sizeOf' hsz], ?_⟩
            have elen : ((rows.take hh).drop l).length = hh - l := by simp; omega
            have get' : ∀ (i : Nat) row, ((rows.take hh).drop l)[i]? = some row → rows[l + i]? = some row := fun i row hi => by
              rw [List.getElem?_drop, List.getElem?_take] at hi
              split at hi
              · exact hi
              · cases hi
            rw [← elen]
            refine .lst .no sz _ _ _ (fun i j => val (l + i) j) (by rw [elen]; omega) (fun i row hi => hr _ _ (get' i row hi)) (fun e1 => ?_) (fun ad' e1 hpos => ?_) (fun ad' i row j x e1 e2 e3 => ?_) (fun i row j x e2 e3 => hrep _ _ _ _ (get' i row e2) e3) trivial
            · split at e1
              · omega
              · cases ad with
                | none => have := han rfl; omega
                | some ad => cases e1
            · split at e1
              · exact hs ad' e1 (by omega)
              · cases ad with
                | none => cases e1
                | some ad0 =>
                  simp only [Option.map_some, Option.some.injEq] at e1
                  subst e1
                  rw [addr_add (hs ad0 rfl (by omega))]
            · have e4 := get' i row e2
              have hlt : i < hh - l := by rw [← elen]; exact (List.getElem?_eq_some_iff.1 e2).1
              rw [if_neg (by omega)] at e1
              cases ad with
              | none => cases e1
              | some ad0 =>
                simp only [Option.map_some, Option.some.injEq] at e1
                subst e1
                rw [addr_add (hs ad0 rfl (by omega))]
                have := hcell ad0 (l + i) row j x rfl e4 e3
                simpa [Nat.add_mul, Nat.add_assoc] using this
        · cases h
      · cases h
    · cases h
  · rename_i r off
    split at h
    · rename_i n e ha
      obtain rfl := hmn rfl
      split at h
      · rename_i k l hh cs hsz el eh hv
        split at h
        · rename_i hc
          obtain ⟨rfl, c2, c3⟩ := hc
          simp only [Option.some.injEq] at h
          subst h
          cases hx with
          | ptr _ _ cs' hv' =>
            have hb := bounds_run (P := P) (b := false) hlo hhi el eh (Nat.zero_le _) c2 (fun _ => Nat.le_refl _)
            refine ⟨.slice (some ⟨φ.vb r, off, none⟩) hh n, ?_, .vs r off k hh n cs hv c3 c2⟩
            have e0 : (⟨φ.vb r, off, none⟩ : Addr).add 0 = ⟨φ.vb r, off, none⟩ := rfl
            simp [Instr.sliceAt, run_underlying' (arr_under ha), Instr.sureAddr, hb, run_sizeOf' hsz, e0]
        · cases h
      · cases h
    · cases h
  · cases h

/-! ### lengths -/
theorem len_sound {t : TypeId} {x a : AV} {xv : Value} (ty : TypeId) (hx : Rep φ m w x xv) (h : evLen P t x = some a) :
    ∃ y, (Builtin.len_ #[t] ty #[xv]).run P w = .ok y w ∧ Rep φ m w a y := by
  have arr : ∀ a, ((tArr P t).map fun (n, _) => AV.v (.int .i64 n)) = some a → ∃ y, (Builtin.len_ #[t] ty #[xv]).run P w = .ok y w ∧ Rep φ m w a y := by
    intro a h
    cases ha : tArr P t with
    | none => simp [ha] at h
    | some p =>
      obtain ⟨n, e⟩ := p
      simp only [ha, Option.map_some, Option.some.injEq] at h
      subst h
      exact ⟨_, by simp [Builtin.len_, run_underlying' (arr_under ha), goInt], .v _⟩
  have sl : ∀ (n : Nat) c (ad : Option Addr), xv = .slice ad n c → ∀ a, ((tElem P t).map fun _ => AV.v (.int .i64 n)) = some a → ∃ y, (Builtin.len_ #[t] ty #[xv]).run P w = .ok y w ∧ Rep φ m w a y := by
    intro n c ad hxv a h
    cases he : tElem P t with
    | none => simp [he] at h
    | some e =>
      simp only [he, Option.map_some, Option.some.injEq] at h
      subst h
      subst hxv
      exact ⟨_, by simp [Builtin.len_, run_underlying' (elem_under he), goInt], .v _⟩
  unfold evLen at h
  split at h
  · cases hx
    split at h
    · rename_i hs
      simp only [Option.some.injEq] at h
      subst h
      exact ⟨_, by simp [Builtin.len_, run_underlying' (str_under hs), goInt], .v _⟩
    · cases h
  · cases hx with
    | lst => exact sl _ _ _ rfl _ h
  · cases hx
    exact sl 0 0 none rfl _ h
  · cases hx with
    | vs => exact sl _ _ _ rfl _ h
  · exact arr _ h

/-! ### arithmetic -/
theorem evInt_sound {op : BinOp} {k k' : IntKind} {a b : Int} {r : AV} (t : TypeId) (h : evInt op k a k' b = some r) :
    ∃ y, (binOp op t (.int k a) (.int k' b)).run P w = .ok y w ∧ Rep φ m w r y := by
  unfold evInt at h
  split at h <;> (split at h <;> (first | (simp only [Option.some.injEq] at h; subst h) | cases h)) <;>
    first
    | (rename_i hk; subst hk; exact ⟨_, by simp [binOp, Op.intArith, Op.intBits, Op.intCmp], .v _⟩)
    | (rename_i hk; obtain ⟨rfl, hb⟩ := hk; exact ⟨_, by simp [binOp, Op.intDiv, hb], .v _⟩)
    | (rename_i hk; exact ⟨_, by simp [binOp, Op.shift, hk], .v _⟩)
theorem evStr_sound {op : BinOp} {a b : ByteArray} {r : AV} (t : TypeId) (h : evStr op a b = some r) :
    ∃ y, (binOp op t (.string a) (.string b)).run P w = .ok y w ∧ Rep φ m w r y := by
  unfold evStr at h
  split at h
  · split at h
    · rename_i hs
      simp only [Option.some.injEq] at h
      subst h
      refine ⟨_, ?_, .v _⟩
      have : ¬ (((a.size + b.size : Nat) : Int) > IntKind.i64.max) := by
        show ¬ (((a.size + b.size : Nat) : Int) > 9223372036854775807)
        omega
      simp only [binOp, Op.stringOp]
      rw [if_neg this]
      rfl
    · cases h
  · simp only [Option.some.injEq] at h
    subst h
    exact ⟨_, by simp only [binOp, Op.stringOp]; rw [← beq_toListBytes]; rfl, .v _⟩
  · simp only [Option.some.injEq] at h
    subst h
    refine ⟨_, ?_, .v _⟩
    simp only [binOp, Op.stringOp]
    rw [← beq_toListBytes]
    rfl
  · cases h

/-! ### comparisons of structs -/
theorem eqFields_sound {N d : Nat} (ih : ∀ t x y b xv yv, eqTy P d t x y = some b → Rep φ m w x xv → Rep φ m w y yv → (Op.equalIn (d + N) t xv yv).run P w = .ok b w)
    {xs ys : List AV} {xa ya : Array Value} (hx : Reps φ m w xs xa) (hy : Reps φ m w ys ya) :
    ∀ (fs : List Field) b, eqFieldsAV P (eqTy P d) xs ys fs = some b → (Op.eqFields (d + N) xa ya fs).run P w = .ok b w
  | [], b, h => by simp only [eqFieldsAV, Option.some.injEq] at h; subst h; rfl
  | f :: r, b, h => by
    simp only [eqFieldsAV] at h
    split at h
    · cases h
    · rename_i hn
      split at h
      · rename_i p q hp hq
        split at h
        · rename_i b1 b2 e1 e2
          simp only [Option.some.injEq] at h
          subst h
          obtain ⟨pv, hpr, rp⟩ := part_sound (P := P) hx hp
          obtain ⟨qv, hqr, rq⟩ := part_sound (P := P) hy hq
          have h1 := ih _ _ _ _ _ _ e1 rp rq
          have h2 := eqFields_sound ih hx hy r b2 e2
          simp only [Op.eqFields]
          rw [if_pos hn]
          simp only [Sem.run_bind, hpr, hqr, h1, Result.andThen_ok]
          cases b1
          · simp
          · simp [h2]
        · cases h
      · cases h
theorem eqElems_sound {N d : Nat} (ih : ∀ t x y b xv yv, eqTy P d t x y = some b → Rep φ m w x xv → Rep φ m w y yv → (Op.equalIn (d + N) t xv yv).run P w = .ok b w)
    {xs ys : List AV} {xa ya : Array Value} (hx : Reps φ m w xs xa) (hy : Reps φ m w ys ya) {e : TypeId} {k : Nat} :
    ∀ (l : List Nat) b, eqElemsAV P (eqTy P d) e k xs ys l = some b →
      ∃ o : Option Bool, (forIn (m := Sem) l ((none, ()) : Option Bool × Unit) fun i _ => do
        if (!(← Op.equalIn (d + N) e (← part e xa (i * k)) (← part e ya (i * k)))) = true then pure (.done (some false, ())) else pure (.yield (none, ()))).run P w = .ok (o, ()) w ∧ (o = if b then none else some false)
  | [], b, h => by simp only [eqElemsAV, Option.some.injEq] at h; subst h; exact ⟨none, rfl, rfl⟩
  | i :: r, b, h => by
    simp only [eqElemsAV] at h
    split at h
    · rename_i p q hp hq
      split at h
      · rename_i b1 b2 e1 e2
        simp only [Option.some.injEq] at h
        subst h
        obtain ⟨pv, hpr, rp⟩ := part_sound (P := P) hx hp
        obtain ⟨qv, hqr, rq⟩ := part_sound (P := P) hy hq
        have h1 := ih _ _ _ _ _ _ e1 rp rq
        obtain ⟨o, ho, eo⟩ := eqElems_sound ih hx hy r b2 e2
        cases b1
        · exact ⟨some false, by simp [List.forIn_cons, hpr, hqr, h1], rfl⟩
        · refine ⟨o, ?_, by simpa using eo⟩
          simp only [List.forIn_cons, Sem.run_bind, hpr, hqr, h1, Result.andThen_ok]
          simpa using ho
      · cases h
    · cases h
theorem eqTy_sound (N d : Nat) : ∀ t x y b xv yv, eqTy P d t x y = some b → Rep φ m w x xv → Rep φ m w y yv → (Op.equalIn (d + N) t xv yv).run P w = .ok b w := by
  induction d with
  | zero => intro t x y b xv yv h; simp [eqTy] at h
  | succ d ih =>
    intro t x y b xv yv h hx hy
    rw [show d + 1 + N = d + N + 1 by omega]
    simp only [eqTy] at h
    split at h
    · rename_i hu
      cases hx; cases hy
      simp only [Option.some.injEq] at h
      subst h
      exact run_equalIn_bool' w _ t _ _ hu
    · rename_i hu
      cases hx; cases hy
      split at h
      · rename_i hk
        subst hk
        simp only [Option.some.injEq] at h
        subst h
        exact run_equalIn_int w _ t _ _ _ _ hu
      · cases h
    · rename_i hu
      cases hx; cases hy
      simp only [Option.some.injEq] at h
      subst h
      rw [beq_toListBytes]
      exact run_equalIn_string w _ t _ _ hu
    · rename_i fs xs ys hu
      split at h
      · cases h
      · rename_i hst
        cases hx with
        | agg _ xa hxn hxr =>
          cases hy with
          | agg _ ya hyn hyr =>
            have hf : P.fieldsOf t = fs := by unfold Program.fieldsOf; rw [hu]
            rw [run_equalIn_struct w (d + N) t xa ya (by rw [hf]; exact hu) (by simpa using hst), hf]
            exact eqFields_sound (fun t x y b xv yv => ih t x y b xv yv) ⟨hxn, hxr⟩ ⟨hyn, hyr⟩ fs.toList b h
    · rename_i n e xs ys hu
      cases hx with
      | agg _ xa hxn hxr =>
        cases hy with
        | agg _ ya hyn hyr =>
          cases hk : tSize P e with
          | none => simp [hk] at h
          | some k =>
            simp only [hk, Option.bind_some] at h
            obtain ⟨o, ho, eo⟩ := eqElems_sound (fun t x y b xv yv => ih t x y b xv yv) ⟨hxn, hxr⟩ ⟨hyn, hyr⟩ (List.range n) b h
            simp only [Op.equalIn, Sem.run_bind, run_underlying' hu, Result.andThen_ok, run_sizeOf' hk]
            rw [Std.Legacy.Range.forIn_eq_forIn_range']
            have er : List.range' ([:n] : Std.Legacy.Range).start ([:n] : Std.Legacy.Range).size ([:n] : Std.Legacy.Range).step = List.range n := by
              simp [Std.Legacy.Range.size, List.range_eq_range']
            rw [er, ho]
            subst eo
            cases b <;> simp
    · cases h
end
end Go.Proofs.Ytojaokhkbmiidaa.Ev
