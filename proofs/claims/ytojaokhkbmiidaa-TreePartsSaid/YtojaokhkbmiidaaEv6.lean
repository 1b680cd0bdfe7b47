/- Comparisons, signs, the greatest and the least, conversions: sound. -/
import Derived.Test.YtojaokhkbmiidaaEv5
namespace Go.Proofs.Ytojaokhkbmiidaa.Ev
open Go
set_option linter.unusedVariables false
set_option linter.unusedSimpArgs false
section
variable {P : Program} {φ : Phi} {m : Mem} {w : World}

theorem eqGuardType_of (d : Nat) : ∀ t D, noIface P d t = true → d ≤ D → P.eqGuardType D t = false := by
  induction d with
  | zero => intro t D h; simp [noIface] at h
  | succ d ih =>
    intro t D h hD
    obtain ⟨D, rfl⟩ : ∃ x, D = x + 1 := ⟨D - 1, by omega⟩
    simp only [noIface] at h
    simp only [Program.eqGuardType]
    cases hu : P.underlying t with
    | none => rfl
    | some d' =>
      cases d' with
      | interface ms => simp [hu] at h
      | struct fs =>
        simp only [hu] at h
        rw [List.all_eq_true] at h
        simp only
        rw [← Array.any_toList, List.any_eq_false]
        intro f hf
        simp [ih _ D (h f hf) (by omega)]
      | array n e =>
        simp only [hu] at h
        exact ih _ D h (by omega)
      | _ => rfl
theorem guard_plain {op : BinOp} {t : TypeId} {x y : Operand} {a b : Value} (h1 : ∀ cs, a ≠ .agg cs) (h2 : a ≠ .nilIface) : (eqGuard op t x y a b).run P w = .ok () w := by
  unfold eqGuard
  split <;> simp <;> (split <;> simp_all)
theorem guard_agg {op : BinOp} {t : TypeId} {x y : Operand} {a b : Array Value} (h : noIface P 8 t = true) : (eqGuard op t x y (.agg a) (.agg b)).run P w = .ok () w := by
  unfold eqGuard
  have hd : 8 ≤ P.depth := by unfold Program.depth Made.depth; omega
  split <;> simp [eqGuardType_of 8 t P.depth h hd]
theorem bin_sound {op : BinOp} {t : TypeId} {x y r : AV} {xv yv : Value} {ox oy : Operand} (hx : Rep φ m w x xv) (hy : Rep φ m w y yv) (h : evBin P op t x y = some r) :
    ∃ z, (do eqGuard op t ox oy xv yv; binOp op t xv yv : Sem Value).run P w = .ok z w ∧ Rep φ m w r z := by
  unfold evBin at h
  split at h
  · cases hx; cases hy
    obtain ⟨z, hz, hr⟩ := evInt_sound (P := P) (φ := φ) (m := m) (w := w) t h
    exact ⟨z, by simp [guard_plain, hz], hr⟩
  · cases hx; cases hy
    obtain ⟨z, hz, hr⟩ := evStr_sound (P := P) (φ := φ) (m := m) (w := w) t h
    exact ⟨z, by simp [guard_plain, hz], hr⟩
  · cases hx; cases hy
    split at h
    · rename_i hb
      have hu := bool_under hb
      split at h
      · simp only [Option.some.injEq] at h
        subst h
        exact ⟨_, by simp [guard_plain, binOp, Op.equal, Op.maxDepth, run_equalIn_bool' w _ t _ _ hu], .v _⟩
      · simp only [Option.some.injEq] at h
        subst h
        rename_i a b _
        refine ⟨.bool (!(a == b)), by simp only [Sem.run_bind, guard_plain, ne_eq, reduceCtorEq, not_false_eq_true, implies_true, Result.andThen_ok, binOp, Op.equal, Op.maxDepth, run_equalIn_bool' w _ t _ _ hu, Sem.run_pure], ?_⟩
        exact .v _
      · cases h
    · cases h
  · rename_i xs ys
    split at h
    · rename_i hn
      cases hx with
      | agg _ xa hxn hxr =>
        cases hy with
        | agg _ ya hyn hyr =>
          have key : ∀ b, eqTy P 8 t (.agg xs) (.agg ys) = some b → (Op.equal t (.agg xa) (.agg ya)).run P w = .ok b w := fun b hb =>
            eqTy_sound (φ := φ) (m := m) 9992 8 t _ _ b _ _ hb (.agg _ _ hxn hxr) (.agg _ _ hyn hyr)
          split at h
          · cases he : eqTy P 8 t (.agg xs) (.agg ys) with
            | none => simp [he] at h
            | some b =>
              simp only [he, Option.map_some, Option.some.injEq] at h
              subst h
              exact ⟨_, by simp [guard_agg hn, binOp, key b he], .v _⟩
          · cases he : eqTy P 8 t (.agg xs) (.agg ys) with
            | none => simp [he] at h
            | some b =>
              simp only [he, Option.map_some, Option.some.injEq] at h
              subst h
              exact ⟨_, by simp [guard_agg hn, binOp, key b he], .v _⟩
          · cases h
    · cases h
  · cases h
theorem un_sound {op : UnOp} {x r : AV} {xv : Value} (hx : Rep φ m w x xv) (h : evUn op x = some r) : ∃ z, (Op.unary op xv).run P w = .ok z w ∧ Rep φ m w r z := by
  unfold evUn at h
  split at h <;> first | (cases hx; simp only [Option.some.injEq] at h; subst h; exact ⟨_, by simp [Op.unary, Op.intArith, Op.intBits]; done, .v _⟩) | (cases hx; simp only [Option.some.injEq] at h; subst h; exact ⟨_, rfl, .v _⟩) | cases h

theorem foldI_sound {f : Int → Int → Int} {g : Value → Value → Sem Value} (hg : ∀ k a b w, (g (.int k a) (.int k b)).run P w = .ok (.int k (f a b)) w) {k : IntKind} :
    ∀ (xs : List AV) (vs : List Value) (x : Int) r, evFoldI f k x xs = some r → vs.length = xs.length → (∀ (i : Nat) a u, xs[i]? = some a → vs[i]? = some u → Rep φ m w a u) →
      ∃ z, (vs.foldlM g (.int k x)).run P w = .ok z w ∧ Rep φ m w r z
  | [], [], x, r, h, _, _ => by simp only [evFoldI, Option.some.injEq] at h; subst h; exact ⟨_, rfl, .v _⟩
  | a :: xs, u :: vs, x, r, h, hl, hr => by
    have h0 := hr 0 a u rfl rfl
    cases a with
    | v q =>
      cases q with
      | int k' y =>
        simp only [evFoldI] at h
        split at h
        · rename_i hk
          subst hk
          cases h0
          obtain ⟨z, hz, hzr⟩ := foldI_sound hg xs vs (f x y) r h (by simpa using hl) (fun i a u h1 h2 => hr (i + 1) a u (by simpa using h1) (by simpa using h2))
          exact ⟨z, by simp [hg, hz], hzr⟩
        · cases h
      | _ => simp [evFoldI] at h
    | _ => simp [evFoldI] at h
  | [], _ :: _, _, _, _, hl, _ => by simp at hl
  | _ :: _, [], _, _, _, hl, _ => by simp at hl
theorem minmax_sound {f : Int → Int → Int} {g : Value → Value → Sem Value} (hg : ∀ k a b w, (g (.int k a) (.int k b)).run P w = .ok (.int k (f a b)) w)
    {xs : List AV} {vs : Array Value} {r : AV} (hr : Reps φ m w xs vs) (h : evMinMax f xs = some r) :
    ∃ k x rest, vs.toList = .int k x :: rest ∧ ∃ z, (rest.foldlM g (.int k x)).run P w = .ok z w ∧ Rep φ m w r z := by
  obtain ⟨hn, hr⟩ := hr
  unfold evMinMax at h
  split at h
  · rename_i k x rest
    cases hv : vs.toList with
    | nil => have := congrArg List.length hv; simp at this; simp [this] at hn
    | cons u us =>
      have e : ∀ i : Nat, vs[i]? = (u :: us)[i]? := fun i => by rw [← hv]; simp
      have h0 := hr 0 _ u rfl (by rw [e]; rfl)
      cases h0
      have hlen : us.length = rest.length := by have := congrArg List.length hv; simp at this hn; omega
      obtain ⟨z, hz, hzr⟩ := foldI_sound hg rest us x r h hlen (fun i a u' h1 h2 => hr (i + 1) a u' (by simpa using h1) (by rw [e]; simpa using h2))
      exact ⟨k, x, us, rfl, z, hz, hzr⟩
  · cases h
theorem max2_int (k : IntKind) (a b : Int) (w : World) : (Builtin.max2 (.int k a) (.int k b)).run P w = .ok (.int k (mx a b)) w := rfl
theorem min2_int (k : IntKind) (a b : Int) (w : World) : (Builtin.min2 (.int k a) (.int k b)).run P w = .ok (.int k (mn a b)) w := rfl
end
end Go.Proofs.Ytojaokhkbmiidaa.Ev
