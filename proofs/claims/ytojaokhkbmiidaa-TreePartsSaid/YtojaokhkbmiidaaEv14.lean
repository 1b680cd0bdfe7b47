/- Operations in their text's order: sound. A state that lies behind another. -/
import Derived.LoopN
import Derived.Tactics
import Derived.Test.YtojaokhkbmiidaaEv13
namespace Go.Proofs.Ytojaokhkbmiidaa.Ev
open Go
set_option linter.unusedVariables false
set_option linter.unusedSimpArgs false
section
variable {P : Program} {φ : Phi} {m : Mem} {w : World}

/-- A state of a function's run: what the environment and the memory stand for, behind the state at the begin. -/
def St (φ₀ : Phi) (m₀ : Mem) (w₀ : World) (nt : Nat) (e : Env) (m : Mem) (a : Act) (w : World) : Prop :=
  ∃ φ, RM φ m w ∧ Ext φ₀ m₀ w₀ φ m w ∧ EnvRep φ m w e a.tmps ∧ nt ≤ a.tmps.size ∧ a.defers = []

theorem put_defers (a : Act) (dst : Option Tmp) (x : Value) : (a.put dst x).defers = a.defers := by cases dst <;> rfl
theorem St.put {φ₀ m₀ w₀ nt e m} {a : Act} {w : World} {φ : Phi} {m' : Mem} {w' : World} {φ' : Phi} (hE : EnvRep φ m w e a.tmps) (hX : Ext φ₀ m₀ w₀ φ m w) (hn : nt ≤ a.tmps.size) (hd : a.defers = [])
    (hR' : RM φ' m' w') (hx : Ext φ m w φ' m' w') {av : AV} {x : Value} (hv : Rep φ' m' w' av x) {dst : Option Tmp} {e' : Env} (hp : putAV nt dst av e = some e') :
    St φ₀ m₀ w₀ nt e' m' (a.put dst x) w' :=
  ⟨φ', hR', hX.trans hx, (hE.mono hx).put hp hn hv a.defers, by rw [put_size]; exact hn, by rw [put_defers]; exact hd⟩
theorem wanted_sound {ops : Array Oper} {e : Env} {o : Oper} {b : Bool} {tmps : Array Value} (hE : EnvRep φ m w e tmps) (h : wantedAV ops e o = some b) :
    Region.wanted o (yielded ops tmps) = b := by
  unfold wantedAV at h
  unfold Region.wanted
  split at h
  · rename_i hg
    simp only [Option.some.injEq] at h
    rw [hg]
    exact h
  · rename_i j want hg
    rw [hg]
    simp only []
    split at h
    · rename_i hj
      simp only [Option.some.injEq] at h
      simp [yielded, hj, ← h]
    · rename_i d hj
      have hr := hE d
      split at h
      · rename_i q hq
        simp only [Option.some.injEq] at h
        rw [hq] at hr
        generalize hu : tmps.getD d undef = u at hr
        cases hr
        have hd : d < tmps.size := by
          refine Nat.lt_of_not_le fun hle => ?_
          rw [Array.getD_eq_getD_getElem?, Array.getElem?_eq_none hle] at hu
          cases hu
        have : tmps[d]? = some (.bool q) := by
          rw [Array.getD_eq_getD_getElem?, Array.getElem?_eq_getElem hd] at hu
          rw [Array.getElem?_eq_getElem hd]
          exact congrArg some hu
        simp [yielded, hj, this, ← h]
      · rename_i q hq
        simp only [Option.some.injEq] at h
        rw [hq] at hr
        generalize hu : tmps.getD d undef = u at hr
        cases hr
        have : yielded ops tmps j = none := by
          unfold yielded
          rw [hj, Option.bind_some]
          cases hd : tmps[d]? with
          | none => rfl
          | some y =>
            rw [Array.getD_eq_getD_getElem?, hd] at hu
            cases hu
            rfl
        rw [this, ← h]
        rfl
      · cases h

theorem keeps_some {P : Program} {pu : Bool} {o : Oper} {m : Mem} {x : Option (AV × Mem)} {r : AV × Mem} (h : keeps P pu o m x = some r) :
    x = some r ∧ ((pu && clsOf P o == .ca) = true → r.2 = m) := by
  unfold keeps at h
  split at h
  · rename_i a m'
    split at h
    · rename_i hk
      simp only [Option.some.injEq] at h
      subst h
      exact ⟨rfl, hk⟩
    · cases h
  · cases h

theorem ops_sound {call : CallF} (hC : CallOk P call) {φ₀ : Phi} {m₀ : Mem} {w₀ : World} {nt : Nat} {ops : Array Oper} {pu : Bool} {Q : Exit → Act → World → Prop} :
    ∀ (l : List Oper) (e : Env) (m : Mem) (e' : Env) (m' : Mem), evOps P call nt ops pu l e m = some (e', m') → (∀ a w, St φ₀ m₀ w₀ nt e' m' a w → Q .normal a w) →
      ∀ a w, St φ₀ m₀ w₀ nt e m a w → wpList P ops Q l a w
  | [], e, m, e', m', h, hQ, a, w, hs => by
    simp only [evOps, Option.some.injEq, Prod.mk.injEq] at h
    obtain ⟨rfl, rfl⟩ := h
    exact hQ a w hs
  | o :: rest, e, m, e', m', h, hQ, a, w, hs => by
    obtain ⟨φ, hR, hX, hE, hn, hd⟩ := hs
    unfold evOps at h
    unfold wpList
    split at h
    · cases h
    · rename_i hw
      rw [wanted_sound hE hw, if_pos rfl]
      left
      split at h
      · rename_i av m1 hk
        split at h
        · rename_i e1 hp
          refine op_wp hC hR hE (keeps_some hk).1 fun x w' φ' g1 g2 g3 => ?_
          exact ops_sound hC rest e1 m1 e' m' h hQ _ _ (St.put hE hX hn hd g1 g2 g3 hp)
        · cases h
      · cases h
    · rename_i hw
      rw [wanted_sound hE hw, if_neg (by simp)]
      split at h
      · rename_i e1 hp
        exact ops_sound hC rest e1 m e' m' h hQ _ _ (St.put hE hX hn hd hR (Ext.refl ..) (.v _) hp)
      · cases h
end
end Go.Proofs.Ytojaokhkbmiidaa.Ev
