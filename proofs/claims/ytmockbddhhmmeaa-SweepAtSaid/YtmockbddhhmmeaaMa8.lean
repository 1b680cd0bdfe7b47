/- Regions that draw their order, by one walk in the text's order: each operation's place in memory is noted; what does not wait for each other touches different places. -/
import Derived.Test.YtmockbddhhmmeaaMa6
import Derived.Test.YtmockbddhhmmeaaMa5
import Derived.KernelRfl
namespace Go.Proofs.Ytmockbddhhmmeaa.Ev
open Go Go.Proofs
set_option maxRecDepth 10000
set_option maxHeartbeats 8000000
set_option linter.unusedVariables false
set_option linter.unusedSimpArgs false
section
theorem vlt {m : Mem} {r : Nat} {cs : List AV} (h : m.var r = some cs) : r < m.vars.length ∧ m.vars[r]? = some (some cs) := by
 unfold Mem.var at h
 cases e : m.vars[r]? with
 | none => rw [e] at h; cases h
 | some x =>
  rw [e] at h
  cases x with
  | none => cases h
  | some c =>
   cases h
   exact ⟨(List.getElem?_eq_some_iff.1 e).1, rfl⟩
def Mem.putv (m : Mem) (q : Nat) (cs : List AV) : Mem := { m with vars := m.vars.set q (some cs) }
inductive Loc where
 | old (q : Nat)
 | new (i : Nat)
def Loc.at (L : Nat) : Loc → Nat
 | .old q => q
 | .new i => L + i
def Loc.ok (L : Nat) : Loc → Prop
 | .old q => q < L
 | .new _ => True
structure FTrace (P : Program) (call : CallF) (nt : Nat) (l : List Oper) (m0 : Mem) (E : Nat → Env) (M : Nat → Mem) (A : Nat → AV) (fp : Nat → Option (Bool × Nat)) : Prop where
 m0 : M 0 = m0
 put : ∀ (k : Nat) o, l[k]? = some o → putAV nt o.dst (A k) (E k) = some (E (k + 1))
 kind : ∀ (k : Nat) o, l[k]? = some o →
  (wantedAV l.toArray (E k) o = some false ∧ A k = .v (.tuple #[]) ∧ M (k + 1) = M k ∧ fp k = none) ∨ (wantedAV l.toArray (E k) o = some true ∧
   (((∀ m2, evOp P call (E k) m2 o = some (A k, m2)) ∧ M (k + 1) = M k ∧ fp k = none) ∨
   (∃ q, fp k = some (false, q) ∧ q < (M k).vars.length ∧ M (k + 1) = M k ∧ ∀ m2 : Mem, m2.var q = (M k).var q → evOp P call (E k) m2 o = some (A k, m2)) ∨
   (∃ t z, fp k = some (true, (M k).vars.length) ∧ o.op = .alloc t ∧ zeroCells P t = some z ∧ z.all okCell = true ∧ z.all (refLe (M k).vars.length) = true ∧ A k = .ptr (M k).vars.length 0 ∧ M (k + 1) = (M k).push z) ∨
   (∃ q cs, fp k = some (true, q) ∧ q < (M k).vars.length ∧ M (k + 1) = (M k).putv q cs ∧ ∀ m2 : Mem, m2.var q = (M k).var q → evOp P call (E k) m2 o = some (A k, m2.putv q cs))))
 pair : ∀ j k wj wk q, j < k → k < l.length → fp j = some (wj, q) → fp k = some (wk, q) → (wj || wk) = true → ((masks l []).getD k 0).testBit j = true
section
variable {P : Program} {call : CallF} {nt : Nat} {l : List Oper} {m0 : Mem} {E : Nat → Env} {M : Nat → Mem} {A : Nat → AV} {fp : Nat → Option (Bool × Nat)}
def wr (fp : Nat → Option (Bool × Nat)) (n r : Nat) : Bool := match fp n with | some (true, q) => decide (q = r) | _ => false
theorem wr_iff {n r : Nat} : wr fp n r = true ↔ fp n = some (true, r) := by
 unfold wr
 cases h : fp n with
 | none => simp
 | some x =>
  obtain ⟨b, q⟩ := x
  cases b <;> simp
/-- What a place holds, once so many operations of a set have come up. -/
def cont (M : Nat → Mem) (fp : Nat → Option (Bool × Nat)) (S : Nat → Bool) (r : Nat) : Nat → Option (List AV)
 | 0 => (M 0).var r
 | n + 1 => if (S n && wr fp n r) = true then (M (n + 1)).var r else cont M fp S r n
theorem cont_congr {S T : Nat → Bool} {r : Nat} : ∀ n, (∀ j, j < n → wr fp j r = true → S j = T j) → cont M fp S r n = cont M fp T r n
 | 0, _ => rfl
 | n + 1, h => by
  unfold cont
  cases hw : wr fp n r with
  | false => simp only [Bool.and_false, Bool.false_eq_true, if_false]; exact cont_congr n fun j hj => h j (by omega)
  | true =>
   rw [h n (by omega) hw, cont_congr n fun j hj => h j (by omega)]
theorem cont_late {S : Nat → Bool} {r k : Nat} : ∀ n, k ≤ n → (∀ j, k ≤ j → j < n → wr fp j r = true → S j = false) → cont M fp S r n = cont M fp S r k
 | 0, h, _ => by rw [Nat.le_zero.1 h]
 | n + 1, h, hn => by
  by_cases e : k = n + 1
  ·rw [e]
  ·conv => lhs; unfold cont
   rw [if_neg, cont_late n (by omega) fun j h1 h2 => hn j h1 (by omega)]
   intro hc
   have := Bool.and_eq_true_iff.1 hc
   rw [hn n (by omega) (by omega) this.2] at this
   cases this.1
variable (hT : FTrace P call nt l m0 E M A fp)
include hT
theorem ft_step {k : Nat} (hk : k < l.length) : (M k).vars.length ≤ (M (k + 1)).vars.length ∧ (M (k + 1)).toks = (M k).toks ∧
  (∀ r, wr fp k r = false → r < (M k).vars.length → (M (k + 1)).vars[r]? = (M k).vars[r]?) ∧ (∀ w q, fp k = some (w, q) → q < (M (k + 1)).vars.length) ∧
  (∀ r, wr fp k r = false → (M (k + 1)).var r = (M k).var r) ∧ ∀ q, fp k = some (true, q) → ∃ cs, (M (k + 1)).var q = some cs := by
 rcases hT.kind k _ (List.getElem?_eq_getElem hk) with ⟨_, _, h, hf⟩ | ⟨_, ⟨_, h, hf⟩ | ⟨q, hf, hq, h, _⟩ | ⟨t, z, hf, _, _, _, _, _, h⟩ | ⟨q, cs, hf, hq, h, _⟩⟩
 ·rw [h, hf]
  exact ⟨Nat.le_refl _, rfl, fun _ _ _ => rfl, (fun _ _ e => nomatch e), fun _ _ => rfl, fun _ e => nomatch e⟩
 ·rw [h, hf]
  exact ⟨Nat.le_refl _, rfl, fun _ _ _ => rfl, (fun _ _ e => nomatch e), fun _ _ => rfl, fun _ e => nomatch e⟩
 ·rw [h, hf]
  exact ⟨Nat.le_refl _, rfl, fun _ _ _ => rfl, (fun _ _ e => by cases e; exact hq), fun _ _ => rfl, fun _ e => nomatch e⟩
 ·have hl : (M (k + 1)).vars.length = (M k).vars.length + 1 := by rw [h]; simp [Mem.push]
  refine ⟨by omega, by rw [h]; rfl, fun r hw hr => ?_, (fun _ _ e => by rw [hf] at e; cases e; omega), fun r hw => ?_, fun q e => by rw [hf] at e; cases e; exact ⟨z, by rw [h]; exact push_var⟩⟩
  ·rw [h]
   show ((M k).vars ++ [some z])[r]? = _
   exact List.getElem?_append_left hr
  ·have hne : r ≠ (M k).vars.length := fun e => by
    have : wr fp k r = true := wr_iff.2 (by rw [hf, e])
    rw [hw] at this; cases this
   rw [h]
   unfold Mem.var
   show (((M k).vars ++ [some z])[r]?).join = _
   by_cases hr : r < (M k).vars.length
   ·rw [List.getElem?_append_left hr]
   ·rw [List.getElem?_eq_none (by simp; omega), List.getElem?_eq_none (by omega)]
 ·have hl : (M (k + 1)).vars.length = (M k).vars.length := by rw [h]; simp [Mem.putv]
  have ne : ∀ r, wr fp k r = false → r ≠ q := fun r hw e => by
    have : wr fp k r = true := wr_iff.2 (by rw [hf, e])
    rw [hw] at this; cases this
  refine ⟨by omega, by rw [h]; rfl, fun r hw hr => ?_, (fun _ _ e => by rw [hf] at e; cases e; omega), fun r hw => ?_, fun q' e => ?_⟩
  ·rw [h]
   show ((M k).vars.set q _)[r]? = _
   exact List.getElem?_set_ne (ne r hw).symm
  ·rw [h]
   unfold Mem.var
   show (((M k).vars.set q _)[r]?).join = _
   rw [List.getElem?_set_ne (ne r hw).symm]
  ·rw [hf] at e
   cases e
   refine ⟨cs, ?_⟩
   rw [h]
   unfold Mem.var
   show (((M k).vars.set q _)[q]?).join = _
   rw [List.getElem?_set_self hq]
   rfl
theorem ft_len : ∀ n, n ≤ l.length → ∀ k, k ≤ n → (M k).vars.length ≤ (M n).vars.length
 | 0, _, k, hk => by rw [Nat.le_zero.1 hk]; exact Nat.le_refl _
 | n + 1, h, k, hk => by
  by_cases e : k = n + 1
  ·rw [e]; exact Nat.le_refl _
  ·exact Nat.le_trans (ft_len n (by omega) k (by omega)) (ft_step hT (by omega)).1
theorem ft_toks : ∀ n, n ≤ l.length → (M n).toks = m0.toks
 | 0, _ => by rw [hT.m0]
 | n + 1, h => by rw [(ft_step hT (by omega)).2.1, ft_toks n (by omega)]
theorem ft_cont {r : Nat} : ∀ n, n ≤ l.length → cont M fp (fun _ => true) r n = (M n).var r
 | 0, _ => rfl
 | n + 1, h => by
  unfold cont
  cases hw : wr fp n r with
  | false => simp only [Bool.and_false, Bool.false_eq_true, if_false]; rw [ft_cont n (by omega), (ft_step hT (by omega)).2.2.2.2.1 r hw]
  | true => simp
/-- The memory of a set. -/
def MSof (l : List Oper) (m0 : Mem) (M : Nat → Mem) (fp : Nat → Option (Bool × Nat)) (S : Nat → Bool) : Mem :=
 { vars := (List.range (M l.length).vars.length).map fun r => cont M fp S r l.length, toks := m0.toks }
omit hT in
theorem ms_at {S : Nat → Bool} {r : Nat} (h : r < (M l.length).vars.length) : (MSof l m0 M fp S).vars[r]? = some (cont M fp S r l.length) := by
 show ((List.range _).map _)[r]? = _
 rw [List.getElem?_map, List.getElem?_range h]
 rfl
omit hT in
theorem ms_var {S : Nat → Bool} {r : Nat} (h : r < (M l.length).vars.length) : (MSof l m0 M fp S).var r = cont M fp S r l.length := by
 unfold Mem.var
 rw [ms_at h]
 rfl
omit hT in
theorem ms_len {S : Nat → Bool} : (MSof l m0 M fp S).vars.length = (M l.length).vars.length := by simp [MSof]
theorem ft_fp {k : Nat} {w : Bool} {q : Nat} (hk : k < l.length) (h : fp k = some (w, q)) : q < (M l.length).vars.length :=
 Nat.lt_of_lt_of_le ((ft_step hT hk).2.2.2.1 w q h) (ft_len hT _ (Nat.le_refl _) _ (by omega))
variable (hD : DrawnS l)
include hD
theorem ft_key {S : Nat → Bool} {k : Nat} {o : Oper} {w : Bool} {q : Nat} (ho : l[k]? = some o) (hc : ClosedS l S) (hi : S k = false) (hr : ∀ e ∈ o.after.toList, Region.binds .any e = true → S e.on = true) (hf : fp k = some (w, q)) :
  cont M fp S q l.length = (M k).var q ∧ cont M fp S q k = (M k).var q ∧ ∀ j, k ≤ j → j < l.length → wr fp j q = true → S j = false := by
 have hk : k < l.length := (List.getElem?_eq_some_iff.1 ho).1
 have late : ∀ j, k ≤ j → j < l.length → wr fp j q = true → S j = false := by
  intro j h1 h2 hw
  by_cases e : j = k
  ·rw [e]; exact hi
  ·cases hS : S j with
   | false => rfl
   | true =>
    have hb := hT.pair k j w true q (by omega) h2 hf (wr_iff.1 hw) (by simp)
    have hj := List.getElem?_eq_getElem h2
    have := mask_listed (S := fun j => S j = true) hD.edge hc j _ hj (hc j _ hj hS) k hb
    rw [hi] at this
    cases this
 have early : cont M fp S q k = (M k).var q := by
  rw [cont_congr (T := fun _ => true) k fun j hj hw => ?_, ft_cont hT k (by omega)]
  have hb := hT.pair j k true w q hj hk (wr_iff.1 hw) hf (by simp)
  exact mask_listed (S := fun j => S j = true) hD.edge hc k _ ho hr j hb
 exact ⟨(cont_late l.length (by omega) late).trans early, early, late⟩
omit hT hD in
theorem cont_ins {S : Nat → Bool} {k r : Nat} (h : wr fp k r = false) (n : Nat) : cont M fp (ins S k) r n = cont M fp S r n :=
 cont_congr n fun j _ hw => by
  by_cases e : j = k
  ·rw [e, h] at hw; cases hw
  ·unfold ins; simp [e]
omit hT hD in
theorem ms_same {S : Nat → Bool} {k : Nat} (h : ∀ r, wr fp k r = false) : MSof l m0 M fp (ins S k) = MSof l m0 M fp S := by
 unfold MSof
 congr 1
 exact List.map_congr_left fun r _ => cont_ins (h r) _
theorem ms_put {S : Nat → Bool} {k : Nat} {o : Oper} {q : Nat} {cs : List AV} (ho : l[k]? = some o) (hc : ClosedS l S) (hi : S k = false) (hr : ∀ e ∈ o.after.toList, Region.binds .any e = true → S e.on = true) (hf : fp k = some (true, q))
  (hv : (M (k + 1)).var q = some cs) : (MSof l m0 M fp S).putv q cs = MSof l m0 M fp (ins S k) := by
 have hk : k < l.length := (List.getElem?_eq_some_iff.1 ho).1
 have hq := ft_fp hT hk hf
 have hlate := (ft_key hT hD ho hc hi hr hf).2.2
 unfold Mem.putv
 show ({ vars := _, toks := _ } : Mem) = { vars := _, toks := _ }
 congr 1
 apply List.ext_getElem?
 intro r
 by_cases hr : r < (M l.length).vars.length
 ·rw [show (List.map (fun r => cont M fp (ins S k) r l.length) (List.range (M l.length).vars.length))[r]? = _ from ms_at (m0 := m0) hr]
  by_cases e : r = q
  ·subst e
   rw [List.getElem?_set_self (by rw [ms_len]; exact hr)]
   have h1 : cont M fp (ins S k) r l.length = cont M fp (ins S k) r (k + 1) := cont_late _ (by omega) fun j h1 h2 hw => by
    have := hlate j (by omega) h2 hw
    unfold ins
    simp [this, show j ≠ k by omega]
   rw [h1]
   unfold cont
   rw [if_pos (by rw [wr_iff.2 hf]; simp [ins]), hv]
  ·rw [List.getElem?_set_ne (fun h => e h.symm), ms_at hr, cont_ins]
   cases hw : wr fp k r with
   | false => rfl
   | true =>
    have := wr_iff.1 hw
    rw [hf] at this
    cases this
    exact absurd rfl e
 ·rw [List.getElem?_eq_none (by rw [List.length_set, ms_len]; omega), List.getElem?_eq_none (by simp; omega)]
theorem ft_sop {S : Nat → Bool} {k : Nat} {o : Oper} (ho : l[k]? = some o) (hc : ClosedS l S) (hi : S k = false) (hr : ∀ e ∈ o.after.toList, Region.binds .any e = true → S e.on = true) :
  (wantedAV l.toArray (E k) o = some true → SOp P call (E k) (MSof l m0 M fp S) o (A k) (MSof l m0 M fp (ins S k))) ∧ (wantedAV l.toArray (E k) o = some false → MSof l m0 M fp (ins S k) = MSof l m0 M fp S) := by
 have hk : k < l.length := (List.getElem?_eq_some_iff.1 ho).1
 have nw : (∀ q, fp k ≠ some (true, q)) → ∀ r, wr fp k r = false := fun h r => by
  cases hw : wr fp k r with
  | false => rfl
  | true => exact absurd (wr_iff.1 hw) (h r)
 rcases hT.kind k o ho with ⟨hw, _, _, hf⟩ | ⟨hw, ⟨h, _, hf⟩ | ⟨q, hf, hq, _, h⟩ | ⟨t, z, hf, hop, hz, hok, hre, hA, hM⟩ | ⟨q, cs, hf, hq, hM, h⟩⟩
 ·exact ⟨(fun e => by rw [hw] at e; cases e), fun _ => ms_same (nw fun q e => by rw [hf] at e; cases e)⟩
 ·refine ⟨fun _ => .inl ?_, fun e => by rw [hw] at e; cases e⟩
  rw [ms_same (nw fun q e => by rw [hf] at e; cases e)]
  exact h _
 ·refine ⟨fun _ => .inl ?_, fun e => by rw [hw] at e; cases e⟩
  rw [ms_same (nw fun q e => by rw [hf] at e; cases e)]
  exact h _ (by rw [ms_var (ft_fp hT hk hf)]; exact (ft_key hT hD ho hc hi hr hf).1)
 ·refine ⟨fun _ => .inr ⟨t, z, (M k).vars.length, hop, hz, hok, ?_, hA⟩, fun e => by rw [hw] at e; cases e⟩
  have hq := ft_fp hT hk hf
  have hv : (M (k + 1)).var (M k).vars.length = some z := by rw [hM]; exact push_var
  rw [← ms_put hT hD ho hc hi hr hf hv]
  have h0 : (M k).var (M k).vars.length = none := by
   unfold Mem.var
   rw [List.getElem?_eq_none (Nat.le_refl _)]
   rfl
  unfold newVar
  rw [if_pos hre, if_neg (by rw [ms_len]; omega), ms_at hq, (ft_key hT hD ho hc hi hr hf).1, h0]
  rfl
 ·refine ⟨fun _ => .inl ?_, fun e => by rw [hw] at e; cases e⟩
  have hv : (M (k + 1)).var q = some cs := by
   rw [hM]
   unfold Mem.var
   show (((M k).vars.set q _)[q]?).join = _
   rw [List.getElem?_set_self hq]
   rfl
  rw [← ms_put hT hD ho hc hi hr hf hv]
  exact h _ (by rw [ms_var (ft_fp hT hk hf)]; exact (ft_key hT hD ho hc hi hr hf).1)
end
section
variable {P : Program} {call : CallF} {nt : Nat}
theorem x_trace {φ₀ : Phi} {m₀ : Mem} {w₀ : World} {l : List Oper} {m : Mem} {E : Nat → Env} {M : Nat → Mem} {A : Nat → AV} {fp : Nat → Option (Bool × Nat)} (hm : P.follows .mixedOrders = true) (hC : CallOk P call) {id : Nat} {l2 : Option (List Nat)} {F : Objs} {Q : PostF} {e : Env} (hD : drawnS l = true)
  (hT : FTrace P call nt l m E M A fp) (hE0 : E 0 = e) (hQ : ∀ e2, Ev.restr l2 (E l.length) = e2 → Q .normal e2 (M l.length) F) : XRuns P φ₀ m₀ w₀ nt (.region id l.toArray true) e m F Q := by
 have hl := ft_len hT l.length (Nat.le_refl _) 0 (Nat.zero_le _)
 rw [hT.m0] at hl
 refine x_sets (E := E) (A := A) (MS := MSof l m M fp) (m' := M l.length) hm hC hD hE0 (fun r => ?_) rfl (fun k o ho => hT.put k o ho) (fun k o ho => ?_) (fun S i o ho hc hi hr => ft_sop hT (drawnS_of hD) ho hc hi hr) (fun S hS => ?_) hQ
 ·by_cases h : r < (M l.length).vars.length
  ·rw [ms_var h, cont_late (k := 0) _ (Nat.zero_le _) fun _ _ _ _ => rfl]
   show _ = (M 0).var r
   rw [hT.m0]
  ·unfold Mem.var
   rw [List.getElem?_eq_none (by omega), List.getElem?_eq_none (by rw [ms_len]; omega)]
 ·rcases hT.kind k o ho with ⟨hw, hA, _⟩ | ⟨hw, _⟩
  ·exact ⟨false, hw, fun _ => hA⟩
  ·exact ⟨true, hw, fun h => by cases h⟩
 ·have h1 : ∀ r, cont M fp S r l.length = (M l.length).var r := fun r => by
   rw [cont_congr (T := fun _ => true) _ fun j hj _ => hS j hj, ft_cont hT _ (Nat.le_refl _)]
  unfold MSof
  simp only [h1]
  have h2 := ft_toks hT l.length (Nat.le_refl _)
  rw [← h2]
  show ({ vars := _, toks := (M l.length).toks } : Mem) = { vars := (M l.length).vars, toks := (M l.length).toks }
  congr 1
  apply List.ext_getElem?
  intro r
  by_cases hr : r < (M l.length).vars.length
  ·rw [List.getElem?_map, List.getElem?_range hr, List.getElem?_eq_getElem hr]
   show some ((M l.length).var r) = _
   unfold Mem.var
   rw [List.getElem?_eq_getElem hr]
   rfl
  ·rw [List.getElem?_eq_none (by simp; omega), List.getElem?_eq_none (by omega)]
end
/-! ### the walk -/
def Loc.ne : Loc → Loc → Bool
 | .old _, .new _ => true
 | .new _, .old _ => true
 | .new i, .new j => i != j
 | .old _, .old _ => false
theorem Loc.at_ne {L : Nat} {p q : Loc} (hp : p.ok L) (hq : q.ok L) (h : p ≠ q) : p.at L ≠ q.at L := by
 cases p <;> cases q <;> simp only [Loc.at, Loc.ok, ne_eq, Loc.old.injEq, Loc.new.injEq] at * <;> omega
theorem Loc.ne_of {p q : Loc} (h : p.ne q = true) : p ≠ q := by
 cases p <;> cases q <;> simp_all [Loc.ne]
abbrev Ent := Nat × Bool × Loc
def chk (ms : List Nat) (k : Nat) (w : Bool) (p : Loc) (W : List Ent) : Prop := ∀ x ∈ W, (x.2.1 || w) = true → (ms.getD k 0).testBit x.1 = true ∨ x.2.2 ≠ p
def chkB (ms : List Nat) (k : Nat) (w : Bool) (p : Loc) (W : List Ent) : Bool := W.all fun x => !(x.2.1 || w) || (ms.getD k 0).testBit x.1 || x.2.2.ne p
theorem chk_of {ms : List Nat} {k : Nat} {w : Bool} {p : Loc} {W : List Ent} (h : chkB ms k w p W = true) : chk ms k w p W := fun x hx hw => by
 have := List.all_eq_true.1 h x hx
 rw [hw] at this
 simp only [Bool.not_true, Bool.false_or, Bool.or_eq_true] at this
 exact this.imp id Loc.ne_of
def FKind (P : Program) (call : CallF) (ops : Array Oper) (L : Nat) (e : Env) (m : Mem) (o : Oper) (a : AV) (m' : Mem) (f : Option (Bool × Loc)) : Prop :=
 (wantedAV ops e o = some false ∧ a = .v (.tuple #[]) ∧ m' = m ∧ f = none) ∨ (wantedAV ops e o = some true ∧
  (((∀ m2, evOp P call e m2 o = some (a, m2)) ∧ m' = m ∧ f = none) ∨
  (∃ p, f = some (false, p) ∧ p.ok L ∧ p.at L < m.vars.length ∧ m' = m ∧ ∀ m2 : Mem, m2.var (p.at L) = m.var (p.at L) → evOp P call e m2 o = some (a, m2)) ∨
  (∃ t z i, f = some (true, .new i) ∧ m.vars.length = L + i ∧ o.op = .alloc t ∧ zeroCells P t = some z ∧ z.all okCell = true ∧ z.all (refLe m.vars.length) = true ∧ a = .ptr m.vars.length 0 ∧ m' = m.push z) ∨
  (∃ p cs, f = some (true, p) ∧ p.ok L ∧ p.at L < m.vars.length ∧ m' = m.putv (p.at L) cs ∧ ∀ m2 : Mem, m2.var (p.at L) = m.var (p.at L) → evOp P call e m2 o = some (a, m2.putv (p.at L) cs))))
def FOps (P : Program) (call : CallF) (nt : Nat) (l : List Oper) (L : Nat) : Nat → List Oper → Env → Mem → List Ent → (Env → Mem → Prop) → Prop
 | _, [], e, m, _, K => K e m
 | k, o :: r, e, m, W, K => ∃ a e' m' f, FKind P call l.toArray L e m o a m' f ∧ putAV nt o.dst a e = some e' ∧
  match f with
  | none => FOps P call nt l L (k + 1) r e' m' W K
  | some (w, p) => chk (masks l []) k w p W ∧ FOps P call nt l L (k + 1) r e' m' ((k, w, p) :: W) K
section
variable {P : Program} {call : CallF} {nt : Nat} {l : List Oper} {L : Nat} {K : Env → Mem → Prop}
def fpOf (L : Nat) (f : Option (Bool × Loc)) : Option (Bool × Nat) := f.map fun x => (x.1, x.2.at L)
theorem fops_trace : ∀ (rest : List Oper) (k : Nat) (e : Env) (m : Mem) (W : List Ent), (∀ x ∈ W, x.2.2.ok L) → FOps P call nt l L k rest e m W K →
  ∃ (E : Nat → Env) (M : Nat → Mem) (A : Nat → AV) (fp : Nat → Option (Bool × Loc)), E 0 = e ∧ M 0 = m ∧ K (E rest.length) (M rest.length) ∧
   (∀ (j : Nat) o, rest[j]? = some o → putAV nt o.dst (A j) (E j) = some (E (j + 1)) ∧ FKind P call l.toArray L (E j) (M j) o (A j) (M (j + 1)) (fp j)) ∧
   (∀ j w p, j < rest.length → fp j = some (w, p) → p.ok L) ∧
   (∀ i j wi wj p q, i < j → j < rest.length → fp i = some (wi, p) → fp j = some (wj, q) → (wi || wj) = true → ((masks l []).getD (k + j) 0).testBit (k + i) = true ∨ p ≠ q) ∧
   (∀ x ∈ W, ∀ j wj q, j < rest.length → fp j = some (wj, q) → (x.2.1 || wj) = true → ((masks l []).getD (k + j) 0).testBit x.1 = true ∨ x.2.2 ≠ q)
 | [], k, e, m, W, hW, h => ⟨fun _ => e, fun _ => m, fun _ => .junk, fun _ => none, rfl, rfl, h, fun j o ho => by simp at ho, fun j w p hj => by simp at hj, fun i j wi wj p q _ hj => by simp at hj, fun x _ j wj q hj => by simp at hj⟩
 | o :: r, k, e, m, W, hW, h => by
  unfold FOps at h
  obtain ⟨a, e', m', f, hk, hp, hf⟩ := h
  have hok : ∀ w p, f = some (w, p) → p.ok L := by
   intro w p he
   rcases hk with ⟨_, _, _, h⟩ | ⟨_, ⟨_, _, h⟩ | ⟨q, h, h2, _⟩ | ⟨t, z, i, h, _⟩ | ⟨q, cs, h, h2, _⟩⟩
   ·rw [h] at he; cases he
   ·rw [h] at he; cases he
   ·rw [h] at he; cases he; exact h2
   ·rw [h] at he; cases he; trivial
   ·rw [h] at he; cases he; exact h2
  have go : ∃ W', (∀ x ∈ W', x.2.2.ok L) ∧ (∀ x ∈ W, x ∈ W') ∧ (∀ w p, f = some (w, p) → (k, w, p) ∈ W' ∧ chk (masks l []) k w p W) ∧ FOps P call nt l L (k + 1) r e' m' W' K := by
   cases f with
   | none => exact ⟨W, hW, fun _ h => h, (fun _ _ e => nomatch e), hf⟩
   | some x =>
    obtain ⟨w, p⟩ := x
    refine ⟨(k, w, p) :: W, fun x hx => ?_, fun _ h => List.mem_cons_of_mem _ h, (fun w' p' e => by cases e; exact ⟨List.mem_cons_self .., hf.1⟩), hf.2⟩
    rcases List.mem_cons.1 hx with rfl | hx
    ·exact hok _ _ rfl
    ·exact hW x hx
  obtain ⟨W', hW', hsub, hnew, hr⟩ := go
  obtain ⟨E, M, A, fp, hE, hM, hK, h1, h2, h3, h4⟩ := fops_trace r (k + 1) e' m' W' hW' hr
  refine ⟨fun | 0 => e | j + 1 => E j, fun | 0 => m | j + 1 => M j, fun | 0 => a | j + 1 => A j, fun | 0 => f | j + 1 => fp j, rfl, rfl, hK, fun j o' ho => ?_, fun j w p hj he => ?_, fun i j wi wj p q hij hj hi hj2 hw => ?_, fun x hx j wj q hj he hw => ?_⟩
  ·cases j with
   | zero =>
    simp only [List.getElem?_cons_zero, Option.some.injEq] at ho
    subst ho
    show putAV nt o.dst a e = some (E 0) ∧ FKind P call l.toArray L e m o a (M 0) f
    rw [hE, hM]
    exact ⟨hp, hk⟩
   | succ j => exact h1 j o' (by simpa using ho)
  ·cases j with
   | zero => exact hok w p he
   | succ j => exact h2 j w p (by simpa using hj) he
  ·cases j with
   | zero => omega
   | succ j =>
    have hj' : j < r.length := by simpa using hj
    rw [show k + (j + 1) = k + 1 + j by omega]
    cases i with
    | zero => exact h4 _ (hnew _ _ hi).1 j wj q hj' hj2 hw
    | succ i =>
     rw [show k + (i + 1) = k + 1 + i by omega]
     exact h3 i j wi wj p q (by omega) hj' hi hj2 hw
  ·cases j with
   | zero => exact (hnew _ _ he).2 x hx hw
   | succ j =>
    rw [show k + (j + 1) = k + 1 + j by omega]
    exact h4 x (hsub x hx) j wj q (by simpa using hj) he hw
theorem x_walk {φ₀ : Phi} {m₀ : Mem} {w₀ : World} {m : Mem} (hm : P.follows .mixedOrders = true) (hC : CallOk P call) {id : Nat} {l2 : Option (List Nat)} {F : Objs} {Q : PostF} {e : Env} (hD : drawnS l = true)
  (h : FOps P call nt l m.vars.length 0 l e m [] fun e' m' => ∀ e2, Ev.restr l2 e' = e2 → Q .normal e2 m' F) : XRuns P φ₀ m₀ w₀ nt (.region id l.toArray true) e m F Q := by
 obtain ⟨E, M, A, fp, hE, hM, hK, h1, h2, h3, _⟩ := fops_trace l 0 e m [] (fun x hx => nomatch hx) h
 refine x_trace (E := E) (M := M) (A := A) (fp := fun k => fpOf m.vars.length (fp k)) hm hC hD ⟨hM, fun k o ho => (h1 k o ho).1, fun k o ho => ?_, fun j k wj wk q hjk hk hj hk2 hw => ?_⟩ hE hK
 ·rcases (h1 k o ho).2 with ⟨a, b, c, d⟩ | ⟨hw, h⟩
  ·exact .inl ⟨a, b, c, by rw [d]; rfl⟩
  ·refine .inr ⟨hw, ?_⟩
   rcases h with ⟨a, b, c⟩ | ⟨p, a, b, c, d, e⟩ | ⟨t, z, i, a, b, c⟩ | ⟨p, cs, a, b, c, d, e⟩
   ·exact .inl ⟨a, b, by rw [c]; rfl⟩
   ·exact .inr (.inl ⟨_, by rw [a]; rfl, c, d, e⟩)
   ·exact .inr (.inr (.inl ⟨t, z, by rw [a, b]; rfl, c⟩))
   ·exact .inr (.inr (.inr ⟨_, cs, by rw [a]; rfl, c, d, e⟩))
 ·have hlt : j < l.length := by omega
  cases e1 : fp j with
  | none => rw [e1] at hj; cases hj
  | some x =>
   cases e2 : fp k with
   | none => rw [e2] at hk2; cases hk2
   | some y =>
    obtain ⟨v1, p1⟩ := x
    obtain ⟨v2, p2⟩ := y
    rw [e1] at hj
    rw [e2] at hk2
    cases hj
    have hk3 : (v2, p2.at m.vars.length) = (wk, p1.at m.vars.length) := Option.some.inj hk2
    have hv : v2 = wk := congrArg Prod.fst hk3
    have hp := congrArg Prod.snd hk3
    subst hv
    rcases h3 j k v1 v2 p1 p2 hjk hk e1 e2 hw with h | h
    ·simpa using h
    ·exact absurd hp.symm (Loc.at_ne (h2 j _ _ hlt e1) (h2 k _ _ hk e2) h)
end
/-! ### its steps -/
def Mem.pushes (b : Mem) : List (List AV) → Mem
 | [] => b
 | c :: F => (b.push c).pushes F
theorem pushes_vars : ∀ (F : List (List AV)) (b : Mem), (b.pushes F).vars = b.vars ++ F.map some
 | [], b => by simp [Mem.pushes]
 | c :: F, b => by
  show ((b.push c).pushes F).vars = _
  rw [pushes_vars F (b.push c)]
  simp [Mem.push]
theorem pushes_toks : ∀ (F : List (List AV)) (b : Mem), (b.pushes F).toks = b.toks
 | [], b => rfl
 | c :: F, b => pushes_toks F (b.push c)
theorem mem_eq {a b : Mem} (h1 : a.vars = b.vars) (h2 : a.toks = b.toks) : a = b := by cases a; cases b; simp_all
theorem pushes_len {F : List (List AV)} {b : Mem} : (b.pushes F).vars.length = b.vars.length + F.length := by rw [pushes_vars]; simp
theorem pushes_old {F : List (List AV)} {b : Mem} {q : Nat} (h : q < b.vars.length) : (b.pushes F).var q = b.var q := by
 unfold Mem.var
 rw [pushes_vars, List.getElem?_append_left h]
theorem pushes_new {F : List (List AV)} {b : Mem} {i : Nat} : (b.pushes F).var (b.vars.length + i) = F[i]? := by
 unfold Mem.var
 rw [pushes_vars, List.getElem?_append_right (by omega), Nat.add_sub_cancel_left, List.getElem?_map]
 cases F[i]? <;> rfl
theorem pushes_push {F : List (List AV)} {b : Mem} {z : List AV} : (b.pushes F).push z = b.pushes (F ++ [z]) :=
 mem_eq (by rw [pushes_vars]; show (b.pushes F).vars ++ [some z] = _; rw [pushes_vars]; simp) (by rw [pushes_toks]; exact pushes_toks F b)
theorem pushes_putn {F : List (List AV)} {b : Mem} {i : Nat} {cs : List AV} : (b.pushes F).putv (b.vars.length + i) cs = b.pushes (F.set i cs) :=
 mem_eq (by rw [pushes_vars]; show (b.pushes F).vars.set _ _ = _; rw [pushes_vars, List.set_append_right _ _ (by omega), Nat.add_sub_cancel_left, List.map_set]) (by rw [pushes_toks]; exact pushes_toks F b)
theorem evLoad_var {P : Program} {m m2 : Mem} {t : TypeId} {q off : Nat} (h : m2.var q = m.var q) : evLoad P m2 t (.ptr q off) = evLoad P m t (.ptr q off) := by
 unfold evLoad ptrCells
 simp only [h]
theorem evLoad_lt {P : Program} {m : Mem} {t : TypeId} {q off : Nat} {a : AV} (h : evLoad P m t (.ptr q off) = some a) : q < m.vars.length := by
 cases e : m.var q with
 | none => unfold evLoad ptrCells at h; simp only [e] at h; simp at h
 | some cs => exact (vlt e).1
section
variable {P : Program} {call : CallF} {nt : Nat} {l : List Oper} {L k : Nat} {o : Oper} {r : List Oper} {e : Env} {m : Mem} {W : List Ent} {K : Env → Mem → Prop} {a : AV} {d : Nat}
def wantB (ops : Array Oper) (e : Env) (o : Oper) (b : Bool) : Prop := wantedAV ops e o = some b
theorem want_of (h : o.guard = none) {ops : Array Oper} : wantB ops e o true := by unfold wantB wantedAV; rw [h]
theorem want_yes {ops : Array Oper} {j g : Nat} {want : Bool} (hg : o.guard = some (j, want)) (hj : (ops[j]?).bind (·.dst) = some g) (hb : get e g = .v (.bool want)) : wantB ops e o true := by unfold wantB wantedAV; rw [hg]; simp [hj, hb]
theorem want_no {ops : Array Oper} {j g : Nat} {want b : Bool} (hg : o.guard = some (j, want)) (hj : (ops[j]?).bind (·.dst) = some g) (hb : get e g = .v (.bool b)) (hne : b ≠ want) : wantB ops e o false := by unfold wantB wantedAV; rw [hg]; simp [hj, hb, hne]
theorem want_off {ops : Array Oper} {j g : Nat} {want : Bool} {a : Array Value} (hg : o.guard = some (j, want)) (hj : (ops[j]?).bind (·.dst) = some g) (hb : get e g = .v (.tuple a)) : wantB ops e o false := by unfold wantB wantedAV; rw [hg]; simp only [hj, hb]
theorem put_of (hd : o.dst = some d) (hlt : d < nt) : putAV nt o.dst a e = some ((d, a) :: e) := by unfold putAV; rw [hd]; exact if_pos hlt
theorem put_none (hd : o.dst = none) : putAV nt o.dst a e = some e := by unfold putAV; rw [hd]
theorem fo_nil {m2 : Mem} (hm : m = m2) (h : K e m2) : FOps P call nt l L k [] e m W K := by subst hm; exact h
theorem fo_n (hw : wantB l.toArray e o true) (hd : o.dst = some d) (hlt : d < nt) (hk : ∀ m2, evOp P call e m2 o = some (a, m2)) (h : FOps P call nt l L (k + 1) r ((d, a) :: e) m W K) : FOps P call nt l L k (o :: r) e m W K :=
 ⟨a, _, m, none, .inr ⟨hw, .inl ⟨hk, rfl, rfl⟩⟩, put_of hd hlt, h⟩
theorem fo_no (hw : wantB l.toArray e o false) (hd : o.dst = some d) (hlt : d < nt) (h : FOps P call nt l L (k + 1) r ((d, .v (.tuple #[])) :: e) m W K) : FOps P call nt l L k (o :: r) e m W K :=
 ⟨_, _, m, none, .inl ⟨hw, rfl, rfl, rfl⟩, put_of hd hlt, h⟩
variable {b : Mem} {Fs : List (List AV)}
theorem fo_load {t : TypeId} {x : Operand} {q off : Nat} (hw : wantB l.toArray e o true) (hd : o.dst = some d) (hlt : d < nt) (ho : o.op = .load t x) (hx : opd P e t x = .ptr q off) (hk : evLoad P b t (.ptr q off) = some a) (hL : b.vars.length = L) (hc : chk (masks l []) k false (.old q) W)
  (h : FOps P call nt l L (k + 1) r ((d, a) :: e) (b.pushes Fs) ((k, false, .old q) :: W) K) : FOps P call nt l L k (o :: r) e (b.pushes Fs) W K := by
 have hq := evLoad_lt hk
 refine ⟨a, _, _, some (false, .old q), .inr ⟨hw, .inr (.inl ⟨.old q, rfl, by rw [← hL]; exact hq, by rw [pushes_len]; show q < _; omega, rfl, fun m2 h2 => ?_⟩)⟩, put_of hd hlt, hc, h⟩
 rw [show (Loc.old q).at L = q from rfl, pushes_old hq] at h2
 unfold evOp
 rw [ho]
 simp only [hx, evLoad_var h2, hk, Option.map_some]
theorem fo_alloc {t : TypeId} {z : List AV} (hw : wantB l.toArray e o true) (hd : o.dst = some d) (hlt : d < nt) (ho : o.op = .alloc t) (hz : zeroCells P t = some z) (hok : z.all okCell = true) (hre : z.all (refLe (b.vars.length + Fs.length)) = true) (hL : b.vars.length = L) (hc : chk (masks l []) k true (.new Fs.length) W)
  (h : FOps P call nt l L (k + 1) r ((d, .ptr (L + Fs.length) 0) :: e) (b.pushes (Fs ++ [z])) ((k, true, .new Fs.length) :: W) K) : FOps P call nt l L k (o :: r) e (b.pushes Fs) W K := by
 refine ⟨_, _, _, some (true, .new Fs.length), .inr ⟨hw, .inr (.inr (.inl ⟨t, z, Fs.length, rfl, by rw [pushes_len, hL], ho, hz, hok, by rw [pushes_len]; exact hre, rfl, rfl⟩))⟩, put_of hd hlt, hc, ?_⟩
 rw [pushes_push, pushes_len, hL]
 exact h
theorem fo_store {t : TypeId} {x y : Operand} {i : Nat} {v : AV} {z cs : List AV} (hw : wantB l.toArray e o true) (hd : o.dst = none) (ho : o.op = .store t x y) (hx : opd P e t x = .ptr (L + i) 0) (hy : opd P e t y = v) (hcs : cellsOf v = some cs) (ht : tSize P t = some cs.length) (hF : Fs[i]? = some z) (hl : z.length = cs.length) (hr : cs.all (refLe (L + i)) = true)
  (hL : b.vars.length = L) (hc : chk (masks l []) k true (.new i) W) (h : FOps P call nt l L (k + 1) r e (b.pushes (Fs.set i cs)) ((k, true, .new i) :: W) K) : FOps P call nt l L k (o :: r) e (b.pushes Fs) W K := by
 have hi : i < Fs.length := (List.getElem?_eq_some_iff.1 hF).1
 subst hL
 refine ⟨.v (.tuple #[]), _, _, some (true, .new i), .inr ⟨hw, .inr (.inr (.inr ⟨.new i, cs, rfl, trivial, by rw [pushes_len]; show b.vars.length + i < _; omega, rfl, fun m2 h2 => ?_⟩))⟩, put_none hd, hc, ?_⟩
 ·rw [show (Loc.new i).at b.vars.length = b.vars.length + i from rfl] at h2 ⊢
  rw [pushes_new, hF] at h2
  unfold evOp
  rw [ho]
  simp only [hx, hy]
  unfold evStore
  simp only [hcs, ht, h2]
  rw [if_pos ⟨trivial, by omega, hr⟩]
  have h9 : z.drop cs.length = [] := by rw [← hl]; simp
  unfold splice
  simp [h9, Mem.putv]
 ·rw [show (Loc.new i).at b.vars.length = b.vars.length + i from rfl, pushes_putn]
  exact h
end
end
section
section
variable {P : Program} {call : CallF} {nt : Nat} {l : List Oper} {L k : Nat} {o : Oper} {r : List Oper} {e : Env} {m : Mem} {W : List Ent} {K : Env → Mem → Prop} {a : AV} {d : Nat} {b : Mem} {Fs : List (List AV)}
theorem x_walk0 {φ₀ : Phi} {m₀ : Mem} {w₀ : World} (hm : P.follows .mixedOrders = true) (hC : CallOk P call) {id : Nat} {l2 : Option (List Nat)} {F : Objs} {Q : PostF} (hD : drawnS l = true)
  (h : FOps P call nt l m.vars.length 0 l e (m.pushes []) [] fun e' m' => ∀ e2, Ev.restr l2 e' = e2 → Q .normal e2 m' F) : XRuns P φ₀ m₀ w₀ nt (.region id l.toArray true) e m F Q := x_walk hm hC hD h
theorem fo_alloc0 {t : TypeId} {z : List AV} (hw : wantB l.toArray e o true) (hd : o.dst = some d) (hlt : d < nt) (ho : o.op = .alloc t) (hz : zeroCells P t = some z) (hok : z.all okCell = true) (hre : z.all (refLe (b.vars.length + 0)) = true) (hL : b.vars.length = L) (hc : chk (masks l []) k true (.new 0) W)
  (h : FOps P call nt l L (k + 1) r ((d, .ptr L 0) :: e) (b.pushes [z]) ((k, true, .new 0) :: W) K) : FOps P call nt l L k (o :: r) e (b.pushes []) W K := fo_alloc (Fs := []) hw hd hlt ho hz hok hre hL hc h
theorem fo_alloc1 {t : TypeId} {z0 z : List AV} (hw : wantB l.toArray e o true) (hd : o.dst = some d) (hlt : d < nt) (ho : o.op = .alloc t) (hz : zeroCells P t = some z) (hok : z.all okCell = true) (hre : z.all (refLe (b.vars.length + 1)) = true) (hL : b.vars.length = L) (hc : chk (masks l []) k true (.new 1) W)
  (h : FOps P call nt l L (k + 1) r ((d, .ptr (L + 1) 0) :: e) (b.pushes [z0, z]) ((k, true, .new 1) :: W) K) : FOps P call nt l L k (o :: r) e (b.pushes [z0]) W K := fo_alloc (Fs := [z0]) hw hd hlt ho hz hok hre hL hc h
theorem fo_alloc2 {t : TypeId} {z0 z1 z : List AV} (hw : wantB l.toArray e o true) (hd : o.dst = some d) (hlt : d < nt) (ho : o.op = .alloc t) (hz : zeroCells P t = some z) (hok : z.all okCell = true) (hre : z.all (refLe (b.vars.length + 2)) = true) (hL : b.vars.length = L) (hc : chk (masks l []) k true (.new 2) W)
  (h : FOps P call nt l L (k + 1) r ((d, .ptr (L + 2) 0) :: e) (b.pushes [z0, z1, z]) ((k, true, .new 2) :: W) K) : FOps P call nt l L k (o :: r) e (b.pushes [z0, z1]) W K := fo_alloc (Fs := [z0, z1]) hw hd hlt ho hz hok hre hL hc h
end
theorem cells_agg {r : List AV} (h : r.all okCell = true) : cellsOf (.agg r) = some r := if_pos h
theorem cells_v {x : AV} (h : okCell x = true) (hf : flat x = [x] := by rfl) : cellsOf x = some [x] := by unfold cellsOf; rw [hf]; simp [h]
theorem gof0 {A B : Prop} (k : B) (h : B → A := by intro k; (repeat (first | (refine' fo_n (want_of rfl) rfl (by decide) ?_ ?_; rotate_left 1; (focus (intro m2; simp only [go_sem, reduceIte, Nat.reduceEqDiff, reduceCtorEq, Int.reduceEq]; first | done | rfl))) | (refine' fo_n (want_yes rfl rfl (by simp only [Ev.get, reduceIte, Nat.reduceEqDiff]; first | done | rfl)) rfl (by decide) ?_ ?_; rotate_left 1; (focus (intro m2; simp only [go_sem, reduceIte, Nat.reduceEqDiff, reduceCtorEq, Int.reduceEq]; first | done | rfl))) | (refine' fo_load (want_of rfl) rfl (by decide) rfl ?_ ?_ (by first | rfl | simp only [Mem.putv, List.length_set]) (chk_of (by kernel_rfl)) ?_; rotate_left 3; (focus (simp only [go_sem, reduceIte, Nat.reduceEqDiff, reduceCtorEq, Int.reduceEq]; first | done | rfl)); (focus (simp only [go_sem, reduceIte, Nat.reduceEqDiff, reduceCtorEq, Int.reduceEq]; first | done | rfl))) | (refine' fo_load (want_yes rfl rfl (by simp only [Ev.get, reduceIte, Nat.reduceEqDiff]; first | done | rfl)) rfl (by decide) rfl ?_ ?_ (by first | rfl | simp only [Mem.putv, List.length_set]) (chk_of (by kernel_rfl)) ?_; rotate_left 3; (focus (simp only [go_sem, reduceIte, Nat.reduceEqDiff, reduceCtorEq, Int.reduceEq]; first | done | rfl)); (focus (simp only [go_sem, reduceIte, Nat.reduceEqDiff, reduceCtorEq, Int.reduceEq]; first | done | rfl))) | ((first | refine' fo_alloc0 (want_of rfl) rfl (by decide) rfl ?_ ?_ ?_ (by first | rfl | simp only [Mem.putv, List.length_set]) (chk_of (by kernel_rfl)) ?_ | refine' fo_alloc1 (want_of rfl) rfl (by decide) rfl ?_ ?_ ?_ (by first | rfl | simp only [Mem.putv, List.length_set]) (chk_of (by kernel_rfl)) ?_ | refine' fo_alloc2 (want_of rfl) rfl (by decide) rfl ?_ ?_ ?_ (by first | rfl | simp only [Mem.putv, List.length_set]) (chk_of (by kernel_rfl)) ?_); rotate_left 1; (focus (simp only [go_sem, reduceIte, Nat.reduceEqDiff, reduceCtorEq, Int.reduceEq]; first | done | rfl)); (focus rfl); (focus rfl)) | ((first | (refine' fo_store (i := 0) (want_of rfl) rfl rfl ?_ ?_ ?_ ?_ rfl ?_ ?_ (by first | rfl | simp only [Mem.putv, List.length_set]) (chk_of (by kernel_rfl)) ?_; rotate_left 2; (focus (simp only [go_sem, reduceIte, Nat.reduceEqDiff, reduceCtorEq, Int.reduceEq]; first | done | rfl))) | (refine' fo_store (i := 1) (want_of rfl) rfl rfl ?_ ?_ ?_ ?_ rfl ?_ ?_ (by first | rfl | simp only [Mem.putv, List.length_set]) (chk_of (by kernel_rfl)) ?_; rotate_left 2; (focus (simp only [go_sem, reduceIte, Nat.reduceEqDiff, reduceCtorEq, Int.reduceEq]; first | done | rfl))) | (refine' fo_store (i := 2) (want_of rfl) rfl rfl ?_ ?_ ?_ ?_ rfl ?_ ?_ (by first | rfl | simp only [Mem.putv, List.length_set]) (chk_of (by kernel_rfl)) ?_; rotate_left 2; (focus (simp only [go_sem, reduceIte, Nat.reduceEqDiff, reduceCtorEq, Int.reduceEq]; first | done | rfl)))); (focus (simp only [go_sem, reduceIte, Nat.reduceEqDiff, reduceCtorEq, Int.reduceEq]; first | done | rfl)); (focus (first | exact cells_agg rfl | exact cells_v rfl | rfl)); (focus (simp only [go_sem, reduceIte, Nat.reduceEqDiff, reduceCtorEq, Int.reduceEq]; first | done | rfl)); (focus rfl); (focus rfl)) | refine fo_no (want_no rfl rfl (by simp only [Ev.get, reduceIte, Nat.reduceEqDiff]; first | done | rfl) (by decide)) rfl (by decide) ?_ | refine fo_no (want_off rfl rfl rfl) rfl (by decide) ?_ | (refine fo_nil (by simp only [List.set_cons_zero, List.set_cons_succ, Mem.pushes]; rfl) ?_; intro e2 h2; simp only [go_sem, reduceIte, Nat.reduceEqDiff] at h2; subst h2))); exact k) : A := h k
theorem gof1 {A B F1 : Prop} (f1 : F1) (k : B) (h : F1 → B → A := by intro f1 k; (repeat (first | (refine' fo_n (want_of rfl) rfl (by decide) ?_ ?_; rotate_left 1; (focus (intro m2; simp only [go_sem, reduceIte, Nat.reduceEqDiff, reduceCtorEq, Int.reduceEq, f1]; first | done | rfl))) | (refine' fo_n (want_yes rfl rfl (by simp only [Ev.get, reduceIte, Nat.reduceEqDiff, f1]; first | done | rfl)) rfl (by decide) ?_ ?_; rotate_left 1; (focus (intro m2; simp only [go_sem, reduceIte, Nat.reduceEqDiff, reduceCtorEq, Int.reduceEq, f1]; first | done | rfl))) | (refine' fo_load (want_of rfl) rfl (by decide) rfl ?_ ?_ (by first | rfl | simp only [Mem.putv, List.length_set]) (chk_of (by kernel_rfl)) ?_; rotate_left 3; (focus (simp only [go_sem, reduceIte, Nat.reduceEqDiff, reduceCtorEq, Int.reduceEq, f1]; first | done | rfl)); (focus (simp only [go_sem, reduceIte, Nat.reduceEqDiff, reduceCtorEq, Int.reduceEq, f1]; first | done | rfl))) | (refine' fo_load (want_yes rfl rfl (by simp only [Ev.get, reduceIte, Nat.reduceEqDiff, f1]; first | done | rfl)) rfl (by decide) rfl ?_ ?_ (by first | rfl | simp only [Mem.putv, List.length_set]) (chk_of (by kernel_rfl)) ?_; rotate_left 3; (focus (simp only [go_sem, reduceIte, Nat.reduceEqDiff, reduceCtorEq, Int.reduceEq, f1]; first | done | rfl)); (focus (simp only [go_sem, reduceIte, Nat.reduceEqDiff, reduceCtorEq, Int.reduceEq, f1]; first | done | rfl))) | ((first | refine' fo_alloc0 (want_of rfl) rfl (by decide) rfl ?_ ?_ ?_ (by first | rfl | simp only [Mem.putv, List.length_set]) (chk_of (by kernel_rfl)) ?_ | refine' fo_alloc1 (want_of rfl) rfl (by decide) rfl ?_ ?_ ?_ (by first | rfl | simp only [Mem.putv, List.length_set]) (chk_of (by kernel_rfl)) ?_ | refine' fo_alloc2 (want_of rfl) rfl (by decide) rfl ?_ ?_ ?_ (by first | rfl | simp only [Mem.putv, List.length_set]) (chk_of (by kernel_rfl)) ?_); rotate_left 1; (focus (simp only [go_sem, reduceIte, Nat.reduceEqDiff, reduceCtorEq, Int.reduceEq, f1]; first | done | rfl)); (focus rfl); (focus rfl)) | ((first | (refine' fo_store (i := 0) (want_of rfl) rfl rfl ?_ ?_ ?_ ?_ rfl ?_ ?_ (by first | rfl | simp only [Mem.putv, List.length_set]) (chk_of (by kernel_rfl)) ?_; rotate_left 2; (focus (simp only [go_sem, reduceIte, Nat.reduceEqDiff, reduceCtorEq, Int.reduceEq, f1]; first | done | rfl))) | (refine' fo_store (i := 1) (want_of rfl) rfl rfl ?_ ?_ ?_ ?_ rfl ?_ ?_ (by first | rfl | simp only [Mem.putv, List.length_set]) (chk_of (by kernel_rfl)) ?_; rotate_left 2; (focus (simp only [go_sem, reduceIte, Nat.reduceEqDiff, reduceCtorEq, Int.reduceEq, f1]; first | done | rfl))) | (refine' fo_store (i := 2) (want_of rfl) rfl rfl ?_ ?_ ?_ ?_ rfl ?_ ?_ (by first | rfl | simp only [Mem.putv, List.length_set]) (chk_of (by kernel_rfl)) ?_; rotate_left 2; (focus (simp only [go_sem, reduceIte, Nat.reduceEqDiff, reduceCtorEq, Int.reduceEq, f1]; first | done | rfl)))); (focus (simp only [go_sem, reduceIte, Nat.reduceEqDiff, reduceCtorEq, Int.reduceEq, f1]; first | done | rfl)); (focus (first | exact cells_agg rfl | exact cells_v rfl | rfl)); (focus (simp only [go_sem, reduceIte, Nat.reduceEqDiff, reduceCtorEq, Int.reduceEq, f1]; first | done | rfl)); (focus rfl); (focus rfl)) | refine fo_no (want_no rfl rfl (by simp only [Ev.get, reduceIte, Nat.reduceEqDiff, f1]; first | done | rfl) (by decide)) rfl (by decide) ?_ | refine fo_no (want_off rfl rfl rfl) rfl (by decide) ?_ | (refine fo_nil (by simp only [List.set_cons_zero, List.set_cons_succ, Mem.pushes]; rfl) ?_; intro e2 h2; simp only [go_sem, reduceIte, Nat.reduceEqDiff] at h2; subst h2))); exact k) : A := h f1 k
end
end Go.Proofs.Ytmockbddhhmmeaa.Ev
