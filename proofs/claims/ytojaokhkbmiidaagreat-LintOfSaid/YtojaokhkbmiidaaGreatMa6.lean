/- Regions that draw their order: a memory for each set of what has come up. Sound where each operation, whenever it may come up, does to that memory what it does in the text's order. -/
import Derived.Test.YtojaokhkbmiidaaGreatMa5
import Derived.Test.YtojaokhkbmiidaaGreatMa4
namespace Go.Proofs.YtojaokhkbmiidaaGreat.Ev
open Go Go.Proofs
set_option maxRecDepth 10000
set_option maxHeartbeats 8000000
set_option linter.unusedVariables false
set_option linter.unusedSimpArgs false
section
/-- What an operation may do: what the evaluator says, or an allocation at whatever place is free. -/
def SOp (P : Program) (call : CallF) (e : Env) (m : Mem) (o : Oper) (a : AV) (m' : Mem) : Prop :=
 evOp P call e m o = some (a, m') ∨ ∃ t z p, o.op = .alloc t ∧ zeroCells P t = some z ∧ z.all okCell = true ∧ newVar m p z = some m' ∧ a = .ptr p 0
theorem sop_wp {P : Program} {call : CallF} (hC : CallOk P call) {φ : Phi} {m m' : Mem} {w : World} (hR : RM φ m w) {e : Env} {a : Act} (hE : EnvRep φ m w e a.tmps) {o : Oper} {av : AV} (h : SOp P call e m o av m')
  {K : Act → World → Prop} {Q : Exit → Act → World → Prop} (hK : ∀ x w' φ', RM φ' m' w' → Ext φ m w φ' m' w' → Rep φ' m' w' av x → K (a.put o.dst x) w') : o.wp P a w K Q := by
 rcases h with h | ⟨t, z, p, ho, hz, hok, hm, rfl⟩
 ·exact op_wp hC hR hE h hK
 ·obtain ⟨w', φ', h1, h2, h3, h4⟩ := alloc_sound (P := P) hR hz hok hm
  have hr : (execOp a.eval o).run P w = .ok (.value (.pointer (some ⟨w.heap.size, 0, none⟩))) w' := by
   unfold execOp
   rw [ho]
   exact fin_value h1
  unfold Oper.wp
  rw [hr, Oper.upon_value]
  exact hK _ w' φ' h2 h3 h4
structure DrawnS (l : List Oper) : Prop where
 edge : ∀ (j : Nat) o, l[j]? = some o → ∀ e ∈ o.after.toList, Region.binds .any e = true → e.on < j
 dst : ∀ (i j : Nat) oi oj, i < j → l[i]? = some oi → l[j]? = some oj → ∀ d, oi.dst = some d → oj.dst ≠ some d
 apart : ∀ (i j : Nat) oi oj, i < j → l[i]? = some oi → l[j]? = some oj → ((masks l []).getD j 0).testBit i = true ∨ oi.apart l.toArray oj = true
def drawnS (l : List Oper) : Bool :=
 let ms := masks l []
 (List.range l.length).all fun j =>
  ((l.getD j default).after.all fun e => !Region.binds .any e || decide (e.on < j)) &&
  (List.range j).all fun i =>
   ((l.getD i default).dst.isNone || (l.getD i default).dst != (l.getD j default).dst) &&
   ((ms.getD j 0).testBit i || (l.getD i default).apart l.toArray (l.getD j default))
theorem drawnS_of {l : List Oper} (h : drawnS l = true) : DrawnS l := by
 have gd : ∀ (j : Nat) o, l[j]? = some o → l.getD j default = o := fun j o ho => by rw [List.getD_eq_getElem?_getD, ho]; rfl
 have lt : ∀ (j : Nat) o, l[j]? = some o → j < l.length := fun j o ho => (List.getElem?_eq_some_iff.mp ho).1
 simp only [drawnS, List.all_eq_true, List.mem_range, Bool.and_eq_true] at h
 refine ⟨fun j o ho e he hb => ?_, fun i j oi oj hij hi hj d hd => ?_, fun i j oi oj hij hi hj => ?_⟩
 ·have h1 := (h j (lt j o ho)).1
  rw [gd j o ho, Array.all_eq_true'] at h1
  have h2 := h1 e (by simpa using he)
  simpa [hb] using h2
 ·have h1 := ((h j (lt j oj hj)).2 i hij).1
  rw [gd j oj hj, gd i oi hi, hd] at h1
  intro e
  rw [e] at h1
  simp at h1
 ·have h1 := ((h j (lt j oj hj)).2 i hij).2
  rw [gd j oj hj, gd i oi hi, Bool.or_eq_true] at h1
  exact h1
def ins (S : Nat → Bool) (i : Nat) : Nat → Bool := fun j => decide (j = i) || S j
/-- All that must be there before what is there. -/
def ClosedS (l : List Oper) (S : Nat → Bool) : Prop := ∀ (j : Nat) o, l[j]? = some o → S j = true → ∀ e ∈ o.after.toList, Region.binds .any e = true → S e.on = true
section
variable {P : Program} {call : CallF} {l : List Oper} {nt : Nat} {E : Nat → Env} {A : Nat → AV} {MS : (Nat → Bool) → Mem}
section
variable (hD : DrawnS l) (hT : ∀ (k : Nat) o, l[k]? = some o → putAV nt o.dst (A k) (E k) = some (E (k + 1)))
include hT
theorem gets_step {k : Nat} {o : Oper} (h : l[k]? = some o) (t : Nat) : get (E (k + 1)) t = if o.dst = some t then A k else get (E k) t := by
 have hp := hT k o h
 unfold putAV at hp
 split at hp
 ·rename_i hd
  simp only [Option.some.injEq] at hp
  rw [← hp, if_neg (by rw [hd]; simp)]
 ·rename_i d hd
  split at hp
  ·simp only [Option.some.injEq] at hp
   rw [← hp, hd]
   simp [Ev.get]
  ·cases hp
theorem gets_miss {t : Nat} : ∀ k, k ≤ l.length → (∀ (j : Nat) o, j < k → l[j]? = some o → o.dst ≠ some t) → get (E k) t = get (E 0) t
 | 0, _, _ => rfl
 | k + 1, hk, h => by
  have ho : l[k]? = some l[k] := List.getElem?_eq_getElem (by omega)
  rw [gets_step hT ho, if_neg (h k _ (by omega) ho)]
  exact gets_miss k (by omega) fun j o hj => h j o (by omega)
include hD
theorem gets_hit {t j : Nat} {o : Oper} (hj : l[j]? = some o) (hd : o.dst = some t) : ∀ k, k ≤ l.length → j < k → get (E k) t = A j
 | 0, _, h => by omega
 | k + 1, hk, h => by
  have ho : l[k]? = some l[k] := List.getElem?_eq_getElem (by omega)
  by_cases e : j = k
  ·subst e
   rw [hj] at ho
   rw [gets_step hT hj, if_pos hd]
  ·rw [gets_step hT ho, if_neg (hD.dst j k o _ (by omega) hj ho t hd)]
   exact gets_hit hj hd k (by omega) (by omega)
end
structure InvS (l : List Oper) (nt : Nat) (MS : (Nat → Bool) → Mem) (A : Nat → AV) (e : Env) (φ₀ : Phi) (m₀ : Mem) (w₀ : World) (S : Nat → Bool) (a : Act) (w : World) : Prop where
 st : ∃ φ, RM φ (MS S) w ∧ Ext φ₀ m₀ w₀ φ (MS S) w ∧ Slots l (fun j => S j = true) A e φ (MS S) w a.tmps
 size : nt ≤ a.tmps.size
 defers : a.defers = []
 closed : ClosedS l S
variable {φ₀ : Phi} {m₀ : Mem} {w₀ : World}
theorem invS_step (hC : CallOk P call) (hD : DrawnS l) (hT : ∀ (k : Nat) o, l[k]? = some o → putAV nt o.dst (A k) (E k) = some (E (k + 1)))
  (hW : ∀ (k : Nat) o, l[k]? = some o → ∃ b, wantedAV l.toArray (E k) o = some b ∧ (b = false → A k = .v (.tuple #[])))
  (hM : ∀ S (i : Nat) o, l[i]? = some o → ClosedS l S → S i = false → (∀ e ∈ o.after.toList, Region.binds .any e = true → S e.on = true) →
   (wantedAV l.toArray (E i) o = some true → SOp P call (E i) (MS S) o (A i) (MS (ins S i))) ∧ (wantedAV l.toArray (E i) o = some false → MS (ins S i) = MS S))
  {S : Nat → Bool} {a : Act} {w : World} (hI : InvS l nt MS A (E 0) φ₀ m₀ w₀ S a w) {i : Nat} {o : Oper} (ho : l[i]? = some o) (hni : S i = false)
  (hready : ∀ e ∈ o.after.toList, Region.binds .any e = true → S e.on = true) {K : Act → World → Prop} {Q : Exit → Act → World → Prop}
  (hK : ∀ a' w', InvS l nt MS A (E 0) φ₀ m₀ w₀ (ins S i) a' w' → K a' w') : wpOp P l.toArray Q i K a w := by
 obtain ⟨⟨φ, hR, hX, hS⟩, hsize, hdef, hclosed⟩ := hI
 have hil : i < l.length := (List.getElem?_eq_some_iff.mp ho).1
 have hni' : ¬ S i = true := by rw [hni]; simp
 have hlook : ∀ t, t ∈ o.looksAt l.toArray → Rep φ (MS S) w (get (E i) t) (a.tmps.getD t undef) := by
  intro t ht
  by_cases hx : ∃ (j : Nat) (oj : Oper), j < i ∧ l[j]? = some oj ∧ oj.dst = some t
  ·obtain ⟨j, oj, hji, hj, hd⟩ := hx
   rw [gets_hit hD hT hj hd i (by omega) hji]
   refine (hS t).1 j oj hj hd ?_
   rcases hD.apart j i oj o hji hj ho with hb | hap
   ·exact mask_listed (S := fun j => S j = true) hD.edge hclosed i o ho hready j hb
   ·exact absurd ht ((Oper.apart_spec hap).1 t hd)
  ·rw [gets_miss hT i (by omega) fun j oj hji hj hd => hx ⟨j, oj, hji, hj, hd⟩]
   refine (hS t).2 fun j oj hj hd hl => ?_
   rcases Nat.lt_trichotomy j i with hlt | heq | hgt
   ·exact hx ⟨j, oj, hlt, hj, hd⟩
   ·subst heq; exact hni' hl
   ·rcases hD.apart i j o oj hgt ho hj with hb | hap
    ·exact hni' (mask_listed (S := fun j => S j = true) hD.edge hclosed j oj hj (hclosed j oj hj hl) i hb)
    ·exact absurd ht ((Oper.apart_spec hap).2.2 t hd)
 have hput := hT i o ho
 have after : ∀ x w' φ', RM φ' (MS (ins S i)) w' → Ext φ (MS S) w φ' (MS (ins S i)) w' → Rep φ' (MS (ins S i)) w' (A i) x → InvS l nt MS A (E 0) φ₀ m₀ w₀ (ins S i) (a.put o.dst x) w' := by
  intro x w' φ' g1 g2 g3
  refine ⟨⟨φ', g1, hX.trans g2, fun t => ⟨fun j oj hj hd hl => ?_, fun hno => ?_⟩⟩, by rw [put_size]; exact hsize, by rw [put_defers]; exact hdef, fun j oj hj hl e he hb => ?_⟩
  ·by_cases e : j = i
   ·subst e
    rw [hj] at ho
    cases ho
    rw [put_same hd hput hsize]
    exact g3
   ·have hne : o.dst ≠ some t := by
     rcases Nat.lt_or_gt_of_ne e with h | h
     ·exact hD.dst j i oj o h hj ho t hd
     ·exact fun hod => hD.dst i j o oj h ho hj t hod hd
    rw [put_other hne]
    have hl' : S j = true := by simpa [ins, e] using hl
    exact ((hS t).1 j oj hj hd hl').mono g2
  ·have hne : o.dst ≠ some t := fun hd => hno i o ho hd (by simp [ins])
   rw [put_other hne]
   exact ((hS t).2 fun j oj hj hd hl => hno j oj hj hd (by simp [ins, hl])).mono g2
  ·by_cases h : j = i
   ·subst h
    rw [hj] at ho
    cases ho
    simp [ins, hready e he hb]
   ·have hl' : S j = true := by simpa [ins, h] using hl
    simp [ins, hclosed j oj hj hl' e he hb]
 let E' : Env := (o.looksAt l.toArray).map fun s => (s, get (E i) s)
 have hE' : EnvRep φ (MS S) w E' a.tmps := by
  intro t
  rw [get_restr]
  split
  ·exact hlook t ‹_›
  ·exact .junk _
 have hget : ∀ t, t ∈ o.looksAt l.toArray → get E' t = get (E i) t := fun t ht => by rw [get_restr, if_pos ht]
 have hwant : wantedAV l.toArray E' o = wantedAV l.toArray (E i) o := by
  unfold wantedAV
  cases hg : o.guard with
  | none => rfl
  | some g =>
   obtain ⟨j, want⟩ := g
   simp only []
   cases hj : (l.toArray[j]?).bind (·.dst) with
   | none => rfl
   | some d =>
    simp only []
    rw [hget d (by simp [Oper.looksAt, hg]; right; simpa using hj)]
 have hop : ∀ m, evOp P call E' m o = evOp P call (E i) m o := by
  intro m
  refine evOp_congr fun x hx t => ?_
  cases x with
  | tmp s => exact hget s (by simp only [Oper.looksAt, List.mem_append, List.mem_filterMap]; exact .inl ⟨_, hx, rfl⟩)
  | const v => rfl
  | func f => rfl
  | global g => rfl
 unfold wpOp
 rw [List.getElem?_toArray, ho]
 simp only []
 obtain ⟨h1, h2⟩ := hM S i o ho hclosed hni hready
 obtain ⟨b, hb, hA⟩ := hW i o ho
 cases b with
 | true =>
  rw [wanted_sound hE' (hwant.trans hb), if_pos rfl]
  left
  refine sop_wp hC hR hE' ?_ fun x w' φ' g1 g2 g3 => hK _ _ (after x w' φ' g1 g2 g3)
  rcases h1 hb with h | h
  ·exact .inl (by rw [hop]; exact h)
  ·exact .inr h
 | false =>
  rw [wanted_sound hE' (hwant.trans hb), if_neg (by simp)]
  have e := h2 hb
  refine hK _ _ (after undef w φ ?_ ?_ ?_)
  ·rw [e]; exact hR
  ·rw [e]; exact Ext.refl ..
  ·rw [hA rfl]; exact .v _
theorem wpAny_invS (hC : CallOk P call) (hD : DrawnS l) (hT : ∀ (k : Nat) o, l[k]? = some o → putAV nt o.dst (A k) (E k) = some (E (k + 1)))
  (hW : ∀ (k : Nat) o, l[k]? = some o → ∃ b, wantedAV l.toArray (E k) o = some b ∧ (b = false → A k = .v (.tuple #[])))
  (hM : ∀ S (i : Nat) o, l[i]? = some o → ClosedS l S → S i = false → (∀ e ∈ o.after.toList, Region.binds .any e = true → S e.on = true) →
   (wantedAV l.toArray (E i) o = some true → SOp P call (E i) (MS S) o (A i) (MS (ins S i))) ∧ (wantedAV l.toArray (E i) o = some false → MS (ins S i) = MS S))
  {m' : Mem} (hend : ∀ S, (∀ j, j < l.length → S j = true) → MS S = m') {Q : Exit → Act → World → Prop} (hQ : ∀ a w, St φ₀ m₀ w₀ nt (E l.length) m' a w → Q .normal a w) :
  ∀ (n : Nat) (listed : Array Bool) (a : Act) (w : World), listed.size = l.length → unl (fun j => listed.getD j false) l.length ≤ n →
   InvS l nt MS A (E 0) φ₀ m₀ w₀ (fun j => listed.getD j false) a w → wpAny P .any l.toArray Q n listed a w := by
 have done : ∀ (listed : Array Bool) a w, (∀ j, j < l.length → listed.getD j false = true) → InvS l nt MS A (E 0) φ₀ m₀ w₀ (fun j => listed.getD j false) a w → Q .normal a w := by
  intro listed a w hall hI
  obtain ⟨⟨φ, hR, hX, hS⟩, hsize, hdef, hclosed⟩ := hI
  have hMe := hend _ hall
  rw [hMe] at hR hX hS
  refine hQ a w ⟨φ, hR, hX, fun t => ?_, hsize, hdef⟩
  by_cases hx : ∃ (j : Nat) (oj : Oper), l[j]? = some oj ∧ oj.dst = some t
  ·obtain ⟨j, oj, hj, hd⟩ := hx
   have hjl : j < l.length := (List.getElem?_eq_some_iff.mp hj).1
   rw [gets_hit hD hT hj hd l.length (Nat.le_refl _) hjl]
   exact (hS t).1 j oj hj hd (hall j hjl)
  ·rw [gets_miss hT l.length (Nat.le_refl _) fun j oj hji hj hd => hx ⟨j, oj, hj, hd⟩]
   exact (hS t).2 fun j oj hj hd => absurd ⟨j, oj, hj, hd⟩ hx
 have rdy : ∀ (listed : Array Bool) i, listed.size = l.length → (i ∈ Region.ready .any l.toArray listed ↔ ∃ o, l[i]? = some o ∧ listed.getD i false = false ∧ ∀ e ∈ o.after.toList, Region.binds .any e = true → listed.getD e.on false = true) := by
  intro listed i hs
  have gd : ∀ j, j < l.length → listed.getD j true = listed.getD j false := by
   intro j hj
   simp [Array.getD, hs, hj]
  rw [mem_ready]
  constructor
  ·rintro ⟨h1, o, h2, h3⟩
   have ho : l[i]? = some o := by simpa using h2
   exact ⟨o, ho, by rw [← gd i (List.getElem?_eq_some_iff.mp ho).1]; exact h1, fun e he hb => h3 e (by simpa using he) hb⟩
  ·rintro ⟨o, ho, h1, h3⟩
   exact ⟨by rw [gd i (List.getElem?_eq_some_iff.mp ho).1]; exact h1, o, by simpa using ho, fun e he hb => h3 e (by simpa using he) hb⟩
 have noneReady : ∀ (listed : Array Bool), listed.size = l.length → Region.ready .any l.toArray listed = [] → ∀ j, j < l.length → listed.getD j false = true := by
  intro listed hs hn j
  induction j using Nat.strongRecOn with
  | _ j ih =>
   intro hj
   have ho : l[j]? = some l[j] := List.getElem?_eq_getElem hj
   cases hl : listed.getD j false with
   | true => rfl
   | false =>
    have : j ∈ Region.ready .any l.toArray listed := (rdy listed j hs).mpr ⟨_, ho, hl, fun e he hb => ih e.on (hD.edge j _ ho e he hb) (Nat.lt_trans (hD.edge j _ ho e he hb) hj)⟩
    rw [hn] at this
    cases this
 intro n
 induction n with
 | zero =>
  intro listed a w hs hu hI
  have hall := unl_zero l.length (by omega : unl (fun j => listed.getD j false) l.length = 0)
  refine ⟨?_, done listed a w hall hI⟩
  cases hr : Region.ready .any l.toArray listed with
  | nil => rfl
  | cons i r =>
   obtain ⟨o, ho, h2, _⟩ := (rdy listed i hs).mp (by rw [hr]; simp)
   rw [hall i (List.getElem?_eq_some_iff.mp ho).1] at h2
   cases h2
 | succ n ih =>
  intro listed a w hs hu hI
  refine ⟨fun hn => done listed a w (noneReady listed hs hn) hI, fun i hi => ?_⟩
  obtain ⟨o, ho, h2, h3⟩ := (rdy listed i hs).mp hi
  have hil : i < l.length := (List.getElem?_eq_some_iff.mp ho).1
  have hset : ∀ j, (listed.setIfInBounds i true).getD j false = (decide (j = i) || listed.getD j false) := by
   intro j
   by_cases e : j = i
   ·subst e; simp [Array.getD, hs, hil]
   ·have e' : i ≠ j := fun h => e h.symm
    simp only [Array.getD_eq_getD_getElem?, Array.getElem?_setIfInBounds_ne e', e, decide_false, Bool.false_or]
  refine invS_step hC hD hT hW hM hI ho h2 h3 fun a' w' hI' => ih _ a' w' (by simpa using hs) ?_ ?_
  ·have := unl_set (f := fun j => listed.getD j false) (g := fun j => (listed.setIfInBounds i true).getD j false) h2 hset l.length
   rw [if_pos hil] at this
   omega
  ·have e : (fun j => (listed.setIfInBounds i true).getD j false) = ins (fun j => listed.getD j false) i := by
    funext j
    rw [hset j]
    rfl
   rw [e]
   exact hI'
theorem same_ext {φ : Phi} {m m' : Mem} {w w' : World} (hv : ∀ r, m.var r = m'.var r) (ht : m.toks = m'.toks) (h : Ext φ m w φ m w') : Ext φ m w φ m' w' where
 os := h.os
 tape := h.tape
 output := h.output
 size := h.size
 im := h.im
 vb r cs hc := ⟨rfl, cs, by rw [← hv]; exact hc, rfl⟩
 tk id v hc := ⟨v, by rw [← ht]; exact hc, Nat.le_refl _, fun _ => rfl⟩
 blk := h.blk
 own b hb := h.own b (by
  rcases hb with ⟨r, cs, h1, h2⟩ | ⟨id, s, e, h1, h2, h3⟩
  ·exact .inl ⟨r, cs, by rw [hv]; exact h1, h2⟩
  ·exact .inr ⟨id, s, e, by rw [ht]; exact h1, h2, h3⟩)
theorem same_rm {φ : Phi} {m m' : Mem} {w : World} (hv : ∀ r, m.var r = m'.var r) (ht : m.toks = m'.toks) (h : RM φ m w) : RM φ m' w where
 var r cs hc := by
  obtain ⟨arr, T, h1, h2, h3⟩ := h.var r cs (by rw [hv]; exact hc)
  exact ⟨arr, T, h1, h2.mono (same_ext hv ht (Ext.refl ..)), h3⟩
 inj r r' cs cs' h1 h2 := h.inj r r' cs cs' (by rw [hv]; exact h1) (by rw [hv]; exact h2)
 vim r cs o h1 := h.vim r cs o (by rw [hv]; exact h1)
 tok id b s e h1 h2 h3 := by
  obtain ⟨arr, T, g1, g2, g3, g4, g5⟩ := h.tok id b s e (by rw [ht]; exact h1) h2 h3
  exact ⟨arr, T, g1, g2, g3, fun r cs hc => g4 r cs (by rw [hv]; exact hc), g5⟩
 tinj id id' b s e s' e' h1 h2 := h.tinj id id' b s e s' e' (by rw [ht]; exact h1) (by rw [ht]; exact h2)
 imlt := h.imlt
/-- Such a region, in a walk. -/
theorem x_sets (hm : P.follows .mixedOrders = true) (hC : CallOk P call) {id : Nat} {l2 : Option (List Nat)} {F : Objs} {Q : PostF} {e : Env} {m m' : Mem} (hD : drawnS l = true)
  (hE0 : E 0 = e) (hM0 : ∀ r, m.var r = (MS fun _ => false).var r) (hM1 : m.toks = (MS fun _ => false).toks) (hT : ∀ (k : Nat) o, l[k]? = some o → putAV nt o.dst (A k) (E k) = some (E (k + 1)))
  (hW : ∀ (k : Nat) o, l[k]? = some o → ∃ b, wantedAV l.toArray (E k) o = some b ∧ (b = false → A k = .v (.tuple #[])))
  (hM : ∀ S (i : Nat) o, l[i]? = some o → ClosedS l S → S i = false → (∀ e ∈ o.after.toList, Region.binds .any e = true → S e.on = true) →
   (wantedAV l.toArray (E i) o = some true → SOp P call (E i) (MS S) o (A i) (MS (ins S i))) ∧ (wantedAV l.toArray (E i) o = some false → MS (ins S i) = MS S))
  (hend : ∀ S, (∀ j, j < l.length → S j = true) → MS S = m') (hQ : ∀ e2, Ev.restr l2 (E l.length) = e2 → Q .normal e2 m' F) : XRuns P φ₀ m₀ w₀ nt (.region id l.toArray true) e m F Q := fun a w hs => by
 obtain ⟨φ, hRM, hX, hE, hn, hdf, hF⟩ := hs
 have hx := drew_ext φ m w
 have key := wpAny_invS (φ₀ := φ) (m₀ := m) (w₀ := w) (Q := EndsF φ₀ m₀ w₀ nt Q) hC (drawnS_of hD) hT hW hM hend (fun a' w' hst => by
  obtain ⟨φ', h1, h2, h3, h4, h5⟩ := hst
  exact ⟨.normal, _, m', F, rfl, ⟨φ', h1, hX.trans h2, h3.restr l2, h4, h5, objs_ext hF h2⟩, hQ _ rfl⟩)
  l.length (Array.replicate l.length false) a { w with drawn := w.drawn + 1 } (by simp) (unl_le ..)
 have no : ∀ j, (Array.replicate l.length false).getD j false = false := by
  intro j
  simp [Array.getD]
 have e0 : (fun j => (Array.replicate l.length false).getD j false) = fun _ => false := by funext j; exact no j
 rw [e0] at key
 refine wp_region_any hm ?_
 have hrm := same_rm hM0 hM1 (drew_rm hRM)
 have hxx := same_ext hM0 hM1 hx
 have hsl : Slots l (fun j => (fun _ : Nat => false) j = true) A (E 0) φ (MS fun _ => false) { w with drawn := w.drawn + 1 } a.tmps := fun t =>
  ⟨fun j o _ _ hl => absurd hl (by simp), fun _ => by rw [hE0]; exact (hE t).mono hxx⟩
 have := key ⟨⟨φ, hrm, hxx, hsl⟩, hn, hdf, fun j o _ hl => absurd hl (by simp)⟩
 simpa using this
/-! ### where nothing is guarded -/
def envOf (l : List Oper) (A : Nat → AV) (e : Env) : Nat → Env
 | 0 => e
 | k + 1 =>
  match (l[k]?).bind (·.dst) with
  | some d => (d, A k) :: envOf l A e k
  | none => envOf l A e k
def freeB (l : List Oper) (nt : Nat) : Bool := l.all fun o => o.guard.isNone && match o.dst with | some d => decide (d < nt) | none => true
theorem x_sets0 (hm : P.follows .mixedOrders = true) (hC : CallOk P call) {id : Nat} {l2 : Option (List Nat)} {F : Objs} {Q : PostF} {e : Env} {m m' : Mem} (hD : drawnS l = true) (hf : freeB l nt = true) (A : Nat → AV) (MS : (Nat → Bool) → Mem)
  (hM0 : ∀ r, m.var r = (MS fun _ => false).var r) (hM1 : m.toks = (MS fun _ => false).toks)
  (hM : ∀ S (i : Nat) o, l[i]? = some o → ClosedS l S → S i = false → (∀ e ∈ o.after.toList, Region.binds .any e = true → S e.on = true) → SOp P call (envOf l A e i) (MS S) o (A i) (MS (ins S i)))
  (hend : ∀ S, (∀ j, j < l.length → S j = true) → MS S = m') (hQ : ∀ e2, Ev.restr l2 (envOf l A e l.length) = e2 → Q .normal e2 m' F) : XRuns P φ₀ m₀ w₀ nt (.region id l.toArray true) e m F Q := by
 have hfr : ∀ (k : Nat) o, l[k]? = some o → o.guard = none ∧ ∀ d, o.dst = some d → d < nt := by
  intro k o ho
  have := List.all_eq_true.1 hf o (List.mem_of_getElem? ho)
  simp only [Bool.and_eq_true, Option.isNone_iff_eq_none] at this
  refine ⟨this.1, fun d hd => ?_⟩
  have h2 := this.2
  rw [hd] at h2
  simpa using h2
 refine x_sets (E := envOf l A e) (A := A) (MS := MS) hm hC hD rfl hM0 hM1 (fun k o ho => ?_) (fun k o ho => ⟨true, ?_, fun h => by cases h⟩) (fun S i o ho h1 h2 h3 => ⟨fun _ => hM S i o ho h1 h2 h3, fun hw => ?_⟩) hend hQ
 ·show putAV nt o.dst (A k) _ = some (match (l[k]?).bind (·.dst) with | some d => (d, A k) :: envOf l A e k | none => envOf l A e k)
  rw [ho]
  simp only [Option.bind_some]
  cases hd : o.dst with
  | none => rfl
  | some d => exact putAV_some ((hfr k o ho).2 d hd) _ _
 ·unfold wantedAV
  rw [(hfr k o ho).1]
 ·unfold wantedAV at hw
  rw [(hfr i o ho).1] at hw
  cases hw
end
end
section
/-! ### are two things the same? (where that can be told) -/
def both : Option Bool → Option Bool → Option Bool
 | some false, _ => some false
 | some true, q => q
 | none, some false => some false
 | none, _ => none
theorem both_true {p q : Option Bool} (h : both p q = some true) : p = some true ∧ q = some true := by
 unfold both at h
 split at h
 ·cases h
 ·exact ⟨rfl, h⟩
 ·cases h
 ·cases h
theorem both_false {p q : Option Bool} (h : both p q = some false) : p = some false ∨ q = some false := by
 unfold both at h
 split at h
 ·exact .inl rfl
 ·exact .inr h
 ·exact .inr rfl
 ·cases h
def valQ : Value → Value → Option Bool
 | .int k a, .int k' b => some (decide (k = k') && decide (a = b))
 | .bool a, .bool b => some (decide (a = b))
 | .string a, .string b => some (decide (a = b))
 | _, _ => none
theorem valQ_spec {x y : Value} {b : Bool} (h : valQ x y = some b) : b = true ↔ x = y := by
 unfold valQ at h
 split at h
 ·cases h; simp
 ·cases h; simp
 ·cases h; simp
 ·cases h
def listQ {α : Type} (q : α → α → Option Bool) : List α → List α → Option Bool
 | [], [] => some true
 | a :: as, b :: bs => both (q a b) (listQ q as bs)
 | _, _ => some false
theorem listQ_spec {α : Type} {q : α → α → Option Bool} (hq : ∀ a b r, q a b = some r → (r = true ↔ a = b)) : ∀ {l l2 : List α} {r : Bool}, listQ q l l2 = some r → (r = true ↔ l = l2)
 | [], [], r, h => by cases h; simp
 | a :: l, b :: l2, r, h => by
  unfold listQ at h
  cases r with
  | true =>
   obtain ⟨h1, h2⟩ := both_true h
   simp [(hq a b _ h1).1 rfl, (listQ_spec hq h2).1 rfl]
  | false =>
   simp only [Bool.false_eq_true, false_iff, List.cons.injEq, not_and]
   rintro rfl rfl
   rcases both_false h with h1 | h1
   ·exact absurd ((hq a a _ h1).2 rfl) (by simp)
   ·exact absurd ((listQ_spec hq h1).2 rfl) (by simp)
 | [], _ :: _, r, h => by cases h; simp
 | _ :: _, [], r, h => by cases h; simp
def avQ : Nat → AV → AV → Option Bool
 | 0, _, _ => none
 | d + 1, a, b =>
  match a, b with
  | .junk, .junk => some true
  | .v x, .v y => valQ x y
  | .agg x, .agg y => listQ (avQ d) x y
  | .lst g s x, .lst g' s' y => both (some (decide (g = g') && decide (s = s'))) (listQ (listQ (avQ d)) x y)
  | .ptr r o, .ptr r' o' => some (decide (r = r') && decide (o = o'))
  | .fn (.func f) x y, .fn (.func f') x' y' => both (some (decide (f = f'))) (both (listQ (avQ d) x x') (listQ (avQ d) y y'))
  | .v _, .fn _ _ _ => some false
  | .fn _ _ _, .v _ => some false
  | .v _, .lst _ _ _ => some false
  | .lst _ _ _, .v _ => some false
  | .v _, .ptr _ _ => some false
  | .ptr _ _, .v _ => some false
  | _, _ => none
theorem avQ_spec : ∀ (d : Nat) (a b : AV) (r : Bool), avQ d a b = some r → (r = true ↔ a = b)
 | 0, a, b, r, h => by cases h
 | d + 1, a, b, r, h => by
  unfold avQ at h
  split at h
  ·cases h; simp
  ·rename_i x y
   have := valQ_spec h
   simp [this]
  ·rename_i x y
   have := listQ_spec (avQ_spec d) h
   simp [this]
  ·rename_i g s x g' s' y
   have hl : ∀ r, listQ (listQ (avQ d)) x y = some r → (r = true ↔ x = y) := fun r h => listQ_spec (fun a b r h => listQ_spec (avQ_spec d) h) h
   cases r with
   | true =>
    obtain ⟨h1, h2⟩ := both_true h
    simp only [Option.some.injEq, Bool.and_eq_true, decide_eq_true_eq] at h1
    simp [h1.1, h1.2, (hl _ h2).1 rfl]
   | false =>
    simp only [Bool.false_eq_true, false_iff, AV.lst.injEq, not_and]
    rintro rfl rfl rfl
    rcases both_false h with h1 | h1
    ·simp at h1
    ·exact absurd ((hl _ h1).2 rfl) (by simp)
  ·cases h; simp
  ·rename_i f x y f' x' y'
   have hl : ∀ {x y : List AV} {r : Bool}, listQ (avQ d) x y = some r → (r = true ↔ x = y) := fun h => listQ_spec (avQ_spec d) h
   cases r with
   | true =>
    obtain ⟨h1, h2⟩ := both_true h
    obtain ⟨h2, h3⟩ := both_true h2
    simp only [Option.some.injEq, decide_eq_true_eq] at h1
    simp [h1, (hl h2).1 rfl, (hl h3).1 rfl]
   | false =>
    simp only [Bool.false_eq_true, false_iff, AV.fn.injEq, Fn.func.injEq, not_and]
    rintro rfl rfl rfl
    rcases both_false h with h1 | h1
    ·simp at h1
    ·rcases both_false h1 with h1 | h1
     ·exact absurd ((hl h1).2 rfl) (by simp)
     ·exact absurd ((hl h1).2 rfl) (by simp)
  ·cases h; simp
  ·cases h; simp
  ·cases h; simp
  ·cases h; simp
  ·cases h; simp
  ·cases h; simp
  ·cases h
def cellsQ (a b : Option (List AV)) : Option Bool :=
 match a, b with
 | none, none => some true
 | some x, some y => listQ (avQ 16) x y
 | _, _ => some false
theorem cellsQ_spec {a b : Option (List AV)} {r : Bool} (h : cellsQ a b = some r) : r = true ↔ a = b := by
 unfold cellsQ at h
 split at h
 ·cases h; simp
 ·have := listQ_spec (avQ_spec 16) h
  simp [this]
 ·rename_i h1 h2
  cases h
  simp only [Bool.false_eq_true, false_iff]
  rintro rfl
  cases a with
  | none => exact h1 rfl rfl
  | some x => exact h2 x x rfl rfl
def memQ (m m' : Mem) : Option Bool := both (some (decide (m.toks = m'.toks))) (listQ cellsQ m.vars m'.vars)
theorem memQ_spec {m m' : Mem} (h : memQ m m' = some true) : m = m' := by
 obtain ⟨h1, h2⟩ := both_true h
 have e1 : m.toks = m'.toks := by simpa using h1
 have e2 := (listQ_spec (fun a b r h => cellsQ_spec h) h2).1 rfl
 cases m; cases m'; simp_all
def finMemC (m0 m : Mem) : Option Mem :=
 match listQ cellsQ (m.vars.take m0.vars.length) m0.vars with
 | some true => some { vars := m0.vars, toks := m.toks.take m0.toks.length }
 | some false => some { vars := m.vars.take m0.vars.length, toks := m.toks }
 | none => none
theorem finMemC_spec {m0 m r : Mem} (h : finMemC m0 m = some r) : finMem m0 m = r := by
 unfold finMemC at h
 unfold finMem
 split at h
 ·rename_i hq
  cases h
  rw [if_pos ((listQ_spec (fun a b r h => cellsQ_spec h) hq).1 rfl)]
 ·rename_i hq
  cases h
  rw [if_neg (fun e => absurd ((listQ_spec (fun a b r h => cellsQ_spec h) hq).2 e) (by simp))]
 ·cases h

/-! ### operations, regions, code -/
def keepsC (P : Program) (pu : Bool) (o : Oper) (m : Mem) (x : Option (AV × Mem)) : Option (AV × Mem) :=
 match x with
 | some (a, m') => if (pu && clsOf P o == .ca) = true then (if memQ m' m = some true then some (a, m') else none) else some (a, m')
 | none => none
theorem keepsC_spec {P : Program} {pu : Bool} {o : Oper} {m : Mem} {x y : Option (AV × Mem)} (hxy : ∀ r, x = some r → y = some r) {r : AV × Mem} (h : keepsC P pu o m x = some r) : keeps P pu o m y = some r := by
 unfold keepsC at h
 split at h
 ·rename_i a m'
  unfold keeps
  rw [hxy _ rfl]
  dsimp only
  split at h
  ·split at h
   ·rename_i hq
    cases h
    rw [if_pos (fun _ => memQ_spec hq)]
   ·cases h
  ·rename_i hn
   cases h
   rw [if_pos (fun h => absurd h hn)]
 ·cases h
def evOpsC (P : Program) (call : CallF) (nt : Nat) (ops : Array Oper) (pu : Bool) : List Oper → Env → Mem → Option (Env × Mem)
 | [], e, m => some (e, m)
 | o :: rest, e, m =>
  match wantedAV ops e o with
  | none => none
  | some true =>
   match keepsC P pu o m (evOp P call e m o) with
   | some (a, m') =>
    match putAV nt o.dst a e with
    | some e' => evOpsC P call nt ops pu rest e' m'
    | none => none
   | none => none
  | some false =>
   match putAV nt o.dst (.v (.tuple #[])) e with
   | some e' => evOpsC P call nt ops pu rest e' m
   | none => none
def Sub (c c' : CallF) : Prop := ∀ f args m r, c f args m = some r → c' f args m = some r
theorem evCall_sub {c c' : CallF} (hs : Sub c c') {f : AV} {xs : List AV} {m : Mem} {r : AV × Mem} (h : evCall c f xs m = some r) : evCall c' f xs m = some r := by
 unfold evCall at h ⊢
 split at h
 ·exact hs _ _ _ _ h
 ·cases h
theorem evOp_sub {P : Program} {c c' : CallF} (hs : Sub c c') {e : Env} {m : Mem} {o : Oper} {r : AV × Mem} (h : evOp P c e m o = some r) : evOp P c' e m o = some r := by
 unfold evOp at h ⊢
 cases hop : o.op with
 | call cl =>
  rw [hop] at h
  dsimp only at h ⊢
  split at h
  ·rename_i hsz
   rw [if_pos hsz]
   cases hce : cl.callee with
   | builtin b => rw [hce] at h; exact h
   | value f => rw [hce] at h; exact evCall_sub hs h
   | invoke a b => rw [hce] at h; exact h
  ·cases h
 | _ => rw [hop] at h; exact h
theorem evOpsC_sub {P : Program} {c c' : CallF} (hs : Sub c c') {nt : Nat} {ops : Array Oper} {pu : Bool} {r : Env × Mem} : ∀ (l : List Oper) (e : Env) (m : Mem), evOpsC P c nt ops pu l e m = some r → evOps P c' nt ops pu l e m = some r
 | [], e, m, h => h
 | o :: rest, e, m, h => by
  unfold evOpsC at h
  unfold evOps
  split at h
  ·cases h
  ·rename_i hw
   rw [hw]
   dsimp only
   split at h
   ·rename_i a m' hk
    rw [keepsC_spec (fun r h => evOp_sub hs h) hk]
    dsimp only
    split at h
    ·rename_i e' he
     rw [he]
     exact evOpsC_sub hs rest e' m' h
    ·cases h
   ·cases h
  ·rename_i hw
   rw [hw]
   dsimp only
   split at h
   ·rename_i e' he
    rw [he]
    exact evOpsC_sub hs rest e' m h
   ·cases h
def codeC (P : Program) (call : CallF) (nt : Nat) (kp : Nat → Option (List Nat)) (n : Nat) : Code → Env → Mem → Res
 | .skip, e, m => some (.normal, e, m)
 | .region id ops draw, e, m =>
  match (if draw then (if drawnOk P ops.toList = true then evOpsC P call nt ops.toList.toArray (anyLoose P ops.toList) ops.toList e m else none) else evOpsC P call nt ops false ops.toList e m) with
  | some (e', m') => some (.normal, restr (kp id) e', m')
  | none => none
 | .seq a b, e, m =>
  match codeC P call nt kp n a e m with
  | some (.normal, e', m') => codeC P call nt kp n b e' m'
  | x => x
 | .cond c a b, e, m =>
  match opd P e 0 c with
  | .v (.bool t) => if t then codeC P call nt kp n a e m else codeC P call nt kp n b e m
  | _ => none
 | .block id b, e, m =>
  match codeC P call nt kp n b e m with
  | some (.exit q, e', m') => if q = id then some (.normal, e', m') else some (.exit q, e', m')
  | x => x
 | .loop b, e, m => loopN (codeC P call nt kp n b) n e m
 | .exit id, e, m => some (.exit id, e, m)
 | .ret, e, m => some (.ret, e, m)
 | _, _, _ => none
theorem codeC_sub {P : Program} {c c' : CallF} (hs : Sub c c') {nt : Nat} {kp : Nat → Option (List Nat)} {n : Nat} : ∀ (k : Code) (e : Env) (m : Mem) (r : Ex × Env × Mem), codeC P c nt kp n k e m = some r → code P c' nt kp n k e m = some r := by
 intro k
 induction k with
 | region id ops draw =>
  intro e m r h
  unfold codeC at h
  unfold code
  split at h
  ·rename_i e' m' h1
   have : (if draw then evDrawn P c' nt ops.toList e m else evOps P c' nt ops false ops.toList e m) = some (e', m') := by
    cases draw with
    | true =>
     simp only [if_true] at h1 ⊢
     unfold evDrawn
     split at h1
     ·rename_i hd
      rw [if_pos hd]
      exact evOpsC_sub hs _ _ _ h1
     ·cases h1
    | false =>
     simp only [Bool.false_eq_true, if_false] at h1 ⊢
     exact evOpsC_sub hs _ _ _ h1
   rw [this]
   exact h
  ·cases h
 | seq x y ihx ihy =>
  intro e m r h
  unfold codeC at h
  unfold code
  split at h
  ·rename_i e' m' h1
   rw [ihx e m _ h1]
   exact ihy e' m' r h
  ·rename_i h1
   rw [ihx e m _ h]
   obtain ⟨x, e', m'⟩ := r
   cases x with
   | normal => exact absurd h (h1 e' m')
   | exit id => rfl
   | ret => rfl
 | cond cc x y ihx ihy =>
  intro e m r h
  unfold codeC at h
  unfold code
  split at h
  ·rename_i t ht
   rw [ht]
   cases t with
   | true => exact ihx e m r h
   | false => exact ihy e m r h
  ·cases h
 | block id b ih =>
  intro e m r h
  unfold codeC at h
  unfold code
  split at h
  ·rename_i q e' m' h1
   rw [ih e m _ h1]
   exact h
  ·rename_i h1
   rw [ih e m _ h]
   obtain ⟨x, e', m'⟩ := r
   cases x with
   | normal => rfl
   | exit id => exact absurd h (h1 id e' m')
   | ret => rfl
 | loop b ih =>
  intro e m r h
  unfold codeC at h
  unfold code
  exact loopN_mono ih n n e m (Nat.le_refl _) h
 | _ => intro e m r h; exact h

/-! ### functions -/
def growResC (gr : Bool) (m0 m : Mem) (a : AV) : Option (AV × Mem) :=
 match finMemC m0 m with
 | none => none
 | some mf =>
  match gr, a with
  | true, .lst .full sz rows => some (.lst (.tok mf.toks.length 0) sz rows, { mf with toks := mf.toks ++ [0] })
  | true, .lst (.tok id ver) sz rows =>
   if m.toks[id]? = some ver ∧ m0.toks.length ≤ id then some (.lst (.tok mf.toks.length 0) sz rows, { mf with toks := mf.toks.set id (ver + 1) ++ [0] }) else none
  | true, _ => none
  | false, a => (resAV m0.vars.length m a).map (·, mf)
theorem growResC_spec {gr : Bool} {m0 m : Mem} {a : AV} {r : AV × Mem} (h : growResC gr m0 m a = some r) : growRes gr m0 m a = some r := by
 unfold growResC at h
 split at h
 ·cases h
 ·rename_i mf hf
  obtain rfl := finMemC_spec hf
  exact h
def evRetC (P : Program) (gr : Bool) (fn : Func) (m0 : Mem) (e : Env) (m : Mem) : Option (AV × Mem) :=
 match fn.results.toList with
 | [r] => (evResult P e m r).bind (growResC gr m0 m)
 | rs =>
  match finMemC m0 m with
  | some mf => ((rs.mapM (evResult P e m)).bind fun vs => vs.mapM (resAV m0.vars.length m)).map fun vs => (.tup vs, mf)
  | none => none
theorem evRetC_spec {P : Program} {gr : Bool} {fn : Func} {m0 : Mem} {e : Env} {m : Mem} {r : AV × Mem} (h : evRetC P gr fn m0 e m = some r) : evRet P gr fn m0 e m = some r := by
 unfold evRetC at h
 unfold evRet
 split at h
 ·rename_i rv hrv
  rw [hrv]
  rw [Option.bind_eq_some_iff] at h ⊢
  obtain ⟨b, h1, h2⟩ := h
  exact ⟨b, h1, growResC_spec h2⟩
 ·rename_i rs hrs
  split at h
  ·rename_i mf hf
   obtain rfl := finMemC_spec hf
   split
   ·rename_i rv hrv
    exact absurd hrv (hrs rv)
   ·exact h
  ·cases h
def evBodyC (P : Program) (C : Ctx) (call : CallF) (n : Nat) (f : FuncId) (fn : Func) (c : Code) (args : List AV) (m : Mem) : Option (AV × Mem) :=
 if args.length ≤ fn.ntmps ∧ (fn.name == "runtime.NumGoroutine") = false then
  match codeC P call fn.ntmps (C.kp f) n c (entry args) m with
  | some (.normal, e, m') => evRetC P (C.gr f) fn m e m'
  | some (.ret, e, m') => evRetC P (C.gr f) fn m e m'
  | _ => none
 else none
def runC (P : Program) (C : Ctx) : Nat → CallF
 | 0, _, _, _ => none
 | n + 1, f, args, m =>
  match C.ext f with
  | some g => g args m
  | none =>
   match P.funcs[f]? with
   | some fn =>
    match fn.body with
    | some c => evBodyC P C (runC P C n) n f fn c args m
    | none => none
   | none => none
theorem evBodyC_sub {P : Program} {C : Ctx} {c c' : CallF} (hs : Sub c c') {n : Nat} {f : FuncId} {fn : Func} {k : Code} {args : List AV} {m : Mem} {r : AV × Mem} (h : evBodyC P C c n f fn k args m = some r) : evBody P C c' n f fn k args m = some r := by
 unfold evBodyC at h
 unfold evBody
 split at h
 ·rename_i hc
  rw [if_pos hc]
  split at h
  ·rename_i e m' h1
   rw [codeC_sub hs _ _ _ _ h1]
   exact evRetC_spec h
  ·rename_i e m' h1
   rw [codeC_sub hs _ _ _ _ h1]
   exact evRetC_spec h
  ·cases h
 ·cases h
theorem runC_sub {P : Program} {C : Ctx} : ∀ n, Sub (runC P C n) (run P C n)
 | 0 => fun f args m r h => by cases h
 | n + 1 => fun f args m r h => by
  unfold runC at h
  unfold run
  split at h
  ·rename_i g hg
   rw [hg]
   exact h
  ·rename_i hg
   rw [hg]
   dsimp only
   split at h
   ·rename_i fn hfn
    rw [hfn]
    dsimp only
    split at h
    ·rename_i c hc
     rw [hc]
     exact evBodyC_sub (runC_sub n) h
    ·cases h
   ·cases h
theorem runC_ok {P : Program} (hm : P.follows .mixedOrders = true) {C : Ctx} (hx : ∀ f g, C.ext f = some g → FunOk P f g) (n : Nat) : CallOk P (runC P C n) :=
 fun f args m r m' h => run_ok hm hx n f args m r m' (runC_sub n _ _ _ _ h)

/-! ### a function of nothing, wherever it is called -/
theorem wide_ok {P : Program} {f : FuncId} {x : Value} (h : FunOk P f fun args m => if args = [] ∧ m.vars = [] ∧ m.toks = [] then some (.v x, m) else none) :
  FunOk P f fun args m => match args with | [] => some (.v x, m) | _ => none := by
 intro args m r m' hg
 dsimp only at hg
 split at hg
 ·cases hg
  obtain ⟨h1, h2⟩ := h [] ⟨[], []⟩ (.v x) ⟨[], []⟩ (if_pos ⟨rfl, rfl, rfl⟩)
  refine ⟨h1, fun φ w vals hR hA => ?_⟩
  have hR0 : RM φ ⟨[], []⟩ w := {
   var := fun r cs h => by simp [Mem.var] at h
   inj := fun r r' cs cs' h => by simp [Mem.var] at h
   vim := fun r cs o h => by simp [Mem.var] at h
   tok := fun id b s e h => by simp at h
   tinj := fun id id' b s e s' e' h => by simp at h
   imlt := hR.imlt }
  refine (h2 φ w vals hR0 ⟨hA.1, fun i a u e => by simp at e⟩).mono fun e w' ⟨y, φ', he, hR', hX, hr⟩ => ?_
  have hno : ∀ b, ¬ Own φ ⟨[], []⟩ b := by
   rintro b (⟨r, cs, h, _⟩ | ⟨id, s, e, h, _⟩)
   ·simp [Mem.var] at h
   ·simp at h
  have hblk : ∀ b, b < w.heap.size → w'.heap[b]? = w.heap[b]? := fun b hb => hX.blk b hb (hno b)
  have hcell : ∀ b o, φ.im b o → w'.cell? ⟨b, o, none⟩ = w.cell? ⟨b, o, none⟩ := fun b o hi => (hX.im b o hi).2
  have lt_of : ∀ b o, w.heap[b]? = some o → b < w.heap.size := fun b o h => (Array.getElem?_eq_some_iff.1 h).1
  have hext : Ext φ m w φ m w' := {
   os := hX.os, tape := hX.tape, output := hX.output, size := hX.size
   im := fun b o hi => ⟨hi, hcell b o hi⟩
   vb := fun r cs hv => ⟨rfl, cs, hv, rfl⟩
   tk := fun id v hv => ⟨v, hv, Nat.le_refl _, fun _ => rfl⟩
   blk := fun b hb _ => hblk b hb
   own := fun b hb => .inl hb }
  refine ⟨y, φ, he, ?_, hext, ?_⟩
  ·exact {
    var := fun r cs hv => by
     obtain ⟨arr, T, g1, g2, g3⟩ := hR.var r cs hv
     exact ⟨arr, T, by rw [hblk _ (lt_of _ _ g1)]; exact g1, g2.mono hext, g3⟩
    inj := hR.inj
    vim := hR.vim
    tok := fun id b s e hlt hk hse => by
     obtain ⟨arr, T, g1, g2⟩ := hR.tok id b s e hlt hk hse
     exact ⟨arr, T, by rw [hblk _ (lt_of _ _ g1)]; exact g1, g2⟩
    tinj := hR.tinj
    imlt := fun b o hi => Nat.lt_of_lt_of_le (hR.imlt b o hi) hX.size }
  ·cases hr
   exact .v _
 ·cases hg
end
end Go.Proofs.YtojaokhkbmiidaaGreat.Ev
