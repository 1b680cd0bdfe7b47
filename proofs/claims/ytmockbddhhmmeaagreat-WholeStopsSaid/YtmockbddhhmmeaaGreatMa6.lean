/- Regions that draw their order: a memory for each set of what has come up. Sound where each operation, whenever it may come up, does to that memory what it does in the text's order. -/
import Derived.Test.YtmockbddhhmmeaaGreatMa5
namespace Go.Proofs.YtmockbddhhmmeaaGreat.Ev
open Go Go.Proofs
set_option maxRecDepth 10000
set_option maxHeartbeats 8000000
set_option linter.unusedVariables false
set_option linter.unusedSimpArgs false
section
/-- What an operation may do: what the evaluator says, or an allocation at whatever place is free. -/
def SOp (P : Program) (call : CallF) (e : Env) (m : Mem) (o : Oper) (a : AV) (m' : Mem) : Prop :=
 evOp P call e m o = some (a, m') ∨ ∃ t z p, o.op = .alloc t ∧ zeroCells P t = some z ∧ z.all okCell = true ∧ newVar m p z = some m' ∧ a = .ptr p 0
theorem bYp {P : Program} {call : CallF} (hC : dU P call) {φ : Phi} {m m' : Mem} {w : World} (hR : RM φ m w) {e : Env} {a : Act} (hE : cX φ m w e a.tmps) {o : Oper} {av : AV} (h : SOp P call e m o av m')
  {K : Act → World → Prop} {Q : Exit → Act → World → Prop} (hK : ∀ x w' φ', RM φ' m' w' → Ext φ m w φ' m' w' → Rep φ' m' w' av x → K (a.put o.dst x) w') : o.wp P a w K Q := by
 rcases h with h | ⟨t, z, p, ho, hz, hok, hm, rfl⟩
 ·exact aI1 hC hR hE h hK
 ·obtain ⟨w', φ', h1, h2, h3, h4⟩ := aI7 (P := P) hR hz hok hm
  have hr : (execOp a.eval o).run P w = .ok (.value (.pointer (some ⟨w.heap.size, 0, none⟩))) w' := by
   unfold execOp
   rw [ho]
   exact bW h1
  unfold Oper.wp
  rw [hr, Oper.upon_value]
  exact hK _ w' φ' h2 h3 h4
structure DrawnS (l : List Oper) : Prop where
 edge : ∀ (j : Nat) o, l[j]? = some o → ∀ e ∈ o.after.toList, Region.binds .any e = true → e.on < j
 dst : ∀ (i j : Nat) oi oj, i < j → l[i]? = some oi → l[j]? = some oj → ∀ d, oi.dst = some d → oj.dst ≠ some d
 apart : ∀ (i j : Nat) oi oj, i < j → l[i]? = some oi → l[j]? = some oj → ((masks l []).getD j 0).testBit i = true ∨ oi.apart l.toArray oj = true
def aDp (l : List Oper) : Bool :=
 let ms := masks l []
 (List.range l.length).all fun j =>
  ((l.getD j default).after.all fun e => !Region.binds .any e || decide (e.on < j)) &&
  (List.range j).all fun i =>
   ((l.getD i default).dst.isNone || (l.getD i default).dst != (l.getD j default).dst) &&
   ((ms.getD j 0).testBit i || (l.getD i default).apart l.toArray (l.getD j default))
theorem aIf {l : List Oper} (h : aDp l = true) : DrawnS l := by
 have gd : ∀ (j : Nat) o, l[j]? = some o → l.getD j default = o := fun j o ho => by rw [List.getD_eq_getElem?_getD, ho]; rfl
 have lt : ∀ (j : Nat) o, l[j]? = some o → j < l.length := fun j o ho => (List.getElem?_eq_some_iff.mp ho).1
 simp only [aDp, List.all_eq_true, List.mem_range, Bool.and_eq_true] at h
 refine ⟨fun j o ho e he hb => ?_, fun i j oi oj hij hi hj d hd => ?_, fun i j oi oj hij hi hj => ?_⟩
 ·have h1 := (h j (lt j o ho)).1
  rw [gd j o ho, Array.all_eq_true'] at h1
  have h2 := h1 e (by simpa using he)
  simpa [hb] using h2
 ·have h1 := ((h j (lt j oj hj)).2 i hij).1
  rw [gd j oj hj, gd i oi hi, hd] at h1
  intro e
  rw [e] at h1
  simp at h1
 ·have h1 := ((h j (lt j oj hj)).2 i hij).2
  rw [gd j oj hj, gd i oi hi, Bool.or_eq_true] at h1
  exact h1
def ins (S : Nat → Bool) (i : Nat) : Nat → Bool := fun j => decide (j = i) || S j
/-- All that must be there before what is there. -/
def ClosedS (l : List Oper) (S : Nat → Bool) : Prop := ∀ (j : Nat) o, l[j]? = some o → S j = true → ∀ e ∈ o.after.toList, Region.binds .any e = true → S e.on = true
section
variable {P : Program} {call : CallF} {l : List Oper} {nt : Nat} {E : Nat → Env} {A : Nat → AV} {MS : (Nat → Bool) → Mem}
section
variable (hD : DrawnS l) (hT : ∀ (k : Nat) o, l[k]? = some o → putAV nt o.dst (A k) (E k) = some (E (k + 1)))
include hT
theorem aIn {k : Nat} {o : Oper} (h : l[k]? = some o) (t : Nat) : get (E (k + 1)) t = if o.dst = some t then A k else get (E k) t := by
 have hp := hT k o h
 unfold putAV at hp
 split at hp
 ·rename_i hd
  simp only [Option.some.injEq] at hp
  rw [← hp, if_neg (by rw [hd]; simp)]
 ·rename_i d hd
  split at hp
  ·simp only [Option.some.injEq] at hp
   rw [← hp, hd]
   simp [Ev.get]
  ·cases hp
theorem uA {t : Nat} : ∀ k, k ≤ l.length → (∀ (j : Nat) o, j < k → l[j]? = some o → o.dst ≠ some t) → get (E k) t = get (E 0) t
 | 0, _, _ => rfl
 | k + 1, hk, h => by
  have ho : l[k]? = some l[k] := List.getElem?_eq_getElem (by omega)
  rw [aIn hT ho, if_neg (h k _ (by omega) ho)]
  exact uA k (by omega) fun j o hj => h j o (by omega)
include hD
theorem aAs {t j : Nat} {o : Oper} (hj : l[j]? = some o) (hd : o.dst = some t) : ∀ k, k ≤ l.length → j < k → get (E k) t = A j
 | 0, _, h => by omega
 | k + 1, hk, h => by
  have ho : l[k]? = some l[k] := List.getElem?_eq_getElem (by omega)
  by_cases e : j = k
  ·subst e
   rw [hj] at ho
   rw [aIn hT hj, if_pos hd]
  ·rw [aIn hT ho, if_neg (hD.dst j k o _ (by omega) hj ho t hd)]
   exact aAs hj hd k (by omega) (by omega)
end
structure InvS (l : List Oper) (nt : Nat) (MS : (Nat → Bool) → Mem) (A : Nat → AV) (e : Env) (φ₀ : Phi) (m₀ : Mem) (w₀ : World) (S : Nat → Bool) (a : Act) (w : World) : Prop where
 st : ∃ φ, RM φ (MS S) w ∧ Ext φ₀ m₀ w₀ φ (MS S) w ∧ Slots l (fun j => S j = true) A e φ (MS S) w a.tmps
 size : nt ≤ a.tmps.size
 defers : a.defers = []
 closed : ClosedS l S
variable {φ₀ : Phi} {m₀ : Mem} {w₀ : World}
theorem bIy (hC : dU P call) (hD : DrawnS l) (hT : ∀ (k : Nat) o, l[k]? = some o → putAV nt o.dst (A k) (E k) = some (E (k + 1)))
  (hW : ∀ (k : Nat) o, l[k]? = some o → ∃ b, wantedAV l.toArray (E k) o = some b ∧ (b = false → A k = .v (.tuple #[])))
  (hM : ∀ S (i : Nat) o, l[i]? = some o → ClosedS l S → S i = false → (∀ e ∈ o.after.toList, Region.binds .any e = true → S e.on = true) →
   (wantedAV l.toArray (E i) o = some true → SOp P call (E i) (MS S) o (A i) (MS (ins S i))) ∧ (wantedAV l.toArray (E i) o = some false → MS (ins S i) = MS S))
  {S : Nat → Bool} {a : Act} {w : World} (hI : InvS l nt MS A (E 0) φ₀ m₀ w₀ S a w) {i : Nat} {o : Oper} (ho : l[i]? = some o) (hni : S i = false)
  (hready : ∀ e ∈ o.after.toList, Region.binds .any e = true → S e.on = true) {K : Act → World → Prop} {Q : Exit → Act → World → Prop}
  (hK : ∀ a' w', InvS l nt MS A (E 0) φ₀ m₀ w₀ (ins S i) a' w' → K a' w') : wpOp P l.toArray Q i K a w := by
 obtain ⟨⟨φ, hR, hX, hS⟩, hsize, hdef, hclosed⟩ := hI
 have hil : i < l.length := (List.getElem?_eq_some_iff.mp ho).1
 have hni' : ¬ S i = true := by rw [hni]; simp
 have hlook : ∀ t, t ∈ o.looksAt l.toArray → Rep φ (MS S) w (get (E i) t) (a.tmps.getD t undef) := by
  intro t ht
  by_cases hx : ∃ (j : Nat) (oj : Oper), j < i ∧ l[j]? = some oj ∧ oj.dst = some t
  ·obtain ⟨j, oj, hji, hj, hd⟩ := hx
   rw [aAs hD hT hj hd i (by omega) hji]
   refine (hS t).1 j oj hj hd ?_
   rcases hD.apart j i oj o hji hj ho with hb | hap
   ·exact fD (S := fun j => S j = true) hD.edge hclosed i o ho hready j hb
   ·exact absurd ht ((Oper.apart_spec hap).1 t hd)
  ·rw [uA hT i (by omega) fun j oj hji hj hd => hx ⟨j, oj, hji, hj, hd⟩]
   refine (hS t).2 fun j oj hj hd hl => ?_
   rcases Nat.lt_trichotomy j i with hlt | heq | hgt
   ·exact hx ⟨j, oj, hlt, hj, hd⟩
   ·subst heq; exact hni' hl
   ·rcases hD.apart i j o oj hgt ho hj with hb | hap
    ·exact hni' (fD (S := fun j => S j = true) hD.edge hclosed j oj hj (hclosed j oj hj hl) i hb)
    ·exact absurd ht ((Oper.apart_spec hap).2.2 t hd)
 have hput := hT i o ho
 have after : ∀ x w' φ', RM φ' (MS (ins S i)) w' → Ext φ (MS S) w φ' (MS (ins S i)) w' → Rep φ' (MS (ins S i)) w' (A i) x → InvS l nt MS A (E 0) φ₀ m₀ w₀ (ins S i) (a.put o.dst x) w' := by
  intro x w' φ' g1 g2 g3
  refine ⟨⟨φ', g1, hX.trans g2, fun t => ⟨fun j oj hj hd hl => ?_, fun hno => ?_⟩⟩, by rw [gG]; exact hsize, by rw [eQ]; exact hdef, fun j oj hj hl e he hb => ?_⟩
  ·by_cases e : j = i
   ·subst e
    rw [hj] at ho
    cases ho
    rw [aO7 hd hput hsize]
    exact g3
   ·have hne : o.dst ≠ some t := by
     rcases Nat.lt_or_gt_of_ne e with h | h
     ·exact hD.dst j i oj o h hj ho t hd
     ·exact fun hod => hD.dst i j o oj h ho hj t hod hd
    rw [qH hne]
    have hl' : S j = true := by simpa [ins, e] using hl
    exact ((hS t).1 j oj hj hd hl').mono g2
  ·have hne : o.dst ≠ some t := fun hd => hno i o ho hd (by simp [ins])
   rw [qH hne]
   exact ((hS t).2 fun j oj hj hd hl => hno j oj hj hd (by simp [ins, hl])).mono g2
  ·by_cases h : j = i
   ·subst h
    rw [hj] at ho
    cases ho
    simp [ins, hready e he hb]
   ·have hl' : S j = true := by simpa [ins, h] using hl
    simp [ins, hclosed j oj hj hl' e he hb]
 let E' : Env := (o.looksAt l.toArray).map fun s => (s, get (E i) s)
 have hE' : cX φ (MS S) w E' a.tmps := by
  intro t
  rw [nR]
  split
  ·exact hlook t ‹_›
  ·exact .junk _
 have hget : ∀ t, t ∈ o.looksAt l.toArray → get E' t = get (E i) t := fun t ht => by rw [nR, if_pos ht]
 have hwant : wantedAV l.toArray E' o = wantedAV l.toArray (E i) o := by
  unfold wantedAV
  cases hg : o.guard with
  | none => rfl
  | some g =>
   obtain ⟨j, want⟩ := g
   simp only []
   cases hj : (l.toArray[j]?).bind (·.dst) with
   | none => rfl
   | some d =>
    simp only []
    rw [hget d (by simp [Oper.looksAt, hg]; right; simpa using hj)]
 have hop : ∀ m, evOp P call E' m o = evOp P call (E i) m o := by
  intro m
  refine aDj fun x hx t => ?_
  cases x with
  | tmp s => exact hget s (by simp only [Oper.looksAt, List.mem_append, List.mem_filterMap]; exact .inl ⟨_, hx, rfl⟩)
  | const v => rfl
  | func f => rfl
  | global g => rfl
 unfold wpOp
 rw [List.getElem?_toArray, ho]
 simp only []
 obtain ⟨h1, h2⟩ := hM S i o ho hclosed hni hready
 obtain ⟨b, hb, hA⟩ := hW i o ho
 cases b with
 | true =>
  rw [cW hE' (hwant.trans hb), if_pos rfl]
  left
  refine bYp hC hR hE' ?_ fun x w' φ' g1 g2 g3 => hK _ _ (after x w' φ' g1 g2 g3)
  rcases h1 hb with h | h
  ·exact .inl (by rw [hop]; exact h)
  ·exact .inr h
 | false =>
  rw [cW hE' (hwant.trans hb), if_neg (by simp)]
  have e := h2 hb
  refine hK _ _ (after undef w φ ?_ ?_ ?_)
  ·rw [e]; exact hR
  ·rw [e]; exact Ext.refl ..
  ·rw [hA rfl]; exact .v _
theorem bEc (hC : dU P call) (hD : DrawnS l) (hT : ∀ (k : Nat) o, l[k]? = some o → putAV nt o.dst (A k) (E k) = some (E (k + 1)))
  (hW : ∀ (k : Nat) o, l[k]? = some o → ∃ b, wantedAV l.toArray (E k) o = some b ∧ (b = false → A k = .v (.tuple #[])))
  (hM : ∀ S (i : Nat) o, l[i]? = some o → ClosedS l S → S i = false → (∀ e ∈ o.after.toList, Region.binds .any e = true → S e.on = true) →
   (wantedAV l.toArray (E i) o = some true → SOp P call (E i) (MS S) o (A i) (MS (ins S i))) ∧ (wantedAV l.toArray (E i) o = some false → MS (ins S i) = MS S))
  {m' : Mem} (hend : ∀ S, (∀ j, j < l.length → S j = true) → MS S = m') {Q : Exit → Act → World → Prop} (hQ : ∀ a w, St φ₀ m₀ w₀ nt (E l.length) m' a w → Q .normal a w) :
  ∀ (n : Nat) (listed : Array Bool) (a : Act) (w : World), listed.size = l.length → unl (fun j => listed.getD j false) l.length ≤ n →
   InvS l nt MS A (E 0) φ₀ m₀ w₀ (fun j => listed.getD j false) a w → wpAny P .any l.toArray Q n listed a w := by
 have done : ∀ (listed : Array Bool) a w, (∀ j, j < l.length → listed.getD j false = true) → InvS l nt MS A (E 0) φ₀ m₀ w₀ (fun j => listed.getD j false) a w → Q .normal a w := by
  intro listed a w hall hI
  obtain ⟨⟨φ, hR, hX, hS⟩, hsize, hdef, hclosed⟩ := hI
  have hMe := hend _ hall
  rw [hMe] at hR hX hS
  refine hQ a w ⟨φ, hR, hX, fun t => ?_, hsize, hdef⟩
  by_cases hx : ∃ (j : Nat) (oj : Oper), l[j]? = some oj ∧ oj.dst = some t
  ·obtain ⟨j, oj, hj, hd⟩ := hx
   have hjl : j < l.length := (List.getElem?_eq_some_iff.mp hj).1
   rw [aAs hD hT hj hd l.length (Nat.le_refl _) hjl]
   exact (hS t).1 j oj hj hd (hall j hjl)
  ·rw [uA hT l.length (Nat.le_refl _) fun j oj hji hj hd => hx ⟨j, oj, hj, hd⟩]
   exact (hS t).2 fun j oj hj hd => absurd ⟨j, oj, hj, hd⟩ hx
 have rdy : ∀ (listed : Array Bool) i, listed.size = l.length → (i ∈ Region.ready .any l.toArray listed ↔ ∃ o, l[i]? = some o ∧ listed.getD i false = false ∧ ∀ e ∈ o.after.toList, Region.binds .any e = true → listed.getD e.on false = true) := by
  intro listed i hs
  have gd : ∀ j, j < l.length → listed.getD j true = listed.getD j false := by
   intro j hj
   simp [Array.getD, hs, hj]
  rw [mem_ready]
  constructor
  ·rintro ⟨h1, o, h2, h3⟩
   have ho : l[i]? = some o := by simpa using h2
   exact ⟨o, ho, by rw [← gd i (List.getElem?_eq_some_iff.mp ho).1]; exact h1, fun e he hb => h3 e (by simpa using he) hb⟩
  ·rintro ⟨o, ho, h1, h3⟩
   exact ⟨by rw [gd i (List.getElem?_eq_some_iff.mp ho).1]; exact h1, o, by simpa using ho, fun e he hb => h3 e (by simpa using he) hb⟩
 have noneReady : ∀ (listed : Array Bool), listed.size = l.length → Region.ready .any l.toArray listed = [] → ∀ j, j < l.length → listed.getD j false = true := by
  intro listed hs hn j
  induction j using Nat.strongRecOn with
  | _ j ih =>
   intro hj
   have ho : l[j]? = some l[j] := List.getElem?_eq_getElem hj
   cases hl : listed.getD j false with
   | true => rfl
   | false =>
    have : j ∈ Region.ready .any l.toArray listed := (rdy listed j hs).mpr ⟨_, ho, hl, fun e he hb => ih e.on (hD.edge j _ ho e he hb) (Nat.lt_trans (hD.edge j _ ho e he hb) hj)⟩
    rw [hn] at this
    cases this
 intro n
 induction n with
 | zero =>
  intro listed a w hs hu hI
  have hall := aF7 l.length (by omega : unl (fun j => listed.getD j false) l.length = 0)
  refine ⟨?_, done listed a w hall hI⟩
  cases hr : Region.ready .any l.toArray listed with
  | nil => rfl
  | cons i r =>
   obtain ⟨o, ho, h2, _⟩ := (rdy listed i hs).mp (by rw [hr]; simp)
   rw [hall i (List.getElem?_eq_some_iff.mp ho).1] at h2
   cases h2
 | succ n ih =>
  intro listed a w hs hu hI
  refine ⟨fun hn => done listed a w (noneReady listed hs hn) hI, fun i hi => ?_⟩
  obtain ⟨o, ho, h2, h3⟩ := (rdy listed i hs).mp hi
  have hil : i < l.length := (List.getElem?_eq_some_iff.mp ho).1
  have hset : ∀ j, (listed.setIfInBounds i true).getD j false = (decide (j = i) || listed.getD j false) := by
   intro j
   by_cases e : j = i
   ·subst e; simp [Array.getD, hs, hil]
   ·have e' : i ≠ j := fun h => e h.symm
    simp only [Array.getD_eq_getD_getElem?, Array.getElem?_setIfInBounds_ne e', e, decide_false, Bool.false_or]
  refine bIy hC hD hT hW hM hI ho h2 h3 fun a' w' hI' => ih _ a' w' (by simpa using hs) ?_ ?_
  ·have := aKn (f := fun j => listed.getD j false) (g := fun j => (listed.setIfInBounds i true).getD j false) h2 hset l.length
   rw [if_pos hil] at this
   omega
  ·have e : (fun j => (listed.setIfInBounds i true).getD j false) = ins (fun j => listed.getD j false) i := by
    funext j
    rw [hset j]
    rfl
   rw [e]
   exact hI'
theorem aYh {φ : Phi} {m m' : Mem} {w w' : World} (hv : ∀ r, m.var r = m'.var r) (ht : m.toks = m'.toks) (h : Ext φ m w φ m w') : Ext φ m w φ m' w' where
 os := h.os
 tape := h.tape
 output := h.output
 size := h.size
 im := h.im
 vb r cs hc := ⟨rfl, cs, by rw [← hv]; exact hc, rfl⟩
 tk id v hc := ⟨v, by rw [← ht]; exact hc, Nat.le_refl _, fun _ => rfl⟩
 blk := h.blk
 own b hb := h.own b (by
  rcases hb with ⟨r, cs, h1, h2⟩ | ⟨id, s, e, h1, h2, h3⟩
  ·exact .inl ⟨r, cs, by rw [hv]; exact h1, h2⟩
  ·exact .inr ⟨id, s, e, by rw [ht]; exact h1, h2, h3⟩)
 imn b o hi := .inl hi
theorem bVb {φ : Phi} {m m' : Mem} {w : World} (hv : ∀ r, m.var r = m'.var r) (ht : m.toks = m'.toks) (h : RM φ m w) : RM φ m' w where
 var r cs hc := by
  obtain ⟨arr, T, h1, h2, h3⟩ := h.var r cs (by rw [hv]; exact hc)
  exact ⟨arr, T, h1, h2.mono (aYh hv ht (Ext.refl ..)), h3⟩
 inj r r' cs cs' h1 h2 := h.inj r r' cs cs' (by rw [hv]; exact h1) (by rw [hv]; exact h2)
 vim r cs o h1 := h.vim r cs o (by rw [hv]; exact h1)
 tok id b s e h1 h2 h3 := by
  obtain ⟨arr, T, g1, g2, g3, g4, g5⟩ := h.tok id b s e (by rw [ht]; exact h1) h2 h3
  exact ⟨arr, T, g1, g2, g3, fun r cs hc => g4 r cs (by rw [hv]; exact hc), g5⟩
 tinj id id' b s e s' e' h1 h2 := h.tinj id id' b s e s' e' (by rw [ht]; exact h1) (by rw [ht]; exact h2)
 imlt := h.imlt
/-- Such a region, in a walk. -/
theorem bZy (hm : P.follows .mixedOrders = true) (hC : dU P call) {id : Nat} {l2 : Option (List Nat)} {F : Objs} {Q : iS} {e : Env} {m m' : Mem} (hD : aDp l = true)
  (hE0 : E 0 = e) (hM0 : ∀ r, m.var r = (MS fun _ => false).var r) (hM1 : m.toks = (MS fun _ => false).toks) (hT : ∀ (k : Nat) o, l[k]? = some o → putAV nt o.dst (A k) (E k) = some (E (k + 1)))
  (hW : ∀ (k : Nat) o, l[k]? = some o → ∃ b, wantedAV l.toArray (E k) o = some b ∧ (b = false → A k = .v (.tuple #[])))
  (hM : ∀ S (i : Nat) o, l[i]? = some o → ClosedS l S → S i = false → (∀ e ∈ o.after.toList, Region.binds .any e = true → S e.on = true) →
   (wantedAV l.toArray (E i) o = some true → SOp P call (E i) (MS S) o (A i) (MS (ins S i))) ∧ (wantedAV l.toArray (E i) o = some false → MS (ins S i) = MS S))
  (hend : ∀ S, (∀ j, j < l.length → S j = true) → MS S = m') (hQ : ∀ e2, Ev.restr l2 (E l.length) = e2 → Q .normal e2 m' F) : bE P φ₀ m₀ w₀ nt (.region id l.toArray true) e m F Q := fun a w hs => by
 obtain ⟨φ, hRM, hX, hE, hn, hdf, hF⟩ := hs
 have hx := iR φ m w
 have key := bEc (φ₀ := φ) (m₀ := m) (w₀ := w) (Q := aS3 φ₀ m₀ w₀ nt Q) hC (aIf hD) hT hW hM hend (fun a' w' hst => by
  obtain ⟨φ', h1, h2, h3, h4, h5⟩ := hst
  exact ⟨.normal, _, m', F, rfl, ⟨φ', h1, hX.trans h2, h3.restr l2, h4, h5, fN hF h2⟩, hQ _ rfl⟩)
  l.length (Array.replicate l.length false) a { w with drawn := w.drawn + 1 } (by simp) (aTd ..)
 have no : ∀ j, (Array.replicate l.length false).getD j false = false := by
  intro j
  simp [Array.getD]
 have e0 : (fun j => (Array.replicate l.length false).getD j false) = fun _ => false := by funext j; exact no j
 rw [e0] at key
 refine wp_region_any hm ?_
 have hrm := bVb hM0 hM1 (oH hRM)
 have hxx := aYh hM0 hM1 hx
 have hsl : Slots l (fun j => (fun _ : Nat => false) j = true) A (E 0) φ (MS fun _ => false) { w with drawn := w.drawn + 1 } a.tmps := fun t =>
  ⟨fun j o _ _ hl => absurd hl (by simp), fun _ => by rw [hE0]; exact (hE t).mono hxx⟩
 have := key ⟨⟨φ, hrm, hxx, hsl⟩, hn, hdf, fun j o _ hl => absurd hl (by simp)⟩
 simpa using this
end
end
section
/-- What stands in a row of cells stays so. -/
theorem bSx {φ φ' : Phi} {m m' : Mem} {w w' : World} (hi : ∀ b o, φ.im b o → φ'.im b o ∧ w'.cell? ⟨b, o, none⟩ = w.cell? ⟨b, o, none⟩) {a : AV} {x : Value} (h : Rep φ m w a x) : kD a = true → Rep φ' m' w' a x := by
 induction h with
 | v x => exact fun _ => .v x
 | lst g sz rows a c val hc hr ha hs hcell _ hg ih =>
  intro hrow
  obtain rfl : g = .no := by cases g <;> first | rfl | (cases hrow; done)
  refine .lst .no sz rows a c val hc hr ha hs (fun ad i row j x e1 e2 e3 => ?_) (fun i row j x e1 e2 => ih i row j x e1 e2 ?_) trivial
  ·obtain ⟨h1, h2, h3⟩ := hcell ad i row j x e1 e2 e3
   exact ⟨(hi _ _ h1).1, (hi _ _ h1).2.trans h2, h3⟩
  ·have := (hr i row e1).2
   rw [List.all_eq_true] at this
   exact this x (List.mem_of_getElem? e2)
 | _ => intro h; cases h
abbrev tT (b off : Nat) : Value := .pointer (some ⟨b, off, none⟩)
abbrev bS (b off n c : Nat) : Value := .slice (some ⟨b, off, none⟩) n c
section
variable {P : Program} {call : CallF} {nt : Nat} {φ₀ : Phi} {m₀ : Mem} {w₀ : World} {ops : Array Oper}
variable {e e1 : Env} {m m1 : Mem} {F : Objs} {K : Env → Mem → Objs → Prop} {o : Oper} {av : AV}
theorem eI {φ : Phi} {w : World} {a : Act} (hE : cX φ m w e a.tmps) {t : TypeId} {x : Operand} {z : Value} (h : opd P e t x = .v z) : a.eval x = z := by
 have := fU (P := P) hE t x
 rw [h] at this
 generalize a.eval x = v at this
 cases this
 rfl
/-! ### reading, writing -/
theorem aY9 {φ : Phi} {w : World} {b : Nat} {cs : List AV} (h : XIn φ m w b (.arr cs)) (off : Nat) : aKz φ m w (cs.drop off) ⟨b, off, none⟩ := by
 obtain ⟨arr, T, hb, ⟨hn, hr⟩, _⟩ := h
 refine ⟨rfl, fun j => arr.getD (off + j) undef, fun j x hx => ?_⟩
 rw [List.getElem?_drop] at hx
 have hlt : off + j < arr.size := by rw [hn]; exact (List.getElem?_eq_some_iff.1 hx).1
 have e : arr[off + j]? = some (arr.getD (off + j) undef) := by simp [Array.getD, hlt]
 exact ⟨by simp only [World.cell?, hb]; exact e, hr _ _ _ hx e⟩
theorem nD {w : World} {b : Nat} {arr : Array Value} {T : TypeId} (h : w.heap[b]? = some (.cells arr T (0, 0))) (cs : Array Value) : w.setRow b cs = cY w b (.cells cs T (0, 0)) := by
 have hlt : b < w.heap.size := (Array.getElem?_eq_some_iff.1 h).1
 have hv := (Array.getElem?_eq_some_iff.1 h).2
 unfold World.setRow cY
 congr 1
 apply Array.ext (by simp)
 intro i h1 h2
 rw [Array.getElem_modify, Array.getElem_setIfInBounds (by simpa using h1)]
 split
 ·rename_i e
  subst e
  rw [hv]
 ·rfl
/-- New cells in a row. -/
theorem aA6 {φ : Phi} {w w' : World} {b off : Nat} {cs row : List AV} {arr : Array Value} {T : TypeId} {vs : List Value} (hn : Reps φ m w cs arr) (hrow : cs.all kD = true) (hone : ∀ (o : Nat) u, arr[o]? = some u → one u = true)
  (hvs : Reps φ m w row vs.toArray) (hr1 : row.all kD = true) (hr2 : ∀ v ∈ vs, one v = true) (hfit : off + row.length ≤ cs.length) (hrep : ∀ {a : AV} {x : Value}, Rep φ m w a x → Rep φ m w' a x)
  (hb : w'.heap[b]? = some (.cells (arr.toList.take off ++ vs ++ arr.toList.drop (off + vs.length)).toArray T (0, 0))) : XIn φ m w' b (.arr (cB cs off row)) := by
 have hvl : vs.length = row.length := by have := hvs.1; simpa using this
 have hal := hn.1
 refine ⟨_, T, hb, ⟨?_, fun i a u h1 h2 => ?_⟩, ?_, fun i u h2 => ?_⟩
 ·rw [dR hfit]
  simp
  omega
 ·unfold cB at h1
  rw [getElem?_splice hfit] at h1
  rw [List.getElem?_toArray, getElem?_splice (by simp; omega), hvl] at h2
  split at h1
  ·rename_i hc
   rw [if_pos hc] at h2
   exact hrep (hvs.2 _ a u h1 (by simpa using h2))
  ·rename_i hc
   rw [if_neg hc] at h2
   exact hrep (hn.2 i a u h1 (by simpa using h2))
 ·rw [List.all_eq_true] at hrow hr1 ⊢
  intro x hx
  simp only [cB, List.mem_append] at hx
  rcases hx with (hx | hx) | hx
  ·exact hrow x (List.mem_of_mem_take hx)
  ·exact hr1 x hx
  ·exact hrow x (List.mem_of_mem_drop hx)
 ·rw [List.getElem?_toArray, getElem?_splice (by simp; omega)] at h2
  split at h2
  ·exact hr2 u (List.mem_of_getElem? h2)
  ·exact hone i u (by simpa using h2)
theorem bIb {a : AV} {row : List AV} (h : aJm a = some row) : row.all kD = true := aIs h
/-! ### laid to rest -/
/-- What an abstract value is when the rows are written no more. -/
inductive Fz (F : Objs) : AV → AV → Prop
 | same (a : AV) : Fz F a a
 | nil (k : Nat) : Fz F (.v (.slice none 0 0)) (.lst .no k [])
 | lst (g : Grow) (k : Nat) (rows rows' : List (List AV)) (hl : rows'.length = rows.length) (hr : ∀ (i : Nat) row, rows'[i]? = some row → row.length = k ∧ row.all kD = true) (hw : ∀ (i : Nat) row, rows[i]? = some row → row.length = k)
   (h : ∀ (i : Nat) row row' (j : Nat) x x', rows[i]? = some row → rows'[i]? = some row' → row[j]? = some x → row'[j]? = some x' → Fz F x x') : Fz F (.lst g k rows) (.lst .no k rows')
 | list (b off sz n c : Nat) (cs : List AV) (rows : List (List AV)) (g : Nat → Nat → AV) (hb : (b, XOb.arr cs) ∈ F) (hn : rows.length = n) (hc : n ≤ c)
   (hr : ∀ (i : Nat) row, rows[i]? = some row → row.length = sz ∧ row.all kD = true)
   (hg : ∀ (i : Nat) row (j : Nat) x, rows[i]? = some row → row[j]? = some x → cs[off + i * sz + j]? = some (g i j))
   (h : ∀ (i : Nat) row (j : Nat) x, rows[i]? = some row → row[j]? = some x → Fz F (g i j) x) : Fz F (.v (bS b off n c)) (.lst .no sz rows)
 | agg (cs cs' : List AV) (hl : cs'.length = cs.length) (h : ∀ (i : Nat) a a', cs[i]? = some a → cs'[i]? = some a' → Fz F a a') : Fz F (.agg cs) (.agg cs')
def xT (φ : Phi) (F : Objs) : Phi := { φ with im := fun b o => φ.im b o ∨ ∃ p ∈ F, p.1 = b }
theorem aZk {φ : Phi} {w : World} (hX : Ext φ₀ m₀ w₀ φ m w) (hF : ObjsIn φ m w₀ w F) : Ext φ₀ m₀ w₀ (xT φ F) m w where
 os := hX.os
 tape := hX.tape
 output := hX.output
 size := hX.size
 im b o h := ⟨.inl (hX.im b o h).1, (hX.im b o h).2⟩
 vb := hX.vb
 tk := hX.tk
 blk := hX.blk
 own := hX.own
 imn b o h := by
  rcases h with h | ⟨p, hp, rfl⟩
  ·exact hX.imn b o h
  ·exact .inr (.inr (hF p hp).2.1)
theorem aBp {φ : Phi} {w : World} (hF : ObjsIn φ m w₀ w F) : ∀ {a : AV} {x : Value}, Rep φ m w a x → Rep (xT φ F) m w a x := fun h =>
 Rep.keep (φ := φ) (m := m) (φ' := xT φ F) (m' := m) (fun b o h => Or.inl h) (fun r cs h => ⟨rfl, h⟩) (fun id v h => ⟨v, h, Nat.le_refl _, fun _ => rfl⟩) h
theorem bF2 {φ : Phi} {w : World} (hR : RM φ m w) (hF : ObjsIn φ m w₀ w F) : RM (xT φ F) m w where
 var r cs h := by
  obtain ⟨arr, T, h1, h2, h3⟩ := hR.var r cs h
  exact ⟨arr, T, h1, ⟨h2.1, fun i a u e1 e2 => aBp hF (h2.2 i a u e1 e2)⟩, h3⟩
 inj := hR.inj
 vim r cs o h hi := by
  rcases hi with hi | ⟨p, hp, he⟩
  ·exact hR.vim r cs o h hi
  ·exact (hF p hp).2.2.1 (.inl ⟨r, cs, h, he.symm⟩)
 tok id b s e hid hk hse := by
  obtain ⟨arr, T, h1, h2, h3, h4, h5⟩ := hR.tok id b s e hid hk hse
  refine ⟨arr, T, h1, h2, fun o o1 o2 hi => ?_, h4, h5⟩
  rcases hi with hi | ⟨p, hp, he⟩
  ·exact h3 o o1 o2 hi
  ·exact (hF p hp).2.2.1 (.inr ⟨id, s, e, hid, by rw [he]; exact hk, hse⟩)
 tinj := hR.tinj
 imlt b o hi := by
  rcases hi with hi | ⟨p, hp, rfl⟩
  ·exact hR.imlt b o hi
  ·exact fY (hF p hp).1
theorem bXm {φ : Phi} {w : World} (hF : ObjsIn φ m w₀ w F) {a a' : AV} (h : Fz F a a') : ∀ {x : Value}, Rep φ m w a x → Rep (xT φ F) m w a' x := by
 induction h with
 | same a => exact aBp hF
 | lst g k rows rows' hl hr hw _ ih =>
  intro x hx
  cases hx with
  | lst _ _ _ a c val hcc hr0 ha hsp hcell hrep hg =>
   have old : ∀ (i : Nat) row' (j : Nat) x', rows'[i]? = some row' → row'[j]? = some x' → ∃ row y, rows[i]? = some row ∧ row[j]? = some y := fun i row' j x' e1 e2 => by
    have hi : i < rows.length := by rw [← hl]; exact (List.getElem?_eq_some_iff.1 e1).1
    have e3 : rows[i]? = some rows[i] := List.getElem?_eq_getElem hi
    have hj : j < rows[i].length := by rw [hw i _ e3, ← (hr i row' e1).1]; exact (List.getElem?_eq_some_iff.1 e2).1
    exact ⟨_, _, e3, List.getElem?_eq_getElem hj⟩
   rw [← hl]
   refine .lst .no k rows' a c val (by rw [hl]; exact hcc) hr ha hsp (fun ad i row' j x' e e1 e2 => ?_) (fun i row' j x' e1 e2 => ?_) trivial
   ·obtain ⟨row, y, e3, e4⟩ := old i row' j x' e1 e2
    obtain ⟨g1, g2⟩ := hcell ad i row j y e e3 e4
    exact ⟨.inl g1, g2⟩
   ·obtain ⟨row, y, e3, e4⟩ := old i row' j x' e1 e2
    exact ih i row row' j y x' e3 e1 e4 e2 (hrep i row j y e3 e4)
 | nil k =>
  intro x hx
  cases hx
  exact .lst .no k [] none 0 (fun _ _ => undef) (Nat.le_refl _) (fun i row h => by simp at h) (fun _ => rfl) (fun ad e _ => by cases e) (fun ad i row j x e e1 e2 => by cases e) (fun i row j x e1 e2 => by simp at e1) trivial
 | list b off sz n c cs rows g hb hn hc hr hg _ ih =>
  intro x hx
  cases hx
  subst hn
  obtain ⟨arr, T, h1, h2, h3, h4⟩ := (hF _ hb).1
  have cell : ∀ (i : Nat) row (j : Nat) x, rows[i]? = some row → row[j]? = some x → arr[off + i * sz + j]? = some (arr.getD (off + i * sz + j) undef) := fun i row j x e1 e2 => by
   have := (List.getElem?_eq_some_iff.1 (hg i row j x e1 e2)).1
   have hlt : off + i * sz + j < arr.size := by rw [h2.1]; exact this
   simp [Array.getD, hlt]
  refine .lst .no sz rows (some ⟨b, off, none⟩) c (fun i j => arr.getD (off + i * sz + j) undef) hc hr (fun e => by cases e) (fun ad e _ => by cases e; rfl) (fun ad i row j x e e1 e2 => ?_) (fun i row j x e1 e2 => ?_) trivial
  ·cases e
   have hc2 := cell i row j x e1 e2
   exact ⟨.inr ⟨_, hb, rfl⟩, by simp only [World.cell?, h1]; exact hc2, h4 _ _ hc2⟩
  ·exact ih i row j x e1 e2 (h2.2 _ _ _ (hg i row j x e1 e2) (cell i row j x e1 e2))
 | agg cs cs' hl _ ih =>
  intro x hx
  cases hx with
  | agg _ arr hn hr =>
   refine .agg cs' arr (by rw [hl]; exact hn) fun i a' u e1 e2 => ?_
   have hlt : i < cs.length := by rw [← hl]; exact (List.getElem?_eq_some_iff.1 e1).1
   exact ih i _ a' (List.getElem?_eq_getElem hlt) e1 (hr i _ u (List.getElem?_eq_getElem hlt) e2)
inductive FzEnv (F : Objs) : Env → Env → Prop
 | nil : FzEnv F [] []
 | cons (t : Nat) {a a' : AV} {e e' : Env} (h : Fz F a a') (hr : FzEnv F e e') : FzEnv F ((t, a) :: e) ((t, a') :: e')
theorem bYe {e e' : Env} (h : FzEnv F e e') (t : Nat) : Fz F (get e t) (get e' t) := by
 induction h with
 | nil => exact .same _
 | cons s h hr ih =>
  unfold get
  split
  ·exact h
  ·exact ih
theorem StF.rest {e' : Env} {a : Act} {w : World} (h : StF φ₀ m₀ w₀ nt e m F a w) (he : FzEnv F e e') : StF φ₀ m₀ w₀ nt e' m [] a w := by
 obtain ⟨φ, hR, hX, hE, hn, hdf, hF⟩ := h
 exact ⟨xT φ F, bF2 hR hF, aZk hX hF, fun t => bXm hF (bYe he t) (hE t), hn, hdf, fun p hp => by simp at hp⟩
theorem bMu {c : Code} {e' : Env} {Q : iS} (he : FzEnv F e e') (h : bE P φ₀ m₀ w₀ nt c e' m [] Q) : bE P φ₀ m₀ w₀ nt c e m F Q := fun a w hs => h a w (hs.rest he)
/-! ### a function that hands rows over -/
def wO (P : Program) (f : FuncId) (Pre : List AV → Mem → Prop) (kB : List AV → Mem → AV → Mem → Objs → Prop) : Prop :=
 ∀ args m, Pre args m → (∃ fn, P.funcs[f]? = some fn ∧ fn.body.isNone = false ∧ (fn.name == "runtime.NumGoroutine") = false) ∧
  ∀ φ w vals, RM φ m w → Reps φ m w args vals →
   Calls P f vals w fun e w' => ∃ x φ' r m' F, e = .returned x ∧ RM φ' m' w' ∧ Ext φ m w φ' m' w' ∧ Rep φ' m' w' r x ∧ ObjsIn φ' m' w w' F ∧ kB args m r m' F
theorem aO1 {φ : Phi} {w : World} (hR₀ : RM φ₀ m₀ w₀) {fn : Func} {a : Act} (hR : RM φ m w) (hX : Ext φ₀ m₀ w₀ φ m w) (hE : cX φ m w e a.tmps) {r : AV} {m' : Mem} (h : dL P false fn m₀ e m = some (r, m')) :
  ∃ x, (results fn a.tmps).run P w = .ok x w ∧ m' = bI m₀ m ∧ Rep (aFm φ m m₀.vars.length) m' w r x := by
 let val : ResultVar → Value := fun rv => match (vX a.tmps rv).run P w with
  | .ok x _ => x
  | _ => undef
 have hval : ∀ rv b, dP P e m rv = some b → (vX a.tmps rv).run P w = .ok (val rv) w ∧ Rep φ m w b (val rv) := by
  intro rv b hb
  obtain ⟨x, h1, h2⟩ := aE7 hR hE hb
  have : val rv = x := by simp [val, h1]
  rw [this]
  exact ⟨h1, h2⟩
 have hrun : (∀ rv ∈ fn.results.toList, (vX a.tmps rv).run P w = .ok (val rv) w) → (results fn a.tmps).run P w = .ok (if h : (fn.results.map val).size = 1 then (fn.results.map val)[0] else .tuple (fn.results.map val)) w := by
  intro hall
  have h1 := aGd (P := P) (w := w) (g := vX a.tmps) (r := val) hall
  have h2 : (fn.results.mapM (vX a.tmps)).run P w = .ok (fn.results.map val) w := by
   rw [Array.mapM_eq_mapM_toList, Sem.run_map, h1]
   show Result.ok (fn.results.toList.map val).toArray w = _
   congr 1
   apply Array.ext'
   simp
  rw [aNw]
  simp only [Sem.run_bind, h2, Result.andThen_ok, Sem.run_pure]
 unfold dL at h
 split at h
 ·rename_i rv hrv
  rw [Option.bind_eq_some_iff] at h
  obtain ⟨b, hb, hg⟩ := h
  obtain ⟨h1, h2⟩ := hval rv b hb
  have hg' : (fP m₀.vars.length m b).map (fun r => (r, bI m₀ m)) = some (r, m') := by
   unfold kJ at hg
   split at hg <;> first | exact hg | (rename_i hx; cases hx; done) | (cases hg; done)
  simp only [Option.map_eq_some_iff, Prod.mk.injEq] at hg'
  obtain ⟨r', hr', rfl, rfl⟩ := hg'
  refine ⟨val rv, ?_, rfl, tC hR h2 hr'⟩
  rw [hrun (by rw [hrv]; simpa using h1)]
  have e1 : fn.results = #[rv] := by apply Array.ext'; simpa using hrv
  simp [e1]
 ·rename_i rs hrs
  simp only [Option.map_eq_some_iff, Prod.mk.injEq, Option.bind_eq_some_iff] at h
  obtain ⟨vs, ⟨us, hus, hvs⟩, rfl, rfl⟩ := h
  obtain ⟨l1, s1⟩ := jS hus
  obtain ⟨l2, s2⟩ := jS hvs
  have hne : ¬ (fn.results.map val).size = 1 := by
   intro h1
   have h2 : fn.results.toList.length = 1 := by simpa using h1
   obtain ⟨q, hq⟩ := List.length_eq_one_iff.mp h2
   exact hrs q hq
  refine ⟨.tuple (fn.results.map val), ?_, rfl, ?_⟩
  ·rw [hrun fun rv hrv => ?_, dif_neg hne]
   obtain ⟨i, hi⟩ := List.getElem?_of_mem hrv
   have hil : i < us.length := by rw [l1]; exact (List.getElem?_eq_some_iff.mp hi).1
   obtain ⟨rv', h1, h2⟩ := s1 i _ (List.getElem?_eq_getElem hil)
   rw [hi] at h1
   cases h1
   exact (hval rv _ h2).1
  ·refine .tup vs _ (by simp [l2, l1]) fun i b u h1 h2 => ?_
   obtain ⟨c, hc, hcb⟩ := s2 i b h1
   obtain ⟨rv, hrv, hrc⟩ := s1 i c hc
   simp only [Array.getElem?_map, Option.map_eq_some_iff] at h2
   obtain ⟨rv', h3, rfl⟩ := h2
   have : fn.results.toList[i]? = some rv' := by simpa using h3
   rw [this] at hrv
   cases hrv
   exact tC hR (hval rv c hrc).2 hcb
theorem aZi {φ : Phi} {w : World} (hF : ObjsIn φ m w₀ w F) : ObjsIn (aFm φ m m₀.vars.length) (bI m₀ m) w₀ w F := fun p hp => by
 obtain ⟨f1, f2, f3, f4, f5, f6⟩ := lQ m₀ m
 obtain ⟨h1, h2, h3, h4⟩ := hF p hp
 refine ⟨?_, h2, fun ho => h3 ?_, fun o ho => ?_⟩
 ·obtain ⟨b, x⟩ := p
  cases x with
  | ob o => exact h1
  | arr cs =>
   obtain ⟨arr, T, g1, g2, g3, g4⟩ := h1
   refine ⟨arr, T, g1, ⟨g2.1, fun i a u e1 e2 => bSx (fun b o h => ⟨Or.inl h, rfl⟩) (g2.2 i a u e1 e2) ?_⟩, g3, g4⟩
   rw [List.all_eq_true] at g3
   exact g3 a (List.mem_of_getElem? e1)
 ·rcases ho with ⟨r, cs, hv, he⟩ | ⟨id, s, e, hid, hk, hse⟩
  ·exact .inl ⟨r, cs, (f2 r cs hv).2, he⟩
  ·exact .inr ⟨id, s, e, by omega, hk, hse⟩
 ·rcases ho with ho | ⟨r, cs, _, hv, he, _⟩
  ·exact h4 o ho
  ·exact h3 (.inl ⟨r, cs, hv, he.symm⟩)
def bEi (P : Program) (fn : Func) (m₀ : Mem) (R : AV → Mem → Objs → Prop) : iS
 | .normal, e, m, F => ∃ r m', dL P false fn m₀ e m = some (r, m') ∧ R r m' F
 | .ret, e, m, F => ∃ r m', dL P false fn m₀ e m = some (r, m') ∧ R r m' F
 | .exit _, _, _, _ => False
theorem aKr {f : FuncId} {fn : Func} {c : Code} (hf : P.funcs[f]? = some fn) (hb : fn.body = some c) {Pre : List AV → Mem → Prop} {kB : List AV → Mem → AV → Mem → Objs → Prop} (hn : (fn.name == "runtime.NumGoroutine") = false)
  (h : ∀ args m, Pre args m → args.length ≤ fn.ntmps ∧ ∀ φ w, bE P φ m w fn.ntmps c (vP args) m [] (bEi P fn m (kB args m))) : wO P f Pre kB := by
 intro args m hpre
 obtain ⟨hl, hx⟩ := h args m hpre
 refine ⟨⟨fn, hf, by rw [hb]; rfl, hn⟩, fun φ w vals hR hA => ?_⟩
 have hst : StF φ m w fn.ntmps (vP args) m [] { tmps := vals ++ Array.replicate (fn.ntmps - vals.size) undef, defers := [] } w :=
  ⟨φ, hR, Ext.refl .., aBj hA _, by simp; omega, rfl, fun p hp => by simp at hp⟩
 refine calls_of_wp hf hb (wp_mono (hx φ w _ _ hst) fun x a w' ⟨y, e, m1, F, h1, h2, h3⟩ => ?_)
 subst h1
 have fin : (∃ r m', dL P false fn m e m1 = some (r, m') ∧ kB args m r m' F) → a.defers = [] ∧ ∃ v, (results fn a.tmps).run P w' = .ok v w' ∧ ∃ x φ' r m' F, Ending.returned v = .returned x ∧ RM φ' m' w' ∧ Ext φ m w φ' m' w' ∧ Rep φ' m' w' r x ∧ ObjsIn φ' m' w w' F ∧ kB args m r m' F := by
  rintro ⟨r, m', hret, hpost⟩
  obtain ⟨φ1, hR1, hX1, hE1, hn1, hd1, hF1⟩ := h2
  obtain ⟨x, g1, rfl, g3⟩ := aO1 hR hR1 hX1 hE1 hret
  exact ⟨hd1, x, g1, x, aFm φ1 m1 m.vars.length, r, bI m m1, F, rfl, aUn hR hR1 hX1, aKm hX1, g3, aZi hF1, hpost⟩
 cases y with
 | normal => exact fin h3
 | ret => exact fin h3
 | exit id => exact h3.elim
/-- .. and its call. -/
theorem aWh {f : FuncId} {Pre : List AV → Mem → Prop} {kB : List AV → Mem → AV → Mem → Objs → Prop} (hf : wO P f Pre kB) {c : Call} {args : List AV} {d : Nat} (hg : wantedAV ops e o = some true) (hd : o.dst = some d) (hlt : d < nt) (ho : o.op = .call c)
  (hc : c.callee = .value (.func f)) (hargs : ∀ (φ : Phi) (w : World) (a : Act), cX φ m w e a.tmps → Reps φ m w args (c.args.map a.eval)) (hpre : Pre (args.map lI) m)
  (h : ∀ r m' F', kB (args.map lI) m r m' F' → (∀ p ∈ F', ∀ q ∈ F, p.1 ≠ q.1) → K ((d, r) :: e) m' (F' ++ F)) : dF P φ₀ m₀ w₀ nt ops o e m F K := fun K' Q hK a w hs => by
 obtain ⟨φ, hRM, hX, hE, hn, hdf, hF⟩ := hs
 rw [cW hE hg, if_pos rfl]
 left
 obtain ⟨⟨fn, hfn, hbody, hname⟩, hcalls⟩ := hf _ _ hpre
 have hreps := hcalls φ w (c.args.map a.eval) hRM (aDn (hargs φ w a hE))
 have hrun : (execOp a.eval o).run P w = .ok (.enter f (c.args.map a.eval)) w := by
  unfold execOp
  rw [ho]
  have hn : ¬ fn.name = "runtime.NumGoroutine" := by simpa using hname
  have hb : ¬ fn.body = none := by intro e; rw [e] at hbody; simp at hbody
  have hfv : a.eval (.func f) = .func (.func f) #[] #[] := rfl
  simp [resolve, hc, hfv, Deferred.ofValue, invoke, callFunc, hfn, hn, hb, Sem.run_bind, run_program]
 unfold Oper.wp
 rw [hrun, Oper.upon_enter]
 refine hreps.mono fun e' w' hh => ?_
 obtain ⟨x, φ', r, m', F', rfl, g1, g2, g3, g4, g5⟩ := hh
 have hF2 : ObjsIn φ' m' w₀ w' F' := fun p hp => by
  obtain ⟨k1, k2, k3, k4⟩ := g4 p hp
  exact ⟨k1, Nat.le_trans hX.size k2, k3, k4⟩
 refine hK _ _ _ _ _ (h r m' F' g5 fun p hp q hq he => ?_) ⟨φ', g1, hX.trans g2, ?_, by rw [gG]; exact hn, by rw [eQ]; exact hdf, fun p hp => ?_⟩
 ·have h1 := (g4 p hp).2.1
  have h2 := fY (hF q hq).1
  omega
 ·exact (hE.mono g2).put (by rw [hd]; exact dQ hlt _ _) hn g3 a.defers
 ·rcases List.mem_append.1 hp with hp | hp
  ·exact hF2 p hp
  ·exact fN hF g2 p hp
end
end
section
section
variable {P : Program} {call : CallF} {nt : Nat} {φ₀ : Phi} {m₀ : Mem} {w₀ : World} {ops : Array Oper}
variable {e e1 : Env} {m m1 : Mem} {F : Objs} {K : Env → Mem → Objs → Prop} {o : Oper} {av : AV}
/-- Any operation that yields a value. -/
theorem tW {d : Nat} (hg : wantedAV ops e o = some true) (hd : o.dst = some d) (hlt : d < nt)
  (hrun : ∀ (φ : Phi) (a : Act) (w : World), RM φ m w → Ext φ₀ m₀ w₀ φ m w → cX φ m w e a.tmps → ObjsIn φ m w₀ w F →
   ∃ x w' φ' av m' F', (execOp a.eval o).run P w = .ok (.value x) w' ∧ RM φ' m' w' ∧ Ext φ₀ m₀ w₀ φ' m' w' ∧ cX φ' m' w' e a.tmps ∧ Rep φ' m' w' av x ∧ ObjsIn φ' m' w₀ w' F' ∧ K ((d, av) :: e) m' F') :
  dF P φ₀ m₀ w₀ nt ops o e m F K := fun K' Q hK a w hs => by
 obtain ⟨φ, hRM, hX, hE, hn, hdf, hF⟩ := hs
 rw [cW hE hg, if_pos rfl]
 left
 obtain ⟨x, w', φ', av, m', F', hr, g1, g2, g6, g3, g4, g5⟩ := hrun φ a w hRM hX hE hF
 unfold Oper.wp
 rw [hr, Oper.upon_value, hd]
 exact hK _ m' _ _ _ g5 ⟨φ', g1, g2, g6.put (dQ hlt _ _) hn g3 a.defers, by rw [gG]; exact hn, by rw [eQ]; exact hdf, g4⟩
theorem kM {x y : Operand} {t t2 : TypeId} {c : Call} {xv yv v : Value} {w w' : World} {a : Act} (ho : o.op = .call c) (hc : c.callee = .builtin .append) (ha : c.args = #[x, y]) (hat : c.argTypes = #[t, t2]) (hx : a.eval x = xv) (hy : a.eval y = yv)
  (h : (Builtin.append_ #[t, t2] o.type #[xv, yv]).run P w = .ok v w') : (execOp a.eval o).run P w = .ok (.value v) w' := by
 unfold execOp
 rw [ho]
 simp only [resolve, hc, ha, hat, Sem.run_bind, Sem.run_pure, Result.andThen_ok, invoke]
 exact bW (by simpa [hx, hy] using h)
/-- Cells that a list's rows stand for. -/
theorem aSd {φ : Phi} {w : World} {k : Nat} (hk0 : 0 < k) : ∀ {ys : List (List AV)} {f : Nat → Value}, rC φ m w k ys f → Reps φ m w ys.flatten ((List.range (ys.length * k)).map f).toArray ∧ ys.flatten.all kD = true ∧ (∀ q, q < ys.length * k → one (f q) = true) ∧ ys.flatten.length = ys.length * k := by
 intro ys f h
 have hlen : ys.flatten.length = ys.length * k := by
  have : ∀ zs : List (List AV), (∀ row ∈ zs, row.length = k) → zs.flatten.length = zs.length * k := by
   intro zs
   induction zs with
   | nil => intro _; simp
   | cons r zs ih => intro hz; rw [List.flatten_cons, List.length_append, ih fun r hr => hz r (List.mem_cons_of_mem _ hr), hz r (List.mem_cons_self ..), List.length_cons, Nat.add_mul]; omega
  exact this ys fun row hr => by
   obtain ⟨i, hi⟩ := List.getElem?_of_mem hr
   exact (h.1 i row hi).1
 have hat : ∀ (zs : List (List AV)), (∀ (i : Nat) row, zs[i]? = some row → row.length = k) → ∀ (q : Nat) a, zs.flatten[q]? = some a → ∃ row, zs[q / k]? = some row ∧ row[q % k]? = some a := by
  intro zs
  induction zs with
  | nil => intro _ q a h; simp at h
  | cons r zs ih =>
   intro hz q a hq
   have hr : r.length = k := hz 0 r rfl
   rw [List.flatten_cons, List.getElem?_append] at hq
   split at hq
   ·rename_i hlt
    rw [hr] at hlt
    refine ⟨r, by rw [Nat.div_eq_of_lt hlt]; rfl, by rw [Nat.mod_eq_of_lt hlt]; exact hq⟩
   ·rename_i hlt
    rw [hr] at hq hlt
    obtain ⟨row, h1, h2⟩ := ih (fun i row hi => hz (i + 1) row (by simpa using hi)) (q - k) a hq
    have e1 : q / k = (q - k) / k + 1 := by
     have : q = (q - k) + k := by omega
     conv => lhs; rw [this]
     rw [Nat.add_div_right _ hk0]
    have e2 : q % k = (q - k) % k := by
     have : q = (q - k) + k := by omega
     conv => lhs; rw [this]
     rw [Nat.add_mod_right]
    exact ⟨row, by rw [e1, List.getElem?_cons_succ]; exact h1, by rw [e2]; exact h2⟩
 have hat' := hat ys fun i row hi => (h.1 i row hi).1
 refine ⟨⟨by simp [hlen], fun i a u h1 h2 => ?_⟩, ?_, fun q hq => ?_, hlen⟩
 ·obtain ⟨row, g1, g2⟩ := hat' i a h1
  have hi : i < ys.length * k := by rw [← hlen]; exact (List.getElem?_eq_some_iff.1 h1).1
  simp [hi] at h2
  subst h2
  have := (h.2 _ row _ a g1 g2).1
  rwa [Nat.div_add_mod'] at this
 ·rw [List.all_eq_true]
  intro a ha
  obtain ⟨q, hq⟩ := List.getElem?_of_mem ha
  obtain ⟨row, g1, g2⟩ := hat' q a hq
  have := (h.1 _ row g1).2
  rw [List.all_eq_true] at this
  exact this a (List.mem_of_getElem? g2)
 ·have hq2 : q < ys.flatten.length := by omega
  obtain ⟨row, g1, g2⟩ := hat' q _ (List.getElem?_eq_getElem hq2)
  have := (h.2 _ row _ _ g1 g2).2
  rwa [Nat.div_add_mod'] at this
/-- A new row of cells. -/
theorem qD {φ : Phi} {w : World} (hR : RM φ m w) (hF : ObjsIn φ m w₀ w F) (hw : w₀.heap.size ≤ w.heap.size) {cs : List AV} {arr : Array Value} (T : TypeId) (h1 : Reps φ m w cs arr) (h2 : cs.all kD = true) (h3 : ∀ (o : Nat) u, arr[o]? = some u → one u = true) :
  RM φ m (w.alloc (.cells arr T)) ∧ Ext φ m w φ m (w.alloc (.cells arr T)) ∧ ObjsIn φ m w₀ (w.alloc (.cells arr T)) ((w.heap.size, .arr cs) :: F) := by
 obtain ⟨hR', hX'⟩ := aQy hR (.cells arr T)
 refine ⟨hR', hX', fun p hp => ?_⟩
 rcases List.mem_cons.1 hp with rfl | hp
 ·exact ⟨⟨arr, T, heap_alloc_new w _, h1.mono hX', h2, h3⟩, hw, fun h => by have := bQd hR h; omega, fun o h => by have := hR.imlt _ _ h; omega⟩
 ·exact fN hF hX' p hp
theorem rH {e : TypeId} {z : List AV} {k : Nat} (hz : zeroCells P e = some z) (hzk : z.length = k) (hk0 : 0 < k) (hzok : z.all okCell = true) (w : World) :
  ∃ zv i, P.info? e = some i ∧ i.zero = some zv ∧ zv.cells.size = k ∧ ∀ n, (Builtin.zeroCells zv.cells n).size = n * k ∧ ∀ (o : Nat) u, (Builtin.zeroCells zv.cells n)[o]? = some u → one u = true := by
 obtain ⟨zv, hzr, hzreps⟩ := mC (P := P) (φ := aTl w) (m := ⟨[], []⟩) (w := w) hz
 cases hinfo : P.info? e with
 | none => simp [zeroCells, hinfo] at hz
 | some i =>
  have hiz : i.zero = some zv := by
   cases hq : i.zero with
   | none => simp [zeroCells, hinfo, hq] at hz
   | some q => simp [zeroValue, typeInfo, hinfo, hq] at hzr; rw [hzr]
  have hzs : zv.cells.size = k := by rw [hzreps.1]; exact hzk
  refine ⟨zv, i, rfl, hiz, hzs, fun n => ⟨by simp [Builtin.zeroCells, hzs], fun o u ho => ?_⟩⟩
  simp only [Builtin.zeroCells, Array.getElem?_map, Option.map_eq_some_iff] at ho
  obtain ⟨q, hq, rfl⟩ := ho
  have hm : q % zv.cells.size < zv.cells.size := Nat.mod_lt _ (by rw [hzs]; exact hk0)
  rw [getElem!_pos zv.cells _ hm]
  have hz' : q % zv.cells.size < z.length := by rw [← hzreps.1]; exact hm
  exact aDh (hzreps.2 _ _ _ (List.getElem?_eq_getElem hz') (Array.getElem?_eq_getElem hm)) (List.all_eq_true.1 hzok _ (List.getElem_mem hz'))
theorem qO {φ : Phi} {w : World} (l : List Value) : Reps φ m w (l.map .v) l.toArray := ⟨by simp, fun i a u h1 h2 => by
 simp only [List.getElem?_map, Option.map_eq_some_iff] at h1
 obtain ⟨y, h3, rfl⟩ := h1
 rw [List.getElem?_toArray, h3] at h2
 cases h2
 exact .v _⟩
/-- Elements appended to nothing: a row of its own. -/
theorem aTw {t t2 : TypeId} {k d : Nat} {x y : Operand} {c : Call} {g2 : Grow} {ys : List (List AV)} (hg : wantedAV ops e o = some true) (hd : o.dst = some d) (hlt : d < nt)
  (ho : o.op = .call c) (hc : c.callee = .builtin .append) (ha : c.args = #[x, y]) (hat : c.argTypes = #[t, t2]) (happ : mS P t t2 k = true) (hx : opd P e t x = .lst .full k []) (hy : opd P e t2 y = .lst g2 k ys) (h0 : 0 < ys.length) (hlim : ys.length ≤ lim)
  (h : ∀ (b c : Nat) (vs : List Value), ys.length ≤ c → (∀ p ∈ F, p.1 ≠ b) → vs.length = (c - ys.length) * k → K ((d, .v (bS b 0 ys.length c)) :: e) m ((b, .arr (ys.flatten ++ vs.map .v)) :: F)) : dF P φ₀ m₀ w₀ nt ops o e m F K :=
 tW hg hd hlt fun φ a w hR hX hE hF => by
  have hw := hX.size
  unfold mS at happ
  split at happ
  ·rename_i el hel
   split at happ
   ·rename_i k' b z hk hb hz
    simp only [Bool.and_eq_true, decide_eq_true_eq] at happ
    obtain ⟨⟨⟨⟨⟨rfl, hb4⟩, hzk⟩, hk0⟩, hzok⟩, h6⟩ := happ
    obtain ⟨e2, he2, rfl⟩ : ∃ e2, dB P t2 = some e2 ∧ e2 = el := by
     split at h6
     ·rename_i e2 he2; exact ⟨e2, he2, by simpa using h6⟩
     ·cases h6
    have hxr := fU (P := P) hE t x
    have hyr := fU (P := P) hE t2 y
    rw [hx] at hxr
    rw [hy] at hyr
    obtain ⟨ax, cx, f, hxv, hcx, hax, sx, rx, cellx, hgx⟩ := aBb hxr
    obtain ⟨ay, cy, f2, hyv, hcy, hay, sy, ry, celly, _⟩ := aBb hyr
    have hcx0 : cx = 0 := (show ([] : List (List AV)).length = cx from hgx).symm
    subst hcx0
    obtain ⟨zv, i, hi, hiz, hzs, hzc⟩ := rH (P := P) hz hzk hk0 hzok w
    have hik : i.size = k' := by simpa [cA, hi] using hk
    have hib : i.bytes = b := by simpa [lA, hi] using hb
    have hneed : (0 + ys.length) * i.bytes ≤ 140737488355328 := by
     rw [hib]
     calc (0 + ys.length) * b ≤ 4294967296 * 4096 := Nat.mul_le_mul (by unfold lim at hlim; omega) hb4
      _ ≤ 140737488355328 := by decide
    have hfit := growslice_fits (need := 0 + ys.length) (old := 0) (bytes := i.bytes) (by omega) hneed
    have fy : (Builtin.firstCells i.size ys.length (.slice ay ys.length cy)).run P w.drew = .ok ((List.range (ys.length * i.size)).map f2).toArray w.drew := by
     rw [hik]
     exact vM (φ := φ) (w := w) (fun e => by have := hay e; omega) (fun ad e h0 => sy ad e (by omega)) celly (fun ad _ j _ => rfl)
    have fx : (Builtin.firstCells i.size 0 (.slice ax 0 0)).run P w.drew = .ok #[] w.drew := by
     cases ax with
     | none => simp [Builtin.firstCells]
     | some ad => simp [Builtin.firstCells, loadCells, loadCellsFrom]
    have hrun := iU (P := P) (w := w) (ty := o.type) (t := t) (t2 := t2) (bH hel) (bH he2) hi hiz (a := ax) (n := 0) (c := 0) (a2 := ay) (n2 := ys.length) (c2 := cy) fx fy (by omega) (by unfold lim at hlim; omega) hfit
    have hcap := lN w (0 + ys.length) 0 e2
    generalize hC : grownCap w (0 + ys.length) 0 e2 = C at hrun hcap
    rw [hik] at hrun
    simp only [Nat.zero_add] at hrun hcap
    obtain ⟨q1, q2, q3, q4⟩ := aSd hk0 ry
    have hRd := oH hR
    have hXd := iR φ m w
    have hFd := fN hF hXd
    obtain ⟨hz1, hz2⟩ := hzc (C - ys.length)
    have harr : Reps φ m w.drew (ys.flatten ++ (Builtin.zeroCells zv.cells (C - ys.length)).toList.map .v) (#[] ++ ((List.range (ys.length * k')).map f2).toArray ++ Builtin.zeroCells zv.cells (C - ys.length)) := by
     have := gI (q1.mono hXd) (qO (φ := φ) (m := m) (w := w.drew) (Builtin.zeroCells zv.cells (C - ys.length)).toList)
     simpa using this
    obtain ⟨g1, g2, g3⟩ := qD (w₀ := w₀) hRd hFd hw e2 harr (by
     rw [List.all_append, q2, Bool.true_and, List.all_eq_true]
     intro a ha
     obtain ⟨v, _, rfl⟩ := List.mem_map.1 ha
     rfl) (fun o u hu => by
     rw [Array.getElem?_append] at hu
     split at hu
     ·rename_i hlt
      simp at hlt
      have : f2 o = u := by simpa [hlt] using hu
      rw [← this]
      exact q3 o hlt
     ·exact hz2 _ u hu)
    refine ⟨_, _, φ, .v (bS w.heap.size 0 ys.length C), m, _, kM ho hc ha hat hxv hyv hrun, g1, hX.trans (hXd.trans g2), hE.mono (hXd.trans g2), .v _, g3, h w.heap.size C (Builtin.zeroCells zv.cells (C - ys.length)).toList hcap (fun p hp he => ?_) (by simp [hz1])⟩
    have := fY (hF p hp).1
    omega
   ·cases happ
  ·cases happ
theorem nV {w w' : World} {b off n c k : Nat} {arr : Array Value} {T : TypeId} (hb : w.heap[b]? = some (.cells arr T (0, 0))) (hfit : off + n * k ≤ arr.size) (hw : ∀ o, w'.cell? ⟨b, o, none⟩ = w.cell? ⟨b, o, none⟩) :
  (Builtin.firstCells k n (bS b off n c)).run P w' = .ok ((List.range (n * k)).map fun q => arr.getD (off + q) undef).toArray w' := by
 simp only [Builtin.firstCells]
 refine run_loadCells (P := P) w' ⟨b, off, none⟩ (n * k) (fun q => arr.getD (off + q) undef) (fun j hj => ?_)
 rw [eU rfl, hw]
 have hlt : off + j < arr.size := by omega
 simp [World.cell?, hb, Array.getD, hlt]
/-- Elements appended to a row of one's own: in place, or into a new one. -/
theorem aFq {t t2 : TypeId} {k d b off n c : Nat} {cs : List AV} {x y : Operand} {cl : Call} {g2 : Grow} {ys : List (List AV)} (hg : wantedAV ops e o = some true) (hd : o.dst = some d) (hlt : d < nt)
  (ho : o.op = .call cl) (hc : cl.callee = .builtin .append) (ha : cl.args = #[x, y]) (hat : cl.argTypes = #[t, t2]) (happ : mS P t t2 k = true) (hb : (b, XOb.arr cs) ∈ F) (hx : opd P e t x = .v (bS b off n c)) (hfitc : off + c * k ≤ cs.length) (hnc : n ≤ c)
  (hy : opd P e t2 y = .lst g2 k ys) (hlim : n + ys.length ≤ lim)
  (h1 : n + ys.length ≤ c → K ((d, .v (bS b off (n + ys.length) c)) :: e) m (eS F b (.arr (cB cs (off + n * k) ys.flatten))))
  (h2 : c < n + ys.length → ∀ (b' c' : Nat) (vs : List Value), n + ys.length ≤ c' → (∀ p ∈ F, p.1 ≠ b') → vs.length = (c' - (n + ys.length)) * k → K ((d, .v (bS b' 0 (n + ys.length) c')) :: e) m ((b', .arr ((cs.drop off).take (n * k) ++ ys.flatten ++ vs.map .v)) :: F)) : dF P φ₀ m₀ w₀ nt ops o e m F K :=
 tW hg hd hlt fun φ a w hR hX hE hF => by
  have hw := hX.size
  unfold mS at happ
  split at happ
  ·rename_i el hel
   split at happ
   ·rename_i k' bb z hk hbb hz
    simp only [Bool.and_eq_true, decide_eq_true_eq] at happ
    obtain ⟨⟨⟨⟨⟨rfl, hb4⟩, hzk⟩, hk0⟩, hzok⟩, h6⟩ := happ
    obtain ⟨e2, he2, rfl⟩ : ∃ e2, dB P t2 = some e2 ∧ e2 = el := by
     split at h6
     ·rename_i e2 he2; exact ⟨e2, he2, by simpa using h6⟩
     ·cases h6
    have hxv := eI (P := P) hE hx
    have hyr := fU (P := P) hE t2 y
    rw [hy] at hyr
    obtain ⟨arr, T, a1, a2, a3, a4⟩ := (hF _ hb).1
    obtain ⟨ay, cy, f2, hyv, hcy, hay, sy, ry, celly, _⟩ := aBb hyr
    obtain ⟨zv, i, hi, hiz, hzs, hzc⟩ := rH (P := P) hz hzk hk0 hzok w
    have hik : i.size = k' := by simpa [cA, hi] using hk
    have hib : i.bytes = bb := by simpa [lA, hi] using hbb
    obtain ⟨q1, q2, q3, q4⟩ := aSd hk0 ry
    have hmul : n * k' ≤ c * k' := Nat.mul_le_mul_right _ hnc
    have hlenA : arr.size = cs.length := a2.1
    by_cases hroom : n + ys.length ≤ c
    ·have hmul2 : (n + ys.length) * k' ≤ c * k' := Nat.mul_le_mul_right _ hroom
     rw [Nat.add_mul] at hmul2
     have fy : (Builtin.firstCells k' ys.length (.slice ay ys.length cy)).run P w = .ok ((List.range (ys.length * k')).map f2).toArray w :=
      vM (φ := φ) (w := w) (fun e => by have := hay e; omega) (fun ad e h0 => sy ad e (by omega)) celly (fun ad _ j _ => rfl)
     have hrun := pE (P := P) (w := w) (ty := o.type) (t := t) (bH hel) (bH he2) hk (a := some ⟨b, off, none⟩) (n := n) (c := c) (a2 := ay) (c2 := cy) fy hroom
     let vs : List Value := (List.range (ys.length * k')).map f2
     have hvl : vs.length = ys.length * k' := by simp [vs]
     have hone : ∀ v ∈ vs, one v = true := fun v hv => by
      obtain ⟨q, hq, rfl⟩ := List.mem_map.1 hv
      exact q3 q (List.mem_range.1 hq)
     have hst := run_storeCells_at P b (off + n * k') T vs 0 arr w a1 (by rw [hvl]; omega) (fun v hv => by rw [← zK]; exact hone v hv)
     simp only [Nat.add_zero] at hst
     rw [nD a1] at hst
     have hi2 : (∀ {a : AV} {x : Value}, Rep φ m w a x → Rep φ m (cY w b (.cells (arr.toList.take (off + n * k') ++ vs ++ arr.toList.drop (off + n * k' + vs.length)).toArray T (0, 0))) a x) → XIn φ m (cY w b (.cells (arr.toList.take (off + n * k') ++ vs ++ arr.toList.drop (off + n * k' + vs.length)).toArray T (0, 0))) b (.arr (cB cs (off + n * k') ys.flatten)) := fun hrep =>
      aA6 a2 a3 a4 q1 q2 hone (by rw [q4]; omega) hrep (iE w _ (fY (hF _ hb).1))
     obtain ⟨hR', hX', hF', hrep⟩ := StF.put_ob (o' := .cells (arr.toList.take (off + n * k') ++ vs ++ arr.toList.drop (off + n * k' + vs.length)).toArray T (0, 0)) (a := a) hR hX hF hb hi2
     refine ⟨_, _, φ, _, m, _, kM ho hc ha hat hxv hyv ?_, hR', hX', fun t => hrep (hE t), .v _, hF', h1 hroom⟩
     rw [hrun]
     simp only
     rw [eU rfl, show (⟨b, off, none⟩ : Addr).off = off from rfl]
     rw [show List.map f2 (List.range (ys.length * k')) = vs from rfl, hst]
     rfl
    ·have hneed : (n + ys.length) * i.bytes ≤ 140737488355328 := by
      rw [hib]
      calc (n + ys.length) * bb ≤ 4294967296 * 4096 := Nat.mul_le_mul hlim hb4
       _ ≤ 140737488355328 := by decide
     have hfit := growslice_fits (need := n + ys.length) (old := c) (bytes := i.bytes) (by omega) hneed
     have fy : (Builtin.firstCells i.size ys.length (.slice ay ys.length cy)).run P w.drew = .ok ((List.range (ys.length * i.size)).map f2).toArray w.drew := by
      rw [hik]
      exact vM (φ := φ) (w := w) (fun e => by have := hay e; omega) (fun ad e h0 => sy ad e (by omega)) celly (fun ad _ j _ => rfl)
     have fx : (Builtin.firstCells i.size n (bS b off n c)).run P w.drew = .ok ((List.range (n * i.size)).map fun q => arr.getD (off + q) undef).toArray w.drew := by
      rw [hik]
      exact nV a1 (by omega) (fun o => rfl)
     have hrun := iU (P := P) (w := w) (ty := o.type) (t := t) (t2 := t2) (bH hel) (bH he2) hi hiz (a := some ⟨b, off, none⟩) (n := n) (c := c) (a2 := ay) (n2 := ys.length) (c2 := cy) fx fy (by omega) (by unfold lim at hlim; omega) hfit
     have hcap := lN w (n + ys.length) c e2
     generalize hC : grownCap w (n + ys.length) c e2 = C at hrun hcap
     rw [hik] at hrun
     have hRd := oH hR
     have hXd := iR φ m w
     have hFd := fN hF hXd
     obtain ⟨hz1, hz2⟩ := hzc (C - (n + ys.length))
     have hold : Reps φ m w ((cs.drop off).take (n * k')) ((List.range (n * k')).map fun q => arr.getD (off + q) undef).toArray := by
      refine ⟨by simp; omega, fun i a u e1 e2 => ?_⟩
      rw [List.getElem?_take] at e1
      split at e1
      ·rename_i hi
       rw [List.getElem?_drop] at e1
       simp [hi] at e2
       subst e2
       have hlt : off + i < arr.size := by rw [hlenA]; exact (List.getElem?_eq_some_iff.1 e1).1
       exact a2.2 _ _ _ e1 (by simp [Array.getD, hlt])
      ·cases e1
     have hoone : ∀ q, q < n * k' → one (arr.getD (off + q) undef) = true := fun q hq => by
      have hlt : off + q < arr.size := by omega
      exact a4 (off + q) _ (by simp [Array.getD, hlt])
     have harr : Reps φ m w.drew ((cs.drop off).take (n * k') ++ ys.flatten ++ (Builtin.zeroCells zv.cells (C - (n + ys.length))).toList.map .v)
       (((List.range (n * k')).map fun q => arr.getD (off + q) undef).toArray ++ ((List.range (ys.length * k')).map f2).toArray ++ Builtin.zeroCells zv.cells (C - (n + ys.length))) := by
      have := gI (gI (hold.mono hXd) (q1.mono hXd)) (qO (φ := φ) (m := m) (w := w.drew) (Builtin.zeroCells zv.cells (C - (n + ys.length))).toList)
      simpa using this
     obtain ⟨g1, g2, g3⟩ := qD (w₀ := w₀) hRd hFd hw e2 harr (by
      rw [List.all_append, List.all_append, q2, Bool.and_true, Bool.and_eq_true]
      rw [List.all_eq_true] at a3
      refine ⟨List.all_eq_true.2 fun x hx => a3 x (List.mem_of_mem_drop (List.mem_of_mem_take hx)), List.all_eq_true.2 fun a ha => ?_⟩
      obtain ⟨v, _, rfl⟩ := List.mem_map.1 ha
      rfl) (fun o u hu => by
      rw [Array.getElem?_append] at hu
      split at hu
      ·rename_i hlt
       rw [Array.getElem?_append] at hu
       split at hu
       ·rename_i hlt2
        simp at hlt2
        have : arr.getD (off + o) undef = u := by simpa [hlt2] using hu
        rw [← this]
        exact hoone o hlt2
       ·rename_i hlt2
        simp at hlt2 hlt
        have hq : o - n * k' < ys.length * k' := by omega
        have : f2 (o - n * k') = u := by simpa [hq] using hu
        rw [← this]
        exact q3 _ hq
      ·exact hz2 _ u hu)
     refine ⟨_, _, φ, .v (bS w.heap.size 0 (n + ys.length) C), m, _, kM ho hc ha hat hxv hyv hrun, g1, hX.trans (hXd.trans g2), hE.mono (hXd.trans g2), .v _, g3, h2 (by omega) w.heap.size C (Builtin.zeroCells zv.cells (C - (n + ys.length))).toList hcap (fun p hp he => ?_) (by simp [hz1])⟩
     have := fY (hF p hp).1
     omega
   ·cases happ
  ·cases happ
end
end
section
section
variable {P : Program} {call : CallF} {nt : Nat} {φ₀ : Phi} {m₀ : Mem} {w₀ : World} {ops : Array Oper}
variable {e e1 : Env} {m m1 : Mem} {F : Objs} {K : Env → Mem → Objs → Prop} {o : Oper} {av : AV}
theorem jO {t t1 t2 el : TypeId} {x : Operand} {lo hi : Option Operand} {k b off n c l h : Nat} (hg : wantedAV ops e o = some true) (ho : o.op = .slice t x lo hi none) (ht : dB P t = some el) (hk : cA P el = some k)
  (hx : opd P e t1 x = .v (bS b off n c)) (hlo : fH (lo.map (opd P e t2)) 0 = some l) (hhi : fH (hi.map (opd P e t2)) n = some h) (c1 : l ≤ h) (c2 : h ≤ c) (hnc : n ≤ c)
  (hp : putAV nt o.dst (.v (bS b (if c = l then off else off + l * k) (h - l) (c - l))) e = some e1) (hh : K e1 m F) : dF P φ₀ m₀ w₀ nt ops o e m F K :=
 aDo hg hp (fun φ a w _ hE hF => by
  refine ⟨_, ?_, .v _⟩
  unfold execOp
  rw [ho]
  simp only [eI (P := P) hE hx]
  refine bW ?_
  have hb := nZ (P := P) (w := w) (b := true) (xW (P := P) hE t2 lo) (xW (P := P) hE t2 hi) hlo hhi c1 c2 (fun _ => hnc)
  have ha : (⟨b, off, none⟩ : Addr).add (l * k) = ⟨b, off + l * k, none⟩ := eU rfl _
  simp only [Option.map_none, Instr.sliceAt, Instr.slice, Sem.run_bind, aN (bH ht), Result.andThen_ok, hb, bL hk, Sem.run_pure]
  split <;> simp [ha, *]) hh
theorem aH2 {t : TypeId} {el : TypeId} {x : Operand} {cl : Call} {b off n c : Nat} (hg : wantedAV ops e o = some true) (ho : o.op = .call cl) (hc : cl.callee = .builtin .len) (ha : cl.args = #[x]) (hat : cl.argTypes = #[t]) (ht : dB P t = some el)
  (hx : opd P e t x = .v (bS b off n c)) (hp : putAV nt o.dst (.v (.int .i64 (n : Int))) e = some e1) (hh : K e1 m F) : dF P φ₀ m₀ w₀ nt ops o e m F K :=
 aDo hg hp (fun φ a w _ hE hF => by
  refine ⟨_, ?_, .v _⟩
  have hxv := eI (P := P) hE hx
  unfold execOp
  rw [ho]
  simp only [resolve, hc, ha, hat, Sem.run_bind, Sem.run_pure, Result.andThen_ok, invoke]
  have hrun : (Builtin.len_ #[t] o.type #[bS b off n c]).run P w = .ok (.int .i64 (n : Int)) w := by simp [Builtin.len_, aN (bH ht), goInt]
  exact bW (by simpa [hxv] using hrun)) hh
theorem bI9 {t : TypeId} {el : TypeId} {x : Operand} {cl : Call} {b off n c : Nat} (hg : wantedAV ops e o = some true) (ho : o.op = .call cl) (hc : cl.callee = .builtin .cap) (ha : cl.args = #[x]) (hat : cl.argTypes = #[t]) (ht : dB P t = some el)
  (hx : opd P e t x = .v (bS b off n c)) (hp : putAV nt o.dst (.v (.int .i64 (c : Int))) e = some e1) (hh : K e1 m F) : dF P φ₀ m₀ w₀ nt ops o e m F K :=
 aDo hg hp (fun φ a w _ hE hF => by
  refine ⟨_, ?_, .v _⟩
  have hxv := eI (P := P) hE hx
  unfold execOp
  rw [ho]
  simp only [resolve, hc, ha, hat, Sem.run_bind, Sem.run_pure, Result.andThen_ok, invoke]
  have hrun : (Builtin.cap_ #[t] o.type #[bS b off n c]).run P w = .ok (.int .i64 (c : Int)) w := by simp [Builtin.cap_, aN (bH ht), goInt]
  exact bW (by simpa [hxv] using hrun)) hh
end
end
end Go.Proofs.YtmockbddhhmmeaaGreat.Ev
