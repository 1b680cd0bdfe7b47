/- Regions that draw their order, with objects beside the memory. -/
import Derived.Test.YtmockbddhhmmeaaGreatMa6
import Derived.Laws.IdiomRangeMap
import Derived.Test.YtmockbddhhmmeaaGreatMa5
namespace Go.Proofs.YtmockbddhhmmeaaGreat.Ev
open Go Go.Proofs
set_option maxRecDepth 10000
set_option maxHeartbeats 8000000
set_option linter.unusedVariables false
set_option linter.unusedSimpArgs false
section
/-- What an operation does. -/
def XR (P : Program) (φ₀ : Phi) (m₀ : Mem) (w₀ : World) (e : Env) (m : Mem) (F : Objs) (o : Oper) (av : AV) (m' : Mem) (F' : Objs) : Prop :=
 ∀ (φ : Phi) (a : Act) (w : World), RM φ m w → Ext φ₀ m₀ w₀ φ m w → cX φ m w e a.tmps → ObjsIn φ m w₀ w F → ∀ (K : Act → World → Prop) (Q : Exit → Act → World → Prop),
  (∀ x w' φ', RM φ' m' w' → Ext φ₀ m₀ w₀ φ' m' w' → (∀ b y, Rep φ m w b y → Rep φ' m' w' b y) → Rep φ' m' w' av x → ObjsIn φ' m' w₀ w' F' → K (a.put o.dst x) w') → o.wp P a w K Q
/-- .. wherever its operands have these values. -/
def XRA (P : Program) (φ₀ : Phi) (m₀ : Mem) (w₀ : World) (e : Env) (m : Mem) (F : Objs) (o : Oper) (av : AV) (m' : Mem) (F' : Objs) : Prop :=
 ∀ e', (∀ x ∈ o.op.operands.toList, ∀ t, opd P e' t x = opd P e t x) → XR P φ₀ m₀ w₀ e' m F o av m' F'
section
variable {P : Program} {call : CallF} {l : List Oper} {nt : Nat} {E : Nat → Env} {A : Nat → AV} {MS : (Nat → Bool) → Mem} {FS : (Nat → Bool) → Objs}
structure InvX (l : List Oper) (nt : Nat) (MS : (Nat → Bool) → Mem) (FS : (Nat → Bool) → Objs) (A : Nat → AV) (e : Env) (φ₀ : Phi) (m₀ : Mem) (w₀ : World) (S : Nat → Bool) (a : Act) (w : World) : Prop where
 st : ∃ φ, RM φ (MS S) w ∧ Ext φ₀ m₀ w₀ φ (MS S) w ∧ Slots l (fun j => S j = true) A e φ (MS S) w a.tmps ∧ ObjsIn φ (MS S) w₀ w (FS S)
 size : nt ≤ a.tmps.size
 defers : a.defers = []
 closed : ClosedS l S
variable {φ₀ : Phi} {m₀ : Mem} {w₀ : World}
theorem bI5 (hD : DrawnS l) (hT : ∀ (k : Nat) o, l[k]? = some o → putAV nt o.dst (A k) (E k) = some (E (k + 1)))
  (hW : ∀ (k : Nat) o, l[k]? = some o → ∃ b, wantedAV l.toArray (E k) o = some b ∧ (b = false → A k = .v (.tuple #[])))
  (hM : ∀ S (i : Nat) o, l[i]? = some o → ClosedS l S → S i = false → (∀ e ∈ o.after.toList, Region.binds .any e = true → S e.on = true) →
   (wantedAV l.toArray (E i) o = some true → XRA P φ₀ m₀ w₀ (E i) (MS S) (FS S) o (A i) (MS (ins S i)) (FS (ins S i))) ∧ (wantedAV l.toArray (E i) o = some false → MS (ins S i) = MS S ∧ FS (ins S i) = FS S))
  {S : Nat → Bool} {a : Act} {w : World} (hI : InvX l nt MS FS A (E 0) φ₀ m₀ w₀ S a w) {i : Nat} {o : Oper} (ho : l[i]? = some o) (hni : S i = false)
  (hready : ∀ e ∈ o.after.toList, Region.binds .any e = true → S e.on = true) {K : Act → World → Prop} {Q : Exit → Act → World → Prop}
  (hK : ∀ a' w', InvX l nt MS FS A (E 0) φ₀ m₀ w₀ (ins S i) a' w' → K a' w') : wpOp P l.toArray Q i K a w := by
 obtain ⟨⟨φ, hR, hX, hS, hF⟩, hsize, hdef, hclosed⟩ := hI
 have hil : i < l.length := (List.getElem?_eq_some_iff.mp ho).1
 have hni' : ¬ S i = true := by rw [hni]; simp
 have hlook : ∀ t, t ∈ o.looksAt l.toArray → Rep φ (MS S) w (get (E i) t) (a.tmps.getD t undef) := by
  intro t ht
  by_cases hx : ∃ (j : Nat) (oj : Oper), j < i ∧ l[j]? = some oj ∧ oj.dst = some t
  ·obtain ⟨j, oj, hji, hj, hd⟩ := hx
   rw [aAs hD hT hj hd i (by omega) hji]
   refine (hS t).1 j oj hj hd ?_
   rcases hD.apart j i oj o hji hj ho with hb | hap
   ·exact fD (S := fun j => S j = true) hD.edge hclosed i o ho hready j hb
   ·exact absurd ht ((Oper.apart_spec hap).1 t hd)
  ·rw [uA hT i (by omega) fun j oj hji hj hd => hx ⟨j, oj, hji, hj, hd⟩]
   refine (hS t).2 fun j oj hj hd hl => ?_
   rcases Nat.lt_trichotomy j i with hlt | heq | hgt
   ·exact hx ⟨j, oj, hlt, hj, hd⟩
   ·subst heq; exact hni' hl
   ·rcases hD.apart i j o oj hgt ho hj with hb | hap
    ·exact hni' (fD (S := fun j => S j = true) hD.edge hclosed j oj hj (hclosed j oj hj hl) i hb)
    ·exact absurd ht ((Oper.apart_spec hap).2.2 t hd)
 have hput := hT i o ho
 have after : ∀ x w' φ', RM φ' (MS (ins S i)) w' → Ext φ₀ m₀ w₀ φ' (MS (ins S i)) w' → (∀ b y, Rep φ (MS S) w b y → Rep φ' (MS (ins S i)) w' b y) → Rep φ' (MS (ins S i)) w' (A i) x → ObjsIn φ' (MS (ins S i)) w₀ w' (FS (ins S i)) → InvX l nt MS FS A (E 0) φ₀ m₀ w₀ (ins S i) (a.put o.dst x) w' := by
  intro x w' φ' g1 g2 g4 g3 g5
  refine ⟨⟨φ', g1, g2, fun t => ⟨fun j oj hj hd hl => ?_, fun hno => ?_⟩, g5⟩, by rw [gG]; exact hsize, by rw [eQ]; exact hdef, fun j oj hj hl e he hb => ?_⟩
  ·by_cases e : j = i
   ·subst e
    rw [hj] at ho
    cases ho
    rw [aO7 hd hput hsize]
    exact g3
   ·have hne : o.dst ≠ some t := by
     rcases Nat.lt_or_gt_of_ne e with h | h
     ·exact hD.dst j i oj o h hj ho t hd
     ·exact fun hod => hD.dst i j o oj h ho hj t hod hd
    rw [qH hne]
    have hl' : S j = true := by simpa [ins, e] using hl
    exact g4 _ _ ((hS t).1 j oj hj hd hl')
  ·have hne : o.dst ≠ some t := fun hd => hno i o ho hd (by simp [ins])
   rw [qH hne]
   exact g4 _ _ ((hS t).2 fun j oj hj hd hl => hno j oj hj hd (by simp [ins, hl]))
  ·by_cases h : j = i
   ·subst h
    rw [hj] at ho
    cases ho
    simp [ins, hready e he hb]
   ·have hl' : S j = true := by simpa [ins, h] using hl
    simp [ins, hclosed j oj hj hl' e he hb]
 let E' : Env := (o.looksAt l.toArray).map fun s => (s, get (E i) s)
 have hE' : cX φ (MS S) w E' a.tmps := by
  intro t
  rw [nR]
  split
  ·exact hlook t ‹_›
  ·exact .junk _
 have hget : ∀ t, t ∈ o.looksAt l.toArray → get E' t = get (E i) t := fun t ht => by rw [nR, if_pos ht]
 have hwant : wantedAV l.toArray E' o = wantedAV l.toArray (E i) o := by
  unfold wantedAV
  cases hg : o.guard with
  | none => rfl
  | some g =>
   obtain ⟨j, want⟩ := g
   simp only []
   cases hj : (l.toArray[j]?).bind (·.dst) with
   | none => rfl
   | some d =>
    simp only []
    rw [hget d (by simp [Oper.looksAt, hg]; right; simpa using hj)]
 have hag : ∀ x ∈ o.op.operands.toList, ∀ t, opd P E' t x = opd P (E i) t x := by
  intro x hx t
  cases x with
  | tmp s => exact hget s (by simp only [Oper.looksAt, List.mem_append, List.mem_filterMap]; exact .inl ⟨_, hx, rfl⟩)
  | const v => rfl
  | func f => rfl
  | global g => rfl
 unfold wpOp
 rw [List.getElem?_toArray, ho]
 simp only []
 obtain ⟨h1, h2⟩ := hM S i o ho hclosed hni hready
 obtain ⟨b, hb, hA⟩ := hW i o ho
 cases b with
 | true =>
  rw [cW hE' (hwant.trans hb), if_pos rfl]
  left
  exact h1 hb E' hag φ a w hR hX hE' hF K Q fun x w' φ' g1 g2 g4 g3 g5 => hK _ _ (after x w' φ' g1 g2 g4 g3 g5)
 | false =>
  rw [cW hE' (hwant.trans hb), if_neg (by simp)]
  obtain ⟨e, e2⟩ := h2 hb
  refine hK _ _ (after undef w φ ?_ ?_ ?_ ?_ ?_)
  ·rw [e]; exact hR
  ·rw [e]; exact hX
  ·rw [e]; exact fun _ _ h => h
  ·rw [hA rfl]; exact .v _
  ·rw [e, e2]; exact hF
theorem bD3 (hD : DrawnS l) (hT : ∀ (k : Nat) o, l[k]? = some o → putAV nt o.dst (A k) (E k) = some (E (k + 1)))
  (hW : ∀ (k : Nat) o, l[k]? = some o → ∃ b, wantedAV l.toArray (E k) o = some b ∧ (b = false → A k = .v (.tuple #[])))
  (hM : ∀ S (i : Nat) o, l[i]? = some o → ClosedS l S → S i = false → (∀ e ∈ o.after.toList, Region.binds .any e = true → S e.on = true) →
   (wantedAV l.toArray (E i) o = some true → XRA P φ₀ m₀ w₀ (E i) (MS S) (FS S) o (A i) (MS (ins S i)) (FS (ins S i))) ∧ (wantedAV l.toArray (E i) o = some false → MS (ins S i) = MS S ∧ FS (ins S i) = FS S))
  {m' : Mem} {F' : Objs} (hend : ∀ S, (∀ j, j < l.length → S j = true) → MS S = m' ∧ FS S = F') {Q : Exit → Act → World → Prop} (hQ : ∀ a w, StF φ₀ m₀ w₀ nt (E l.length) m' F' a w → Q .normal a w) :
  ∀ (n : Nat) (listed : Array Bool) (a : Act) (w : World), listed.size = l.length → unl (fun j => listed.getD j false) l.length ≤ n →
   InvX l nt MS FS A (E 0) φ₀ m₀ w₀ (fun j => listed.getD j false) a w → wpAny P .any l.toArray Q n listed a w := by
 have done : ∀ (listed : Array Bool) a w, (∀ j, j < l.length → listed.getD j false = true) → InvX l nt MS FS A (E 0) φ₀ m₀ w₀ (fun j => listed.getD j false) a w → Q .normal a w := by
  intro listed a w hall hI
  obtain ⟨⟨φ, hR, hX, hS, hF⟩, hsize, hdef, hclosed⟩ := hI
  obtain ⟨hMe, hFe⟩ := hend _ hall
  rw [hMe] at hR hX hS hF
  rw [hFe] at hF
  refine hQ a w ⟨φ, hR, hX, fun t => ?_, hsize, hdef, hF⟩
  by_cases hx : ∃ (j : Nat) (oj : Oper), l[j]? = some oj ∧ oj.dst = some t
  ·obtain ⟨j, oj, hj, hd⟩ := hx
   have hjl : j < l.length := (List.getElem?_eq_some_iff.mp hj).1
   rw [aAs hD hT hj hd l.length (Nat.le_refl _) hjl]
   exact (hS t).1 j oj hj hd (hall j hjl)
  ·rw [uA hT l.length (Nat.le_refl _) fun j oj hji hj hd => hx ⟨j, oj, hj, hd⟩]
   exact (hS t).2 fun j oj hj hd => absurd ⟨j, oj, hj, hd⟩ hx
 have rdy : ∀ (listed : Array Bool) i, listed.size = l.length → (i ∈ Region.ready .any l.toArray listed ↔ ∃ o, l[i]? = some o ∧ listed.getD i false = false ∧ ∀ e ∈ o.after.toList, Region.binds .any e = true → listed.getD e.on false = true) := by
  intro listed i hs
  have gd : ∀ j, j < l.length → listed.getD j true = listed.getD j false := by
   intro j hj
   simp [Array.getD, hs, hj]
  rw [mem_ready]
  constructor
  ·rintro ⟨h1, o, h2, h3⟩
   have ho : l[i]? = some o := by simpa using h2
   exact ⟨o, ho, by rw [← gd i (List.getElem?_eq_some_iff.mp ho).1]; exact h1, fun e he hb => h3 e (by simpa using he) hb⟩
  ·rintro ⟨o, ho, h1, h3⟩
   exact ⟨by rw [gd i (List.getElem?_eq_some_iff.mp ho).1]; exact h1, o, by simpa using ho, fun e he hb => h3 e (by simpa using he) hb⟩
 have noneReady : ∀ (listed : Array Bool), listed.size = l.length → Region.ready .any l.toArray listed = [] → ∀ j, j < l.length → listed.getD j false = true := by
  intro listed hs hn j
  induction j using Nat.strongRecOn with
  | _ j ih =>
   intro hj
   have ho : l[j]? = some l[j] := List.getElem?_eq_getElem hj
   cases hl : listed.getD j false with
   | true => rfl
   | false =>
    have : j ∈ Region.ready .any l.toArray listed := (rdy listed j hs).mpr ⟨_, ho, hl, fun e he hb => ih e.on (hD.edge j _ ho e he hb) (Nat.lt_trans (hD.edge j _ ho e he hb) hj)⟩
    rw [hn] at this
    cases this
 intro n
 induction n with
 | zero =>
  intro listed a w hs hu hI
  have hall := aF7 l.length (by omega : unl (fun j => listed.getD j false) l.length = 0)
  refine ⟨?_, done listed a w hall hI⟩
  cases hr : Region.ready .any l.toArray listed with
  | nil => rfl
  | cons i r =>
   obtain ⟨o, ho, h2, _⟩ := (rdy listed i hs).mp (by rw [hr]; simp)
   rw [hall i (List.getElem?_eq_some_iff.mp ho).1] at h2
   cases h2
 | succ n ih =>
  intro listed a w hs hu hI
  refine ⟨fun hn => done listed a w (noneReady listed hs hn) hI, fun i hi => ?_⟩
  obtain ⟨o, ho, h2, h3⟩ := (rdy listed i hs).mp hi
  have hil : i < l.length := (List.getElem?_eq_some_iff.mp ho).1
  have hset : ∀ j, (listed.setIfInBounds i true).getD j false = (decide (j = i) || listed.getD j false) := by
   intro j
   by_cases e : j = i
   ·subst e; simp [Array.getD, hs, hil]
   ·have e' : i ≠ j := fun h => e h.symm
    simp only [Array.getD_eq_getD_getElem?, Array.getElem?_setIfInBounds_ne e', e, decide_false, Bool.false_or]
  refine bI5 hD hT hW hM hI ho h2 h3 fun a' w' hI' => ih _ a' w' (by simpa using hs) ?_ ?_
  ·have := aKn (f := fun j => listed.getD j false) (g := fun j => (listed.setIfInBounds i true).getD j false) h2 hset l.length
   rw [if_pos hil] at this
   omega
  ·have e : (fun j => (listed.setIfInBounds i true).getD j false) = ins (fun j => listed.getD j false) i := by
    funext j
    rw [hset j]
    rfl
   rw [e]
   exact hI'
theorem bOk (hC : dU P call) {e : Env} {m m' : Mem} {F : Objs} {o : Oper} {av : AV} (hk : evOp P call e m o = some (av, m')) : XRA P φ₀ m₀ w₀ e m F o av m' F := fun e' hag φ a w hR hX hE hF K Q hK => by
 refine aI1 hC hR hE (by rw [← hk]; exact aDj hag) fun x w' φ' g1 g2 g3 => ?_
 exact hK x w' φ' g1 (hX.trans g2) (fun b y h => h.mono g2) g3 (fN hF g2)
theorem aT5 {e : Env} {m : Mem} {F : Objs} {o : Oper} {av : AV} (hrun : ∀ (e' : Env), (∀ x ∈ o.op.operands.toList, ∀ t, opd P e' t x = opd P e t x) → ∀ (φ : Phi) (a : Act) (w : World), RM φ m w → cX φ m w e' a.tmps → ObjsIn φ m w₀ w F → ∃ x, (execOp a.eval o).run P w = .ok (.value x) w ∧ Rep φ m w av x) :
  XRA P φ₀ m₀ w₀ e m F o av m F := fun e' hag φ a w hR hX hE hF K Q hK => by
 obtain ⟨x, h1, h2⟩ := hrun e' hag φ a w hR hE hF
 unfold Oper.wp
 rw [h1, Oper.upon_value]
 exact hK x w φ hR hX (fun _ _ h => h) h2 hF
theorem bRy {e : Env} {m : Mem} {F : Objs} {o : Oper} {b : Nat} {ob ob' : XOb} (hd : o.dst = none) (hb : (b, ob) ∈ F)
  (hrun : ∀ (e' : Env), (∀ x ∈ o.op.operands.toList, ∀ t, opd P e' t x = opd P e t x) → ∀ (φ : Phi) (a : Act) (w : World), RM φ m w → cX φ m w e' a.tmps → ObjsIn φ m w₀ w F → ∃ o', (execOp a.eval o).run P w = .ok .skip (cY w b o') ∧ ((∀ {a : AV} {x : Value}, Rep φ m w a x → Rep φ m (cY w b o') a x) → XIn φ m (cY w b o') b ob')) :
  XRA P φ₀ m₀ w₀ e m F o (.v undef) m (eS F b ob') := fun e' hag φ a w hR hX hE hF K Q hK => by
 obtain ⟨o', h1, h2⟩ := hrun e' hag φ a w hR hE hF
 unfold Oper.wp
 rw [h1, Oper.upon_skip, hd]
 obtain ⟨hR', hX', hF', hrep⟩ := StF.put_ob (a := a) hR hX hF hb h2
 have := hK undef _ φ hR' hX' (fun _ _ h => hrep h) (.v _) hF'
 rw [hd] at this
 exact this
/-- Such a region, in the text's order: all but the last one leave memory and objects as they are; the last one has all others ahead of it. -/
def cA5 (l : List Oper) : Bool := (List.range (l.length - 1)).all fun i => ((masks l []).getD (l.length - 1) 0).testBit i
def eZ (P : Program) (φ₀ : Phi) (m₀ : Mem) (w₀ : World) (nt : Nat) (ops : Array Oper) (m : Mem) (F : Objs) (K : Env → Mem → Objs → Prop) : List Oper → Env → Prop
 | [], e => K e m F
 | o :: rest, e =>
  (wantedAV ops e o = some false ∧ ∃ e1, putAV nt o.dst (.v (.tuple #[])) e = some e1 ∧ eZ P φ₀ m₀ w₀ nt ops m F K rest e1) ∨
  (wantedAV ops e o = some true ∧ ∃ av e1, XRA P φ₀ m₀ w₀ e m F o av m F ∧ putAV nt o.dst av e = some e1 ∧ eZ P φ₀ m₀ w₀ nt ops m F K rest e1) ∨
  (rest = [] ∧ wantedAV ops e o = some true ∧ ∃ av e1 m1 F1, XRA P φ₀ m₀ w₀ e m F o av m1 F1 ∧ putAV nt o.dst av e = some e1 ∧ K e1 m1 F1)
theorem aLq {ops : Array Oper} {m : Mem} {F : Objs} {K : Env → Mem → Objs → Prop} : ∀ {l : List Oper} {e : Env}, eZ P φ₀ m₀ w₀ nt ops m F K l e →
  ∃ (E : Nat → Env) (A : Nat → AV) (m' : Mem) (F' : Objs), E 0 = e ∧ (∀ (k : Nat) o, l[k]? = some o → putAV nt o.dst (A k) (E k) = some (E (k + 1))) ∧
   (∀ (k : Nat) o, l[k]? = some o → ∃ b, wantedAV ops (E k) o = some b ∧ (b = false → A k = .v (.tuple #[]))) ∧
   (∀ (k : Nat) o, l[k]? = some o → k + 1 < l.length → wantedAV ops (E k) o = some true → XRA P φ₀ m₀ w₀ (E k) m F o (A k) m F) ∧
   (∀ (k : Nat) o, l[k]? = some o → k + 1 = l.length → wantedAV ops (E k) o = some true → XRA P φ₀ m₀ w₀ (E k) m F o (A k) m' F') ∧
   (∀ (k : Nat) o, l[k]? = some o → k + 1 = l.length → wantedAV ops (E k) o = some false → m' = m ∧ F' = F) ∧ (l = [] → m' = m ∧ F' = F) ∧ K (E l.length) m' F'
 | [], e, h => ⟨fun _ => e, fun _ => .junk, m, F, rfl, fun k o h => by simp at h, fun k o h => by simp at h, fun k o h => by simp at h, fun k o h => by simp at h, fun k o h => by simp at h, fun _ => ⟨rfl, rfl⟩, h⟩
 | o :: rest, e, h => by
  have more : ∀ (av : AV) (e1 : Env), putAV nt o.dst av e = some e1 → (∃ b, wantedAV ops e o = some b ∧ (b = false → av = .v (.tuple #[]))) → (wantedAV ops e o = some true → XRA P φ₀ m₀ w₀ e m F o av m F) → eZ P φ₀ m₀ w₀ nt ops m F K rest e1 →
    ∃ (E : Nat → Env) (A : Nat → AV) (m' : Mem) (F' : Objs), E 0 = e ∧ (∀ (k : Nat) o', (o :: rest)[k]? = some o' → putAV nt o'.dst (A k) (E k) = some (E (k + 1))) ∧
     (∀ (k : Nat) o', (o :: rest)[k]? = some o' → ∃ b, wantedAV ops (E k) o' = some b ∧ (b = false → A k = .v (.tuple #[]))) ∧
     (∀ (k : Nat) o', (o :: rest)[k]? = some o' → k + 1 < (o :: rest).length → wantedAV ops (E k) o' = some true → XRA P φ₀ m₀ w₀ (E k) m F o' (A k) m F) ∧
     (∀ (k : Nat) o', (o :: rest)[k]? = some o' → k + 1 = (o :: rest).length → wantedAV ops (E k) o' = some true → XRA P φ₀ m₀ w₀ (E k) m F o' (A k) m' F') ∧
     (∀ (k : Nat) o', (o :: rest)[k]? = some o' → k + 1 = (o :: rest).length → wantedAV ops (E k) o' = some false → m' = m ∧ F' = F) ∧ (o :: rest = [] → m' = m ∧ F' = F) ∧ K (E (o :: rest).length) m' F' := by
   intro av e1 hp hw hx hr
   obtain ⟨E, A, m', F', h0, h1, h2, h3, h4, h5, h7, h6⟩ := aLq hr
   refine ⟨fun k => match k with | 0 => e | k + 1 => E k, fun k => match k with | 0 => av | k + 1 => A k, m', F', rfl, fun k o' ho => ?_, fun k o' ho => ?_, fun k o' ho hl => ?_, fun k o' ho hl => ?_, fun k o' ho hl => ?_, (fun hh => by cases hh), h6⟩
   ·cases k with
    | zero => cases ho; show putAV nt o.dst av e = some (E 0); rw [h0]; exact hp
    | succ k => exact h1 k o' (by simpa using ho)
   ·cases k with
    | zero => cases ho; exact hw
    | succ k => exact h2 k o' (by simpa using ho)
   ·cases k with
    | zero => cases ho; exact hx
    | succ k => exact h3 k o' (by simpa using ho) (by simpa using hl)
   ·cases k with
    | zero =>
     cases ho
     have hre : rest = [] := List.eq_nil_of_length_eq_zero (by simpa using hl.symm)
     obtain ⟨r1, r2⟩ := h7 hre
     rw [r1, r2]
     exact hx
    | succ k => exact h4 k o' (by simpa using ho) (by simpa using hl)
   ·cases k with
    | zero =>
     cases ho
     have hre : rest = [] := List.eq_nil_of_length_eq_zero (by simpa using hl.symm)
     exact fun _ => h7 hre
    | succ k => exact h5 k o' (by simpa using ho) (by simpa using hl)
  rcases h with ⟨hw, e1, hp, hr⟩ | ⟨hw, av, e1, hx, hp, hr⟩ | ⟨rfl, hw, av, e1, m1, F1, hx, hp, hK⟩
  ·exact more _ e1 hp ⟨false, hw, fun _ => rfl⟩ (fun h => by rw [hw] at h; cases h) hr
  ·exact more av e1 hp ⟨true, hw, fun h => by cases h⟩ (fun _ => hx) hr
  ·refine ⟨fun k => match k with | 0 => e | _ + 1 => e1, fun _ => av, m1, F1, rfl, fun k o' ho => ?_, fun k o' ho => ?_, fun k o' ho hl => ?_, fun k o' ho hl => ?_, fun k o' ho hl => ?_, (fun hh => by cases hh), hK⟩
   ·cases k with
    | zero => cases ho; exact hp
    | succ k => simp at ho
   ·cases k with
    | zero => cases ho; exact ⟨true, hw, fun h => by cases h⟩
    | succ k => simp at ho
   ·simp at hl
   ·cases k with
    | zero => cases ho; exact fun _ => hx
    | succ k => simp at ho
   ·cases k with
    | zero => cases ho; exact fun h => by rw [hw] at h; cases h
    | succ k => simp at ho
theorem aK6 (hm : P.follows .mixedOrders = true) {id : Nat} {l2 : Option (List Nat)} {F : Objs} {Q : iS} {e : Env} {m : Mem} (hD : aDp l = true) (hL : cA5 l = true)
  (h : eZ P φ₀ m₀ w₀ nt l.toArray m F (fun e' m' F' => ∀ e2, Ev.restr l2 e' = e2 → Q .normal e2 m' F') l e) : bE P φ₀ m₀ w₀ nt (.region id l.toArray true) e m F Q := fun a w hs => by
 obtain ⟨E, A, m', F', h0, h1, h2, h3, h4, h5, h7, h6⟩ := aLq h
 obtain ⟨φ, hRM, hX, hE, hn, hdf, hF⟩ := hs
 have hx := iR φ m w
 have hDS := aIf hD
 let n := l.length
 let MS : (Nat → Bool) → Mem := fun S => if S (n - 1) = true ∧ 0 < n then m' else m
 let FS : (Nat → Bool) → Objs := fun S => if S (n - 1) = true ∧ 0 < n then F' else F
 have hMS : ∀ S, S (n - 1) = false → MS S = m ∧ FS S = F := fun S hs => ⟨if_neg (by rw [hs]; simp), if_neg (by rw [hs]; simp)⟩
 have hMS' : ∀ S, S (n - 1) = true → 0 < n → MS S = m' ∧ FS S = F' := fun S hs hn => ⟨if_pos ⟨hs, hn⟩, if_pos ⟨hs, hn⟩⟩
 have key := bD3 (P := P) (l := l) (nt := nt) (E := E) (A := A) (MS := MS) (FS := FS) (φ₀ := φ₀) (m₀ := m₀) (w₀ := w₀) (m' := m') (F' := F') (Q := aS3 φ₀ m₀ w₀ nt Q) hDS h1 h2 (fun S i o ho hcl hni hready => by
  have hil : i < n := (List.getElem?_eq_some_iff.mp ho).1
  by_cases hi : i + 1 < n
  ·have hlast : S (n - 1) = false := by
    cases hs : S (n - 1) with
    | false => rfl
    | true =>
     have hon : l[n - 1]? = some (l[n - 1]'(by show n - 1 < n; omega)) := List.getElem?_eq_getElem (by show n - 1 < n; omega)
     have hb : ((masks l []).getD (n - 1) 0).testBit i = true := by
      have := List.all_eq_true.1 hL i (List.mem_range.2 (by show i < n - 1; omega))
      exact this
     have := fD (S := fun j => S j = true) hDS.edge hcl (n - 1) _ hon (hcl (n - 1) _ hon hs) i hb
     rw [hni] at this
     cases this
   have hins : ins S i (n - 1) = false := by
    unfold ins
    rw [hlast, Bool.or_false]
    exact decide_eq_false (by omega)
   obtain ⟨a1, a2⟩ := hMS S hlast
   obtain ⟨b1, b2⟩ := hMS (ins S i) hins
   rw [a1, a2, b1, b2]
   exact ⟨fun hw => h3 i o ho hi hw, fun _ => ⟨rfl, rfl⟩⟩
  ·have hin : i = n - 1 := by omega
   have hlast : S (n - 1) = false := by rw [← hin]; exact hni
   have hins : ins S i (n - 1) = true := by unfold ins; rw [hin]; simp
   obtain ⟨a1, a2⟩ := hMS S hlast
   obtain ⟨b1, b2⟩ := hMS' (ins S i) hins (by omega)
   rw [a1, a2, b1, b2]
   exact ⟨fun hw => h4 i o ho (by show i + 1 = n; omega) hw, fun hw => h5 i o ho (by show i + 1 = n; omega) hw⟩) (fun S hall => by
  by_cases hn0 : 0 < n
  ·exact hMS' S (hall (n - 1) (by show n - 1 < n; omega)) hn0
  ·obtain ⟨r1, r2⟩ := h7 (List.eq_nil_of_length_eq_zero (by show n = 0; omega))
   exact ⟨by rw [r1]; exact if_neg (by omega), by rw [r2]; exact if_neg (by omega)⟩) (fun a' w' hst => ⟨.normal, _, m', F', rfl, hst.restr l2, h6 _ rfl⟩)
  l.length (Array.replicate l.length false) a { w with drawn := w.drawn + 1 } (by simp) (aTd ..)
 have no : ∀ j, (Array.replicate l.length false).getD j false = false := by
  intro j
  simp [Array.getD]
 have e0 : (fun j => (Array.replicate l.length false).getD j false) = fun _ => false := by funext j; exact no j
 rw [e0] at key
 refine wp_region_any hm ?_
 obtain ⟨z1, z2⟩ := hMS (fun _ => false) rfl
 have := key ⟨⟨φ, by rw [z1]; exact oH hRM, by rw [z1]; exact hX.trans hx, by
  rw [z1]
  exact fun t => ⟨fun j o _ _ hl => absurd hl (by simp), fun _ => by rw [h0]; exact (hE t).mono hx⟩, by rw [z1, z2]; exact fN hF hx⟩, hn, hdf, fun j o _ hl => absurd hl (by simp)⟩
 simpa using this
end
end
section
section
variable {P : Program} {call : CallF} {nt : Nat} {φ₀ : Phi} {m₀ : Mem} {w₀ : World} {ops : Array Oper} {rest : List Oper}
variable {e e1 : Env} {m m1 : Mem} {F F1 : Objs} {K : Env → Mem → Objs → Prop} {o : Oper} {av : AV}
/-! ### steps of such a region, in the text's order -/
theorem bO5 (h : K e m F) : eZ P φ₀ m₀ w₀ nt ops m F K [] e := h
theorem pS (hw : wantedAV ops e o = some true) (hx : XRA P φ₀ m₀ w₀ e m F o av m F) (hp : putAV nt o.dst av e = some e1) (h : eZ P φ₀ m₀ w₀ nt ops m F K rest e1) : eZ P φ₀ m₀ w₀ nt ops m F K (o :: rest) e :=
 .inr (.inl ⟨hw, av, e1, hx, hp, h⟩)
theorem aS7 (hw : wantedAV ops e o = some true) (hx : XRA P φ₀ m₀ w₀ e m F o av m1 F1) (hp : putAV nt o.dst av e = some e1) (h : K e1 m1 F1) : eZ P φ₀ m₀ w₀ nt ops m F K [o] e :=
 .inr (.inr ⟨rfl, hw, av, e1, m1, F1, hx, hp, h⟩)
theorem bXj (hC : dU P call) {d : Nat} (hg : o.guard = none) (hd : o.dst = some d) (hlt : d < nt) (hk : evOp P call e m o = some (av, m)) (h : eZ P φ₀ m₀ w₀ nt ops m F K rest ((d, av) :: e)) : eZ P φ₀ m₀ w₀ nt ops m F K (o :: rest) e :=
 pS (by unfold wantedAV; rw [hg]) (bOk hC hk) (by rw [hd]; exact dQ hlt _ _) h
theorem bQh (hC : dU P call) {d j g : Nat} {want : Bool} (hg : o.guard = some (j, want)) (hj : (ops[j]?).bind (·.dst) = some g) (hb : get e g = .v (.bool want)) (hd : o.dst = some d) (hlt : d < nt) (hk : evOp P call e m o = some (av, m))
  (h : eZ P φ₀ m₀ w₀ nt ops m F K rest ((d, av) :: e)) : eZ P φ₀ m₀ w₀ nt ops m F K (o :: rest) e :=
 pS (by unfold wantedAV; rw [hg]; simp [hj, hb]) (bOk hC hk) (by rw [hd]; exact dQ hlt _ _) h
theorem bW3 {d j g : Nat} {want b : Bool} (hg : o.guard = some (j, want)) (hj : (ops[j]?).bind (·.dst) = some g) (hb : get e g = .v (.bool b)) (hne : b ≠ want) (hd : o.dst = some d) (hlt : d < nt)
  (h : eZ P φ₀ m₀ w₀ nt ops m F K rest ((d, .v (.tuple #[])) :: e)) : eZ P φ₀ m₀ w₀ nt ops m F K (o :: rest) e :=
 .inl ⟨by unfold wantedAV; rw [hg]; simp [hj, hb, hne], _, by rw [hd]; exact dQ hlt _ _, h⟩
theorem bN8 {d j g : Nat} {want : Bool} {a : Array Value} (hg : o.guard = some (j, want)) (hj : (ops[j]?).bind (·.dst) = some g) (hb : get e g = .v (.tuple a)) (hd : o.dst = some d) (hlt : d < nt)
  (h : eZ P φ₀ m₀ w₀ nt ops m F K rest ((d, .v (.tuple #[])) :: e)) : eZ P φ₀ m₀ w₀ nt ops m F K (o :: rest) e :=
 .inl ⟨by unfold wantedAV; rw [hg]; simp [hj, hb], _, by rw [hd]; exact dQ hlt _ _, h⟩
/-! ### rows -/
theorem aC0 {φ : Phi} {w : World} {a : Act} {e' : Env} (hE : cX φ m w e' a.tmps) (hag : ∀ x ∈ o.op.operands.toList, ∀ t, opd P e' t x = opd P e t x) {t : TypeId} {x : Operand} {z : Value} (hm : x ∈ o.op.operands.toList) (h : opd P e t x = .v z) : a.eval x = z :=
 eI (P := P) hE ((hag x hm t).trans h)
theorem aGb {t t1 t2 el : TypeId} {x i : Operand} {k b off n c j : Nat} {kk : IntKind} (ho : o.op = .indexAddr t x i) (ht : dB P t = some el) (hk : cA P el = some k)
  (hx : opd P e t1 x = .v (bS b off n c)) (hi : opd P e t2 i = .v (.int kk (j : Int))) (hj : j < n) : XRA P φ₀ m₀ w₀ e m F o (.v (tT b (off + j * k))) m F :=
 aT5 fun e' hag φ a w _ hE hF => by
  refine ⟨_, ?_, .v _⟩
  have q1 := aC0 hE hag (by rw [ho]; simp [Op.operands]) hx
  have q2 := aC0 hE hag (by rw [ho]; simp [Op.operands]) hi
  unfold execOp
  rw [ho]
  simp only [q1, q2]
  refine bW ?_
  have h0 : (0 : Int) ≤ (j : Int) := by omega
  have h1 : (j : Int) < (n : Int) := by omega
  have ha : (⟨b, off, none⟩ : Addr).add (j * k) = ⟨b, off + j * k, none⟩ := eU rfl _
  simp [Instr.indexAt, asIntOf, aN (bH ht), hj, bL hk, ha]
theorem aZt {t t1 : TypeId} {x : Operand} {b off : Nat} {cs : List AV} (ho : o.op = .load t x) (hb : (b, XOb.arr cs) ∈ F) (hx : opd P e t1 x = .v (tT b off)) (hl : mK P t cs off = some av) : XRA P φ₀ m₀ w₀ e m F o av m F :=
 aT5 fun e' hag φ a w _ hE hF => by
  have q1 := aC0 hE hag (by rw [ho]; simp [Op.operands]) hx
  have hc := aY9 (hF _ hb).1 off
  have key : ∃ z, (Instr.loadAt t (tT b off)).run P w = .ok z w ∧ Rep φ m w av z := by
   unfold mK at hl
   split at hl
   ·rename_i k hagg hsz
    split at hl
    ·rename_i hk
     simp only [Option.some.injEq] at hl
     subst hl
     obtain ⟨arr, hrun, hreps⟩ := aC1 (P := P) hc (k := k) (by rw [List.length_drop]; omega)
     exact ⟨.agg arr, by simp [Instr.loadAt, Instr.sureAddr, loadVar, nN hagg, bL hsz, hrun], .agg _ _ hreps.1 hreps.2⟩
    ·cases hl
   ·rename_i k hagg hsz
    obtain ⟨hs, val, hv⟩ := hc
    have h0 : (cs.drop off)[0]? = some av := by rw [List.getElem?_drop, Nat.add_zero]; exact hl
    obtain ⟨h1, h2⟩ := hv 0 av h0
    exact ⟨val 0, by simp only [Nat.add_zero] at h1; simp [Instr.loadAt, Instr.sureAddr, loadVar, nN hagg, h1], h2⟩
   ·cases hl
  obtain ⟨z, h1, h2⟩ := key
  refine ⟨z, ?_, h2⟩
  unfold execOp
  rw [ho]
  simp only [q1]
  exact bW h1
theorem aU6 {t t1 t2 : TypeId} {x y : Operand} {b off k : Nat} {cs row : List AV} {bv : AV} (hd : o.dst = none) (ho : o.op = .store t x y) (hb : (b, XOb.arr cs) ∈ F) (hx : opd P e t1 x = .v (tT b off))
  (hy : opd P e t2 y = bv) (hr : aJm bv = some row) (hk : cA P t = some k) (hl : row.length = k) (hfit : off + k ≤ cs.length) : XRA P φ₀ m₀ w₀ e m F o (.v undef) m (eS F b (.arr (cB cs off row))) :=
 bRy hd hb (fun e' hag φ a w hR hE hF => by
  obtain ⟨arr, T, h1, h2, h3, h4⟩ := (hF _ hb).1
  have q1 := aC0 hE hag (by rw [ho]; simp [Op.operands]) hx
  have hyr := fU (P := P) hE t2 y
  rw [hag y (by rw [ho]; simp [Op.operands]) t2, hy] at hyr
  obtain ⟨g1, g2⟩ := bLs hyr hr
  have hvl : (a.eval y).cells.size = k := by rw [g1.1, hl]
  have hone : ∀ v ∈ (a.eval y).cells.toList, one v = true := fun v hv => by
   obtain ⟨i, hi⟩ := List.getElem?_of_mem hv
   exact g2 i v (by simpa using hi)
  refine ⟨.cells (arr.toList.take off ++ (a.eval y).cells.toList ++ arr.toList.drop (off + (a.eval y).cells.toList.length)).toArray T (0, 0), ?_, fun hrep => ?_⟩
  ·unfold execOp
   rw [ho]
   simp only [q1]
   refine bAn ?_
   have hst := run_storeCells_at P b off T (a.eval y).cells.toList 0 arr w h1 (by have := h2.1; simp only [Array.length_toList]; omega) (fun v hv => by rw [← zK]; exact hone v hv)
   simp only [Nat.add_zero] at hst
   rw [← nD h1]
   simp only [Instr.storeAt, Instr.sureAddr, Sem.run_bind, Sem.run_pure, Result.andThen_ok, storeVar, bL hk, Sem.run_ite, hvl]
   simpa using hst
  ·exact aA6 h2 h3 h4 (by simpa using g1) (bIb hr) hone (by rw [hl]; exact hfit) hrep (iE w _ (fY (hF _ hb).1)))
end
section
variable {P : Program} {nt : Nat} {φ₀ : Phi} {m₀ : Mem} {w₀ : World} {ops : Array Oper} {e : Env} {m : Mem} {F : Objs} {K : Env → Mem → Objs → Prop} {o : Oper} {κ : Type} {enc : κ → Value} {kt et mt : TypeId}
end
section
variable {P : Program} {call : CallF} {nt : Nat} {φ₀ : Phi} {m₀ : Mem} {w₀ : World} {ops : Array Oper} {rest : List Oper}
variable {e e1 : Env} {m m1 : Mem} {F F1 : Objs} {K : Env → Mem → Objs → Prop} {o : Oper} {av : AV}
variable {κ : Type} [DecidableEq κ] {enc : κ → Value} {kt et mt : TypeId} {w : World}
/-! ### a map written -/
theorem aX1 {k : κ} {v : Value} : ∀ {l : List (κ × Value)} {j i : Nat} {u : Value}, rB k l j = some (i, u) → aB6 k v l = bJ2 l (i - j) v
 | [], _, _, _, h => by cases h
 | (q, u0) :: r, j, i, u, h => by
  unfold rB at h
  unfold aB6
  split at h
  ·rename_i hq
   cases h
   rw [if_pos hq]
   simp [bJ2]
  ·rename_i hq
   obtain ⟨h1, _⟩ := aHu h
   rw [if_neg hq, aX1 h, show i - j = (i - (j + 1)) + 1 by omega]
   simp [bJ2]
theorem aQs {k : κ} {v : Value} : ∀ {l : List (κ × Value)} {j : Nat}, rB k l j = none → aB6 k v l = l ++ [(k, v)]
 | [], _, _ => rfl
 | (q, u0) :: r, j, h => by
  unfold rB at h
  unfold aB6
  split at h
  ·cases h
  ·rename_i hq
   rw [if_neg hq, aQs h]
   rfl
end
section
variable {P : Program} {nt : Nat} {φ₀ : Phi} {m₀ : Mem} {w₀ : World} {ops : Array Oper} {e e1 : Env} {m : Mem} {F : Objs} {K : Env → Mem → Objs → Prop} {o : Oper} {κ : Type} {enc : κ → Value}
end
end
section
theorem bXe {A B : Prop} {P : Program} {call : CallF} (hC : dU P call) (k : B) (h : dU P call → B → A := by intro hC k; (repeat (first | ((first | refine' bXj hC rfl rfl (by decide) ?_ ?_ | refine' bQh hC rfl rfl (by simp only [Ev.get, reduceIte, Nat.reduceEqDiff]; first | done | rfl) rfl (by decide) ?_ ?_); rotate_left 1; (focus (simp only [go_sem, reduceIte, Nat.reduceEqDiff, reduceCtorEq, Int.reduceEq]; first | done | rfl))) | refine bW3 rfl rfl (by simp only [Ev.get, reduceIte, Nat.reduceEqDiff]; first | done | rfl) (by decide) rfl (by decide) ?_ | refine bN8 rfl rfl rfl rfl (by decide) ?_ | (refine bO5 ?_; intro e2 h2; simp only [go_sem, reduceIte, Nat.reduceEqDiff] at h2; subst h2))); exact k) : A := h hC k
theorem bGy {A B F1 : Prop} {P : Program} {call : CallF} (hC : dU P call) (f1 : F1) (k : B) (h : dU P call → F1 → B → A := by intro hC f1 k; (repeat (first | ((first | refine' bXj hC rfl rfl (by decide) ?_ ?_ | refine' bQh hC rfl rfl (by simp only [Ev.get, reduceIte, Nat.reduceEqDiff, f1]; first | done | rfl) rfl (by decide) ?_ ?_); rotate_left 1; (focus (simp only [go_sem, reduceIte, Nat.reduceEqDiff, reduceCtorEq, Int.reduceEq, f1]; first | done | rfl))) | refine bW3 rfl rfl (by simp only [Ev.get, reduceIte, Nat.reduceEqDiff, f1]; first | done | rfl) (by decide) rfl (by decide) ?_ | refine bN8 rfl rfl rfl rfl (by decide) ?_ | (refine bO5 ?_; intro e2 h2; simp only [go_sem, reduceIte, Nat.reduceEqDiff] at h2; subst h2))); exact k) : A := h hC f1 k
end
section
theorem vlt {m : Mem} {r : Nat} {cs : List AV} (h : m.var r = some cs) : r < m.vars.length ∧ m.vars[r]? = some (some cs) := by
 unfold Mem.var at h
 cases e : m.vars[r]? with
 | none => rw [e] at h; cases h
 | some x =>
  rw [e] at h
  cases x with
  | none => cases h
  | some c =>
   cases h
   exact ⟨(List.getElem?_eq_some_iff.1 e).1, rfl⟩
def Mem.putv (m : Mem) (q : Nat) (cs : List AV) : Mem := { m with vars := m.vars.set q (some cs) }
inductive Loc where
 | old (q : Nat)
 | new (i : Nat)
def Loc.at (L : Nat) : Loc → Nat
 | .old q => q
 | .new i => L + i
def Loc.ok (L : Nat) : Loc → Prop
 | .old q => q < L
 | .new _ => True
structure FTrace (P : Program) (call : CallF) (nt : Nat) (l : List Oper) (m0 : Mem) (E : Nat → Env) (M : Nat → Mem) (A : Nat → AV) (fp : Nat → Option (Bool × Nat)) : Prop where
 m0 : M 0 = m0
 put : ∀ (k : Nat) o, l[k]? = some o → putAV nt o.dst (A k) (E k) = some (E (k + 1))
 kind : ∀ (k : Nat) o, l[k]? = some o →
  (wantedAV l.toArray (E k) o = some false ∧ A k = .v (.tuple #[]) ∧ M (k + 1) = M k ∧ fp k = none) ∨ (wantedAV l.toArray (E k) o = some true ∧
   (((∀ m2, evOp P call (E k) m2 o = some (A k, m2)) ∧ M (k + 1) = M k ∧ fp k = none) ∨
   (∃ q, fp k = some (false, q) ∧ q < (M k).vars.length ∧ M (k + 1) = M k ∧ ∀ m2 : Mem, m2.var q = (M k).var q → evOp P call (E k) m2 o = some (A k, m2)) ∨
   (∃ t z, fp k = some (true, (M k).vars.length) ∧ o.op = .alloc t ∧ zeroCells P t = some z ∧ z.all okCell = true ∧ z.all (refLe (M k).vars.length) = true ∧ A k = .ptr (M k).vars.length 0 ∧ M (k + 1) = (M k).push z) ∨
   (∃ q cs, fp k = some (true, q) ∧ q < (M k).vars.length ∧ M (k + 1) = (M k).putv q cs ∧ ∀ m2 : Mem, m2.var q = (M k).var q → evOp P call (E k) m2 o = some (A k, m2.putv q cs))))
 pair : ∀ j k wj wk q, j < k → k < l.length → fp j = some (wj, q) → fp k = some (wk, q) → (wj || wk) = true → ((masks l []).getD k 0).testBit j = true
section
variable {P : Program} {call : CallF} {nt : Nat} {l : List Oper} {m0 : Mem} {E : Nat → Env} {M : Nat → Mem} {A : Nat → AV} {fp : Nat → Option (Bool × Nat)}
def wr (fp : Nat → Option (Bool × Nat)) (n r : Nat) : Bool := match fp n with | some (true, q) => decide (q = r) | _ => false
theorem aDa {n r : Nat} : wr fp n r = true ↔ fp n = some (true, r) := by
 unfold wr
 cases h : fp n with
 | none => simp
 | some x =>
  obtain ⟨b, q⟩ := x
  cases b <;> simp
/-- What a place holds, once so many operations of a set have come up. -/
def sH (M : Nat → Mem) (fp : Nat → Option (Bool × Nat)) (S : Nat → Bool) (r : Nat) : Nat → Option (List AV)
 | 0 => (M 0).var r
 | n + 1 => if (S n && wr fp n r) = true then (M (n + 1)).var r else sH M fp S r n
theorem rS {S T : Nat → Bool} {r : Nat} : ∀ n, (∀ j, j < n → wr fp j r = true → S j = T j) → sH M fp S r n = sH M fp T r n
 | 0, _ => rfl
 | n + 1, h => by
  unfold sH
  cases hw : wr fp n r with
  | false => simp only [Bool.and_false, Bool.false_eq_true, if_false]; exact rS n fun j hj => h j (by omega)
  | true =>
   rw [h n (by omega) hw, rS n fun j hj => h j (by omega)]
theorem aBa {S : Nat → Bool} {r k : Nat} : ∀ n, k ≤ n → (∀ j, k ≤ j → j < n → wr fp j r = true → S j = false) → sH M fp S r n = sH M fp S r k
 | 0, h, _ => by rw [Nat.le_zero.1 h]
 | n + 1, h, hn => by
  by_cases e : k = n + 1
  ·rw [e]
  ·conv => lhs; unfold sH
   rw [if_neg, aBa n (by omega) fun j h1 h2 => hn j h1 (by omega)]
   intro hc
   have := Bool.and_eq_true_iff.1 hc
   rw [hn n (by omega) (by omega) this.2] at this
   cases this.1
variable (hT : FTrace P call nt l m0 E M A fp)
include hT
theorem aKi {k : Nat} (hk : k < l.length) : (M k).vars.length ≤ (M (k + 1)).vars.length ∧ (M (k + 1)).toks = (M k).toks ∧
  (∀ r, wr fp k r = false → r < (M k).vars.length → (M (k + 1)).vars[r]? = (M k).vars[r]?) ∧ (∀ w q, fp k = some (w, q) → q < (M (k + 1)).vars.length) ∧
  (∀ r, wr fp k r = false → (M (k + 1)).var r = (M k).var r) ∧ ∀ q, fp k = some (true, q) → ∃ cs, (M (k + 1)).var q = some cs := by
 rcases hT.kind k _ (List.getElem?_eq_getElem hk) with ⟨_, _, h, hf⟩ | ⟨_, ⟨_, h, hf⟩ | ⟨q, hf, hq, h, _⟩ | ⟨t, z, hf, _, _, _, _, _, h⟩ | ⟨q, cs, hf, hq, h, _⟩⟩
 ·rw [h, hf]
  exact ⟨Nat.le_refl _, rfl, fun _ _ _ => rfl, (fun _ _ e => nomatch e), fun _ _ => rfl, fun _ e => nomatch e⟩
 ·rw [h, hf]
  exact ⟨Nat.le_refl _, rfl, fun _ _ _ => rfl, (fun _ _ e => nomatch e), fun _ _ => rfl, fun _ e => nomatch e⟩
 ·rw [h, hf]
  exact ⟨Nat.le_refl _, rfl, fun _ _ _ => rfl, (fun _ _ e => by cases e; exact hq), fun _ _ => rfl, fun _ e => nomatch e⟩
 ·have hl : (M (k + 1)).vars.length = (M k).vars.length + 1 := by rw [h]; simp [Mem.push]
  refine ⟨by omega, by rw [h]; rfl, fun r hw hr => ?_, (fun _ _ e => by rw [hf] at e; cases e; omega), fun r hw => ?_, fun q e => by rw [hf] at e; cases e; exact ⟨z, by rw [h]; exact aJ⟩⟩
  ·rw [h]
   show ((M k).vars ++ [some z])[r]? = _
   exact List.getElem?_append_left hr
  ·have hne : r ≠ (M k).vars.length := fun e => by
    have : wr fp k r = true := aDa.2 (by rw [hf, e])
    rw [hw] at this; cases this
   rw [h]
   unfold Mem.var
   show (((M k).vars ++ [some z])[r]?).join = _
   by_cases hr : r < (M k).vars.length
   ·rw [List.getElem?_append_left hr]
   ·rw [List.getElem?_eq_none (by simp; omega), List.getElem?_eq_none (by omega)]
 ·have hl : (M (k + 1)).vars.length = (M k).vars.length := by rw [h]; simp [Mem.putv]
  have ne : ∀ r, wr fp k r = false → r ≠ q := fun r hw e => by
    have : wr fp k r = true := aDa.2 (by rw [hf, e])
    rw [hw] at this; cases this
  refine ⟨by omega, by rw [h]; rfl, fun r hw hr => ?_, (fun _ _ e => by rw [hf] at e; cases e; omega), fun r hw => ?_, fun q' e => ?_⟩
  ·rw [h]
   show ((M k).vars.set q _)[r]? = _
   exact List.getElem?_set_ne (ne r hw).symm
  ·rw [h]
   unfold Mem.var
   show (((M k).vars.set q _)[r]?).join = _
   rw [List.getElem?_set_ne (ne r hw).symm]
  ·rw [hf] at e
   cases e
   refine ⟨cs, ?_⟩
   rw [h]
   unfold Mem.var
   show (((M k).vars.set q _)[q]?).join = _
   rw [List.getElem?_set_self hq]
   rfl
theorem bBg : ∀ n, n ≤ l.length → ∀ k, k ≤ n → (M k).vars.length ≤ (M n).vars.length
 | 0, _, k, hk => by rw [Nat.le_zero.1 hk]; exact Nat.le_refl _
 | n + 1, h, k, hk => by
  by_cases e : k = n + 1
  ·rw [e]; exact Nat.le_refl _
  ·exact Nat.le_trans (bBg n (by omega) k (by omega)) (aKi hT (by omega)).1
theorem bGe : ∀ n, n ≤ l.length → (M n).toks = m0.toks
 | 0, _ => by rw [hT.m0]
 | n + 1, h => by rw [(aKi hT (by omega)).2.1, bGe n (by omega)]
theorem aVr {r : Nat} : ∀ n, n ≤ l.length → sH M fp (fun _ => true) r n = (M n).var r
 | 0, _ => rfl
 | n + 1, h => by
  unfold sH
  cases hw : wr fp n r with
  | false => simp only [Bool.and_false, Bool.false_eq_true, if_false]; rw [aVr n (by omega), (aKi hT (by omega)).2.2.2.2.1 r hw]
  | true => simp
/-- The memory of a set. -/
def aDl (l : List Oper) (m0 : Mem) (M : Nat → Mem) (fp : Nat → Option (Bool × Nat)) (S : Nat → Bool) : Mem :=
 { vars := (List.range (M l.length).vars.length).map fun r => sH M fp S r l.length, toks := m0.toks }
omit hT in
theorem bHf {S : Nat → Bool} {r : Nat} (h : r < (M l.length).vars.length) : (aDl l m0 M fp S).vars[r]? = some (sH M fp S r l.length) := by
 show ((List.range _).map _)[r]? = _
 rw [List.getElem?_map, List.getElem?_range h]
 rfl
omit hT in
theorem bEf {S : Nat → Bool} {r : Nat} (h : r < (M l.length).vars.length) : (aDl l m0 M fp S).var r = sH M fp S r l.length := by
 unfold Mem.var
 rw [bHf h]
 rfl
omit hT in
theorem aUr {S : Nat → Bool} : (aDl l m0 M fp S).vars.length = (M l.length).vars.length := by simp [aDl]
theorem bFf {k : Nat} {w : Bool} {q : Nat} (hk : k < l.length) (h : fp k = some (w, q)) : q < (M l.length).vars.length :=
 Nat.lt_of_lt_of_le ((aKi hT hk).2.2.2.1 w q h) (bBg hT _ (Nat.le_refl _) _ (by omega))
variable (hD : DrawnS l)
include hD
theorem aU5 {S : Nat → Bool} {k : Nat} {o : Oper} {w : Bool} {q : Nat} (ho : l[k]? = some o) (hc : ClosedS l S) (hi : S k = false) (hr : ∀ e ∈ o.after.toList, Region.binds .any e = true → S e.on = true) (hf : fp k = some (w, q)) :
  sH M fp S q l.length = (M k).var q ∧ sH M fp S q k = (M k).var q ∧ ∀ j, k ≤ j → j < l.length → wr fp j q = true → S j = false := by
 have hk : k < l.length := (List.getElem?_eq_some_iff.1 ho).1
 have late : ∀ j, k ≤ j → j < l.length → wr fp j q = true → S j = false := by
  intro j h1 h2 hw
  by_cases e : j = k
  ·rw [e]; exact hi
  ·cases hS : S j with
   | false => rfl
   | true =>
    have hb := hT.pair k j w true q (by omega) h2 hf (aDa.1 hw) (by simp)
    have hj := List.getElem?_eq_getElem h2
    have := fD (S := fun j => S j = true) hD.edge hc j _ hj (hc j _ hj hS) k hb
    rw [hi] at this
    cases this
 have early : sH M fp S q k = (M k).var q := by
  rw [rS (T := fun _ => true) k fun j hj hw => ?_, aVr hT k (by omega)]
  have hb := hT.pair j k true w q hj hk (aDa.1 hw) hf (by simp)
  exact fD (S := fun j => S j = true) hD.edge hc k _ ho hr j hb
 exact ⟨(aBa l.length (by omega) late).trans early, early, late⟩
omit hT hD in
theorem aV5 {S : Nat → Bool} {k r : Nat} (h : wr fp k r = false) (n : Nat) : sH M fp (ins S k) r n = sH M fp S r n :=
 rS n fun j _ hw => by
  by_cases e : j = k
  ·rw [e, h] at hw; cases hw
  ·unfold ins; simp [e]
omit hT hD in
theorem aTt {S : Nat → Bool} {k : Nat} (h : ∀ r, wr fp k r = false) : aDl l m0 M fp (ins S k) = aDl l m0 M fp S := by
 unfold aDl
 congr 1
 exact List.map_congr_left fun r _ => aV5 (h r) _
theorem bQv {S : Nat → Bool} {k : Nat} {o : Oper} {q : Nat} {cs : List AV} (ho : l[k]? = some o) (hc : ClosedS l S) (hi : S k = false) (hr : ∀ e ∈ o.after.toList, Region.binds .any e = true → S e.on = true) (hf : fp k = some (true, q))
  (hv : (M (k + 1)).var q = some cs) : (aDl l m0 M fp S).putv q cs = aDl l m0 M fp (ins S k) := by
 have hk : k < l.length := (List.getElem?_eq_some_iff.1 ho).1
 have hq := bFf hT hk hf
 have hlate := (aU5 hT hD ho hc hi hr hf).2.2
 unfold Mem.putv
 show ({ vars := _, toks := _ } : Mem) = { vars := _, toks := _ }
 congr 1
 apply List.ext_getElem?
 intro r
 by_cases hr : r < (M l.length).vars.length
 ·rw [show (List.map (fun r => sH M fp (ins S k) r l.length) (List.range (M l.length).vars.length))[r]? = _ from bHf (m0 := m0) hr]
  by_cases e : r = q
  ·subst e
   rw [List.getElem?_set_self (by rw [aUr]; exact hr)]
   have h1 : sH M fp (ins S k) r l.length = sH M fp (ins S k) r (k + 1) := aBa _ (by omega) fun j h1 h2 hw => by
    have := hlate j (by omega) h2 hw
    unfold ins
    simp [this, show j ≠ k by omega]
   rw [h1]
   unfold sH
   rw [if_pos (by rw [aDa.2 hf]; simp [ins]), hv]
  ·rw [List.getElem?_set_ne (fun h => e h.symm), bHf hr, aV5]
   cases hw : wr fp k r with
   | false => rfl
   | true =>
    have := aDa.1 hw
    rw [hf] at this
    cases this
    exact absurd rfl e
 ·rw [List.getElem?_eq_none (by rw [List.length_set, aUr]; omega), List.getElem?_eq_none (by simp; omega)]
theorem bYf {S : Nat → Bool} {k : Nat} {o : Oper} (ho : l[k]? = some o) (hc : ClosedS l S) (hi : S k = false) (hr : ∀ e ∈ o.after.toList, Region.binds .any e = true → S e.on = true) :
  (wantedAV l.toArray (E k) o = some true → SOp P call (E k) (aDl l m0 M fp S) o (A k) (aDl l m0 M fp (ins S k))) ∧ (wantedAV l.toArray (E k) o = some false → aDl l m0 M fp (ins S k) = aDl l m0 M fp S) := by
 have hk : k < l.length := (List.getElem?_eq_some_iff.1 ho).1
 have nw : (∀ q, fp k ≠ some (true, q)) → ∀ r, wr fp k r = false := fun h r => by
  cases hw : wr fp k r with
  | false => rfl
  | true => exact absurd (aDa.1 hw) (h r)
 rcases hT.kind k o ho with ⟨hw, _, _, hf⟩ | ⟨hw, ⟨h, _, hf⟩ | ⟨q, hf, hq, _, h⟩ | ⟨t, z, hf, hop, hz, hok, hre, hA, hM⟩ | ⟨q, cs, hf, hq, hM, h⟩⟩
 ·exact ⟨(fun e => by rw [hw] at e; cases e), fun _ => aTt (nw fun q e => by rw [hf] at e; cases e)⟩
 ·refine ⟨fun _ => .inl ?_, fun e => by rw [hw] at e; cases e⟩
  rw [aTt (nw fun q e => by rw [hf] at e; cases e)]
  exact h _
 ·refine ⟨fun _ => .inl ?_, fun e => by rw [hw] at e; cases e⟩
  rw [aTt (nw fun q e => by rw [hf] at e; cases e)]
  exact h _ (by rw [bEf (bFf hT hk hf)]; exact (aU5 hT hD ho hc hi hr hf).1)
 ·refine ⟨fun _ => .inr ⟨t, z, (M k).vars.length, hop, hz, hok, ?_, hA⟩, fun e => by rw [hw] at e; cases e⟩
  have hq := bFf hT hk hf
  have hv : (M (k + 1)).var (M k).vars.length = some z := by rw [hM]; exact aJ
  rw [← bQv hT hD ho hc hi hr hf hv]
  have h0 : (M k).var (M k).vars.length = none := by
   unfold Mem.var
   rw [List.getElem?_eq_none (Nat.le_refl _)]
   rfl
  unfold newVar
  rw [if_pos hre, if_neg (by rw [aUr]; omega), bHf hq, (aU5 hT hD ho hc hi hr hf).1, h0]
  rfl
 ·refine ⟨fun _ => .inl ?_, fun e => by rw [hw] at e; cases e⟩
  have hv : (M (k + 1)).var q = some cs := by
   rw [hM]
   unfold Mem.var
   show (((M k).vars.set q _)[q]?).join = _
   rw [List.getElem?_set_self hq]
   rfl
  rw [← bQv hT hD ho hc hi hr hf hv]
  exact h _ (by rw [bEf (bFf hT hk hf)]; exact (aU5 hT hD ho hc hi hr hf).1)
end
section
variable {P : Program} {call : CallF} {nt : Nat}
theorem bUd {φ₀ : Phi} {m₀ : Mem} {w₀ : World} {l : List Oper} {m : Mem} {E : Nat → Env} {M : Nat → Mem} {A : Nat → AV} {fp : Nat → Option (Bool × Nat)} (hm : P.follows .mixedOrders = true) (hC : dU P call) {id : Nat} {l2 : Option (List Nat)} {F : Objs} {Q : iS} {e : Env} (hD : aDp l = true)
  (hT : FTrace P call nt l m E M A fp) (hE0 : E 0 = e) (hQ : ∀ e2, Ev.restr l2 (E l.length) = e2 → Q .normal e2 (M l.length) F) : bE P φ₀ m₀ w₀ nt (.region id l.toArray true) e m F Q := by
 have hl := bBg hT l.length (Nat.le_refl _) 0 (Nat.zero_le _)
 rw [hT.m0] at hl
 refine bZy (E := E) (A := A) (MS := aDl l m M fp) (m' := M l.length) hm hC hD hE0 (fun r => ?_) rfl (fun k o ho => hT.put k o ho) (fun k o ho => ?_) (fun S i o ho hc hi hr => bYf hT (aIf hD) ho hc hi hr) (fun S hS => ?_) hQ
 ·by_cases h : r < (M l.length).vars.length
  ·rw [bEf h, aBa (k := 0) _ (Nat.zero_le _) fun _ _ _ _ => rfl]
   show _ = (M 0).var r
   rw [hT.m0]
  ·unfold Mem.var
   rw [List.getElem?_eq_none (by omega), List.getElem?_eq_none (by rw [aUr]; omega)]
 ·rcases hT.kind k o ho with ⟨hw, hA, _⟩ | ⟨hw, _⟩
  ·exact ⟨false, hw, fun _ => hA⟩
  ·exact ⟨true, hw, fun h => by cases h⟩
 ·have h1 : ∀ r, sH M fp S r l.length = (M l.length).var r := fun r => by
   rw [rS (T := fun _ => true) _ fun j hj _ => hS j hj, aVr hT _ (Nat.le_refl _)]
  unfold aDl
  simp only [h1]
  have h2 := bGe hT l.length (Nat.le_refl _)
  rw [← h2]
  show ({ vars := _, toks := (M l.length).toks } : Mem) = { vars := (M l.length).vars, toks := (M l.length).toks }
  congr 1
  apply List.ext_getElem?
  intro r
  by_cases hr : r < (M l.length).vars.length
  ·rw [List.getElem?_map, List.getElem?_range hr, List.getElem?_eq_getElem hr]
   show some ((M l.length).var r) = _
   unfold Mem.var
   rw [List.getElem?_eq_getElem hr]
   rfl
  ·rw [List.getElem?_eq_none (by simp; omega), List.getElem?_eq_none (by omega)]
end
/-! ### the walk -/
def Loc.ne : Loc → Loc → Bool
 | .old _, .new _ => true
 | .new _, .old _ => true
 | .new i, .new j => i != j
 | .old _, .old _ => false
theorem Loc.at_ne {L : Nat} {p q : Loc} (hp : p.ok L) (hq : q.ok L) (h : p ≠ q) : p.at L ≠ q.at L := by
 cases p <;> cases q <;> simp only [Loc.at, Loc.ok, ne_eq, Loc.old.injEq, Loc.new.injEq] at * <;> omega
theorem Loc.ne_of {p q : Loc} (h : p.ne q = true) : p ≠ q := by
 cases p <;> cases q <;> simp_all [Loc.ne]
abbrev Ent := Nat × Bool × Loc
def chk (ms : List Nat) (k : Nat) (w : Bool) (p : Loc) (W : List Ent) : Prop := ∀ x ∈ W, (x.2.1 || w) = true → (ms.getD k 0).testBit x.1 = true ∨ x.2.2 ≠ p
def cDc (ms : List Nat) (k : Nat) (w : Bool) (p : Loc) (W : List Ent) : Bool := W.all fun x => !(x.2.1 || w) || (ms.getD k 0).testBit x.1 || x.2.2.ne p
theorem kA {ms : List Nat} {k : Nat} {w : Bool} {p : Loc} {W : List Ent} (h : cDc ms k w p W = true) : chk ms k w p W := fun x hx hw => by
 have := List.all_eq_true.1 h x hx
 rw [hw] at this
 simp only [Bool.not_true, Bool.false_or, Bool.or_eq_true] at this
 exact this.imp id Loc.ne_of
theorem bG3 {ms : List Nat} {k : Nat} {w : Bool} {p : Loc} : chk ms k w p [] := fun x hx => nomatch hx
theorem aFk {ms : List Nat} {k j : Nat} {w v : Bool} {p q : Loc} {W : List Ent} (h : (!(v || w) || (ms.getD k 0).testBit j || q.ne p) = true ∨ q ≠ p) (hW : chk ms k w p W) : chk ms k w p ((j, v, q) :: W) := fun x hx hw => by
 rcases List.mem_cons.1 hx with rfl | hx
 ·rcases h with h | h
  ·simp only at hw
   rw [hw] at h
   simp only [Bool.not_true, Bool.false_or, Bool.or_eq_true] at h
   exact h.imp id Loc.ne_of
  ·exact .inr h
 ·exact hW x hx hw
def bQb (P : Program) (call : CallF) (ops : Array Oper) (L : Nat) (e : Env) (m : Mem) (o : Oper) (a : AV) (m' : Mem) (f : Option (Bool × Loc)) : Prop :=
 (wantedAV ops e o = some false ∧ a = .v (.tuple #[]) ∧ m' = m ∧ f = none) ∨ (wantedAV ops e o = some true ∧
  (((∀ m2, evOp P call e m2 o = some (a, m2)) ∧ m' = m ∧ f = none) ∨
  (∃ p, f = some (false, p) ∧ p.ok L ∧ p.at L < m.vars.length ∧ m' = m ∧ ∀ m2 : Mem, m2.var (p.at L) = m.var (p.at L) → evOp P call e m2 o = some (a, m2)) ∨
  (∃ t z i, f = some (true, .new i) ∧ m.vars.length = L + i ∧ o.op = .alloc t ∧ zeroCells P t = some z ∧ z.all okCell = true ∧ z.all (refLe m.vars.length) = true ∧ a = .ptr m.vars.length 0 ∧ m' = m.push z) ∨
  (∃ p cs, f = some (true, p) ∧ p.ok L ∧ p.at L < m.vars.length ∧ m' = m.putv (p.at L) cs ∧ ∀ m2 : Mem, m2.var (p.at L) = m.var (p.at L) → evOp P call e m2 o = some (a, m2.putv (p.at L) cs))))
def mR (P : Program) (call : CallF) (nt : Nat) (l : List Oper) (L : Nat) : Nat → List Oper → Env → Mem → List Ent → (Env → Mem → Prop) → Prop
 | _, [], e, m, _, K => K e m
 | k, o :: r, e, m, W, K => ∃ a e' m' f, bQb P call l.toArray L e m o a m' f ∧ putAV nt o.dst a e = some e' ∧
  match f with
  | none => mR P call nt l L (k + 1) r e' m' W K
  | some (w, p) => chk (masks l []) k w p W ∧ mR P call nt l L (k + 1) r e' m' ((k, w, p) :: W) K
section
variable {P : Program} {call : CallF} {nt : Nat} {l : List Oper} {L : Nat} {K : Env → Mem → Prop}
def cEw (L : Nat) (f : Option (Bool × Loc)) : Option (Bool × Nat) := f.map fun x => (x.1, x.2.at L)
theorem aNc : ∀ (rest : List Oper) (k : Nat) (e : Env) (m : Mem) (W : List Ent), (∀ x ∈ W, x.2.2.ok L) → mR P call nt l L k rest e m W K →
  ∃ (E : Nat → Env) (M : Nat → Mem) (A : Nat → AV) (fp : Nat → Option (Bool × Loc)), E 0 = e ∧ M 0 = m ∧ K (E rest.length) (M rest.length) ∧
   (∀ (j : Nat) o, rest[j]? = some o → putAV nt o.dst (A j) (E j) = some (E (j + 1)) ∧ bQb P call l.toArray L (E j) (M j) o (A j) (M (j + 1)) (fp j)) ∧
   (∀ j w p, j < rest.length → fp j = some (w, p) → p.ok L) ∧
   (∀ i j wi wj p q, i < j → j < rest.length → fp i = some (wi, p) → fp j = some (wj, q) → (wi || wj) = true → ((masks l []).getD (k + j) 0).testBit (k + i) = true ∨ p ≠ q) ∧
   (∀ x ∈ W, ∀ j wj q, j < rest.length → fp j = some (wj, q) → (x.2.1 || wj) = true → ((masks l []).getD (k + j) 0).testBit x.1 = true ∨ x.2.2 ≠ q)
 | [], k, e, m, W, hW, h => ⟨fun _ => e, fun _ => m, fun _ => .junk, fun _ => none, rfl, rfl, h, fun j o ho => by simp at ho, fun j w p hj => by simp at hj, fun i j wi wj p q _ hj => by simp at hj, fun x _ j wj q hj => by simp at hj⟩
 | o :: r, k, e, m, W, hW, h => by
  unfold mR at h
  obtain ⟨a, e', m', f, hk, hp, hf⟩ := h
  have hok : ∀ w p, f = some (w, p) → p.ok L := by
   intro w p he
   rcases hk with ⟨_, _, _, h⟩ | ⟨_, ⟨_, _, h⟩ | ⟨q, h, h2, _⟩ | ⟨t, z, i, h, _⟩ | ⟨q, cs, h, h2, _⟩⟩
   ·rw [h] at he; cases he
   ·rw [h] at he; cases he
   ·rw [h] at he; cases he; exact h2
   ·rw [h] at he; cases he; trivial
   ·rw [h] at he; cases he; exact h2
  have go : ∃ W', (∀ x ∈ W', x.2.2.ok L) ∧ (∀ x ∈ W, x ∈ W') ∧ (∀ w p, f = some (w, p) → (k, w, p) ∈ W' ∧ chk (masks l []) k w p W) ∧ mR P call nt l L (k + 1) r e' m' W' K := by
   cases f with
   | none => exact ⟨W, hW, fun _ h => h, (fun _ _ e => nomatch e), hf⟩
   | some x =>
    obtain ⟨w, p⟩ := x
    refine ⟨(k, w, p) :: W, fun x hx => ?_, fun _ h => List.mem_cons_of_mem _ h, (fun w' p' e => by cases e; exact ⟨List.mem_cons_self .., hf.1⟩), hf.2⟩
    rcases List.mem_cons.1 hx with rfl | hx
    ·exact hok _ _ rfl
    ·exact hW x hx
  obtain ⟨W', hW', hsub, hnew, hr⟩ := go
  obtain ⟨E, M, A, fp, hE, hM, hK, h1, h2, h3, h4⟩ := aNc r (k + 1) e' m' W' hW' hr
  refine ⟨fun | 0 => e | j + 1 => E j, fun | 0 => m | j + 1 => M j, fun | 0 => a | j + 1 => A j, fun | 0 => f | j + 1 => fp j, rfl, rfl, hK, fun j o' ho => ?_, fun j w p hj he => ?_, fun i j wi wj p q hij hj hi hj2 hw => ?_, fun x hx j wj q hj he hw => ?_⟩
  ·cases j with
   | zero =>
    simp only [List.getElem?_cons_zero, Option.some.injEq] at ho
    subst ho
    show putAV nt o.dst a e = some (E 0) ∧ bQb P call l.toArray L e m o a (M 0) f
    rw [hE, hM]
    exact ⟨hp, hk⟩
   | succ j => exact h1 j o' (by simpa using ho)
  ·cases j with
   | zero => exact hok w p he
   | succ j => exact h2 j w p (by simpa using hj) he
  ·cases j with
   | zero => omega
   | succ j =>
    have hj' : j < r.length := by simpa using hj
    rw [show k + (j + 1) = k + 1 + j by omega]
    cases i with
    | zero => exact h4 _ (hnew _ _ hi).1 j wj q hj' hj2 hw
    | succ i =>
     rw [show k + (i + 1) = k + 1 + i by omega]
     exact h3 i j wi wj p q (by omega) hj' hi hj2 hw
  ·cases j with
   | zero => exact (hnew _ _ he).2 x hx hw
   | succ j =>
    rw [show k + (j + 1) = k + 1 + j by omega]
    exact h4 x (hsub x hx) j wj q (by simpa using hj) he hw
theorem bZx {φ₀ : Phi} {m₀ : Mem} {w₀ : World} {m : Mem} (hm : P.follows .mixedOrders = true) (hC : dU P call) {id : Nat} {l2 : Option (List Nat)} {F : Objs} {Q : iS} {e : Env} (hD : aDp l = true)
  (h : mR P call nt l m.vars.length 0 l e m [] fun e' m' => ∀ e2, Ev.restr l2 e' = e2 → Q .normal e2 m' F) : bE P φ₀ m₀ w₀ nt (.region id l.toArray true) e m F Q := by
 obtain ⟨E, M, A, fp, hE, hM, hK, h1, h2, h3, _⟩ := aNc l 0 e m [] (fun x hx => nomatch hx) h
 refine bUd (E := E) (M := M) (A := A) (fp := fun k => cEw m.vars.length (fp k)) hm hC hD ⟨hM, fun k o ho => (h1 k o ho).1, fun k o ho => ?_, fun j k wj wk q hjk hk hj hk2 hw => ?_⟩ hE hK
 ·rcases (h1 k o ho).2 with ⟨a, b, c, d⟩ | ⟨hw, h⟩
  ·exact .inl ⟨a, b, c, by rw [d]; rfl⟩
  ·refine .inr ⟨hw, ?_⟩
   rcases h with ⟨a, b, c⟩ | ⟨p, a, b, c, d, e⟩ | ⟨t, z, i, a, b, c⟩ | ⟨p, cs, a, b, c, d, e⟩
   ·exact .inl ⟨a, b, by rw [c]; rfl⟩
   ·exact .inr (.inl ⟨_, by rw [a]; rfl, c, d, e⟩)
   ·exact .inr (.inr (.inl ⟨t, z, by rw [a, b]; rfl, c⟩))
   ·exact .inr (.inr (.inr ⟨_, cs, by rw [a]; rfl, c, d, e⟩))
 ·have hlt : j < l.length := by omega
  cases e1 : fp j with
  | none => rw [e1] at hj; cases hj
  | some x =>
   cases e2 : fp k with
   | none => rw [e2] at hk2; cases hk2
   | some y =>
    obtain ⟨v1, p1⟩ := x
    obtain ⟨v2, p2⟩ := y
    rw [e1] at hj
    rw [e2] at hk2
    cases hj
    have hk3 : (v2, p2.at m.vars.length) = (wk, p1.at m.vars.length) := Option.some.inj hk2
    have hv : v2 = wk := congrArg Prod.fst hk3
    have hp := congrArg Prod.snd hk3
    subst hv
    rcases h3 j k v1 v2 p1 p2 hjk hk e1 e2 hw with h | h
    ·simpa using h
    ·exact absurd hp.symm (Loc.at_ne (h2 j _ _ hlt e1) (h2 k _ _ hk e2) h)
end
/-! ### its steps -/
def Mem.pushes (b : Mem) : List (List AV) → Mem
 | [] => b
 | c :: F => (b.push c).pushes F
theorem fK : ∀ (F : List (List AV)) (b : Mem), (b.pushes F).vars = b.vars ++ F.map some
 | [], b => by simp [Mem.pushes]
 | c :: F, b => by
  show ((b.push c).pushes F).vars = _
  rw [fK F (b.push c)]
  simp [Mem.push]
theorem jL : ∀ (F : List (List AV)) (b : Mem), (b.pushes F).toks = b.toks
 | [], b => rfl
 | c :: F, b => jL F (b.push c)
theorem bD9 {a b : Mem} (h1 : a.vars = b.vars) (h2 : a.toks = b.toks) : a = b := by cases a; cases b; simp_all
theorem nI {F : List (List AV)} {b : Mem} : (b.pushes F).vars.length = b.vars.length + F.length := by rw [fK]; simp
theorem aOy {F : List (List AV)} {b : Mem} {q : Nat} (h : q < b.vars.length) : (b.pushes F).var q = b.var q := by
 unfold Mem.var
 rw [fK, List.getElem?_append_left h]
theorem bDh {F : List (List AV)} {b : Mem} {i : Nat} : (b.pushes F).var (b.vars.length + i) = F[i]? := by
 unfold Mem.var
 rw [fK, List.getElem?_append_right (by omega), Nat.add_sub_cancel_left, List.getElem?_map]
 cases F[i]? <;> rfl
theorem aXd {F : List (List AV)} {b : Mem} {z : List AV} : (b.pushes F).push z = b.pushes (F ++ [z]) :=
 bD9 (by rw [fK]; show (b.pushes F).vars ++ [some z] = _; rw [fK]; simp) (by rw [jL]; exact jL F b)
theorem aY2 {F : List (List AV)} {b : Mem} {i : Nat} {cs : List AV} : (b.pushes F).putv (b.vars.length + i) cs = b.pushes (F.set i cs) :=
 bD9 (by rw [fK]; show (b.pushes F).vars.set _ _ = _; rw [fK, List.set_append_right _ _ (by omega), Nat.add_sub_cancel_left, List.map_set]) (by rw [jL]; exact jL F b)
theorem aWi {F : List (List AV)} {b : Mem} {q : Nat} {cs : List AV} (h : q < b.vars.length) : (b.pushes F).putv q cs = (b.putv q cs).pushes F :=
 bD9 (by rw [fK]; show (b.pushes F).vars.set _ _ = _; rw [fK, List.set_append_left _ _ h]; rfl) (by rw [jL]; exact jL F b)
theorem bBp {P : Program} {m m2 : Mem} {t : TypeId} {q off : Nat} (h : m2.var q = m.var q) : aL P m2 t (.ptr q off) = aL P m t (.ptr q off) := by
 unfold aL mG
 simp only [h]
theorem bIl {P : Program} {m : Mem} {t : TypeId} {q off : Nat} {a : AV} (h : aL P m t (.ptr q off) = some a) : q < m.vars.length := by
 cases e : m.var q with
 | none => unfold aL mG at h; simp only [e] at h; simp at h
 | some cs => exact (vlt e).1
section
variable {P : Program} {call : CallF} {nt : Nat} {l : List Oper} {L k : Nat} {o : Oper} {r : List Oper} {e : Env} {m : Mem} {W : List Ent} {K : Env → Mem → Prop} {a : AV} {d : Nat}
def mU (ops : Array Oper) (e : Env) (o : Oper) (b : Bool) : Prop := wantedAV ops e o = some b
theorem fV (h : o.guard = none) {ops : Array Oper} : mU ops e o true := by unfold mU wantedAV; rw [h]
theorem aEg {ops : Array Oper} {j g : Nat} {want : Bool} (hg : o.guard = some (j, want)) (hj : (ops[j]?).bind (·.dst) = some g) (hb : get e g = .v (.bool want)) : mU ops e o true := by unfold mU wantedAV; rw [hg]; simp [hj, hb]
theorem bG1 {ops : Array Oper} {j g : Nat} {want b : Bool} (hg : o.guard = some (j, want)) (hj : (ops[j]?).bind (·.dst) = some g) (hb : get e g = .v (.bool b)) (hne : b ≠ want) : mU ops e o false := by unfold mU wantedAV; rw [hg]; simp [hj, hb, hne]
theorem bAa {ops : Array Oper} {j g : Nat} {want : Bool} {a : Array Value} (hg : o.guard = some (j, want)) (hj : (ops[j]?).bind (·.dst) = some g) (hb : get e g = .v (.tuple a)) : mU ops e o false := by unfold mU wantedAV; rw [hg]; simp only [hj, hb]
theorem aUf (hd : o.dst = some d) (hlt : d < nt) : putAV nt o.dst a e = some ((d, a) :: e) := by unfold putAV; rw [hd]; exact if_pos hlt
theorem aXl (hd : o.dst = none) : putAV nt o.dst a e = some e := by unfold putAV; rw [hd]
theorem bNi {m2 : Mem} (hm : m = m2) (h : K e m2) : mR P call nt l L k [] e m W K := by subst hm; exact h
theorem bT1 (hw : mU l.toArray e o true) (hd : o.dst = some d) (hlt : d < nt) (hk : ∀ m2, evOp P call e m2 o = some (a, m2)) (h : mR P call nt l L (k + 1) r ((d, a) :: e) m W K) : mR P call nt l L k (o :: r) e m W K :=
 ⟨a, _, m, none, .inr ⟨hw, .inl ⟨hk, rfl, rfl⟩⟩, aUf hd hlt, h⟩
theorem bGx (hw : mU l.toArray e o false) (hd : o.dst = some d) (hlt : d < nt) (h : mR P call nt l L (k + 1) r ((d, .v (.tuple #[])) :: e) m W K) : mR P call nt l L k (o :: r) e m W K :=
 ⟨_, _, m, none, .inl ⟨hw, rfl, rfl, rfl⟩, aUf hd hlt, h⟩
variable {b : Mem} {Fs : List (List AV)}
theorem aK1 {t : TypeId} {x : Operand} {q off : Nat} (hw : mU l.toArray e o true) (hd : o.dst = some d) (hlt : d < nt) (ho : o.op = .load t x) (hx : opd P e t x = .ptr q off) (hk : aL P b t (.ptr q off) = some a) (hL : b.vars.length = L) (hc : chk (masks l []) k false (.old q) W)
  (h : mR P call nt l L (k + 1) r ((d, a) :: e) (b.pushes Fs) ((k, false, .old q) :: W) K) : mR P call nt l L k (o :: r) e (b.pushes Fs) W K := by
 have hq := bIl hk
 refine ⟨a, _, _, some (false, .old q), .inr ⟨hw, .inr (.inl ⟨.old q, rfl, by rw [← hL]; exact hq, by rw [nI]; show q < _; omega, rfl, fun m2 h2 => ?_⟩)⟩, aUf hd hlt, hc, h⟩
 rw [show (Loc.old q).at L = q from rfl, aOy hq] at h2
 unfold evOp
 rw [ho]
 simp only [hx, bBp h2, hk, Option.map_some]
theorem aO8 {t : TypeId} {z : List AV} (hw : mU l.toArray e o true) (hd : o.dst = some d) (hlt : d < nt) (ho : o.op = .alloc t) (hz : zeroCells P t = some z) (hok : z.all okCell = true) (hre : z.all (refLe (b.vars.length + Fs.length)) = true) (hL : b.vars.length = L) (hc : chk (masks l []) k true (.new Fs.length) W)
  (h : mR P call nt l L (k + 1) r ((d, .ptr (L + Fs.length) 0) :: e) (b.pushes (Fs ++ [z])) ((k, true, .new Fs.length) :: W) K) : mR P call nt l L k (o :: r) e (b.pushes Fs) W K := by
 refine ⟨_, _, _, some (true, .new Fs.length), .inr ⟨hw, .inr (.inr (.inl ⟨t, z, Fs.length, rfl, by rw [nI, hL], ho, hz, hok, by rw [nI]; exact hre, rfl, rfl⟩))⟩, aUf hd hlt, hc, ?_⟩
 rw [aXd, nI, hL]
 exact h
theorem vC {t : TypeId} {x y : Operand} {i : Nat} {v : AV} {z cs : List AV} (hw : mU l.toArray e o true) (hd : o.dst = none) (ho : o.op = .store t x y) (hx : opd P e t x = .ptr (L + i) 0) (hy : opd P e t y = v) (hcs : cellsOf v = some cs) (ht : cA P t = some cs.length) (hF : Fs[i]? = some z) (hl : z.length = cs.length) (hr : cs.all (refLe (L + i)) = true)
  (hL : b.vars.length = L) (hc : chk (masks l []) k true (.new i) W) (h : mR P call nt l L (k + 1) r e (b.pushes (Fs.set i cs)) ((k, true, .new i) :: W) K) : mR P call nt l L k (o :: r) e (b.pushes Fs) W K := by
 have hi : i < Fs.length := (List.getElem?_eq_some_iff.1 hF).1
 subst hL
 refine ⟨.v (.tuple #[]), _, _, some (true, .new i), .inr ⟨hw, .inr (.inr (.inr ⟨.new i, cs, rfl, trivial, by rw [nI]; show b.vars.length + i < _; omega, rfl, fun m2 h2 => ?_⟩))⟩, aXl hd, hc, ?_⟩
 ·rw [show (Loc.new i).at b.vars.length = b.vars.length + i from rfl] at h2 ⊢
  rw [bDh, hF] at h2
  unfold evOp
  rw [ho]
  simp only [hx, hy]
  unfold aR
  simp only [hcs, ht, h2]
  rw [if_pos ⟨trivial, by omega, hr⟩]
  have h9 : z.drop cs.length = [] := by rw [← hl]; simp
  unfold cB
  simp [h9, Mem.putv]
 ·rw [show (Loc.new i).at b.vars.length = b.vars.length + i from rfl, aY2]
  exact h
theorem bLh {t : TypeId} {x y : Operand} {q off : Nat} {v : AV} {cs : List AV} (hw : mU l.toArray e o true) (hd : o.dst = none) (ho : o.op = .store t x y) (hx : opd P e t x = .ptr q off) (hy : opd P e t y = v) (hk : aR P b t (.ptr q off) v = some (b.putv q cs)) (hq : q < b.vars.length)
  (hL : b.vars.length = L) (hc : chk (masks l []) k true (.old q) W) (h : mR P call nt l L (k + 1) r e ((b.putv q cs).pushes Fs) ((k, true, .old q) :: W) K) : mR P call nt l L k (o :: r) e (b.pushes Fs) W K := by
 subst hL
 refine ⟨.v (.tuple #[]), _, _, some (true, .old q), .inr ⟨hw, .inr (.inr (.inr ⟨.old q, cs, rfl, hq, by rw [nI]; show q < _; omega, rfl, fun m2 h2 => ?_⟩))⟩, aXl hd, hc, ?_⟩
 ·rw [show (Loc.old q).at b.vars.length = q from rfl] at h2 ⊢
  rw [aOy hq] at h2
  unfold evOp
  rw [ho]
  simp only [hx, hy]
  unfold aR at hk ⊢
  split at hk
  ·rename_i r' off' c1 k1 hp hc1 ht
   cases hp
   simp only [hc1, ht, h2]
   split at hk
   ·rename_i old hold
    split at hk
    ·rename_i hh
     rw [if_pos hh]
     have := congrArg Mem.vars (Option.some.inj hk)
     have h3 : (b.vars.set q (some (cB old off c1)))[q]? = (b.vars.set q (some cs))[q]? := congrArg (·[q]?) this
     rw [List.getElem?_set_self hq, List.getElem?_set_self hq] at h3
     have h4 : cB old off c1 = cs := by simpa using h3
     rw [h4]
     rfl
    ·cases hk
   ·cases hk
  ·cases hk
 ·rw [show (Loc.old q).at b.vars.length = q from rfl, aWi hq]
  exact h
end
end
end Go.Proofs.YtmockbddhhmmeaaGreat.Ev
