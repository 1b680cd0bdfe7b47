/- Regions that draw their order, with objects beside the memory. -/
import Derived.Test.YtmockbddhhmmeaaMa6
import Derived.Laws.IdiomRangeMap
import Derived.Test.YtmockbddhhmmeaaMa5
import Derived.Test.YtmockbddhhmmeaaMa4
namespace Go.Proofs.Ytmockbddhhmmeaa.Ev
open Go Go.Proofs
set_option maxRecDepth 10000
set_option maxHeartbeats 8000000
set_option linter.unusedVariables false
set_option linter.unusedSimpArgs false
section
/-- What an operation does. -/
def XR (P : Program) (φ₀ : Phi) (m₀ : Mem) (w₀ : World) (e : Env) (m : Mem) (F : Objs) (o : Oper) (av : AV) (m' : Mem) (F' : Objs) : Prop :=
 ∀ (φ : Phi) (a : Act) (w : World), RM φ m w → Ext φ₀ m₀ w₀ φ m w → EnvRep φ m w e a.tmps → ObjsIn φ m w₀ w F → ∀ (K : Act → World → Prop) (Q : Exit → Act → World → Prop),
  (∀ x w' φ', RM φ' m' w' → Ext φ₀ m₀ w₀ φ' m' w' → (∀ b y, Rep φ m w b y → Rep φ' m' w' b y) → Rep φ' m' w' av x → ObjsIn φ' m' w₀ w' F' → K (a.put o.dst x) w') → o.wp P a w K Q
/-- .. wherever its operands have these values. -/
def XRA (P : Program) (φ₀ : Phi) (m₀ : Mem) (w₀ : World) (e : Env) (m : Mem) (F : Objs) (o : Oper) (av : AV) (m' : Mem) (F' : Objs) : Prop :=
 ∀ e', (∀ x ∈ o.op.operands.toList, ∀ t, opd P e' t x = opd P e t x) → XR P φ₀ m₀ w₀ e' m F o av m' F'
section
variable {P : Program} {call : CallF} {l : List Oper} {nt : Nat} {E : Nat → Env} {A : Nat → AV} {MS : (Nat → Bool) → Mem} {FS : (Nat → Bool) → Objs}
structure InvX (l : List Oper) (nt : Nat) (MS : (Nat → Bool) → Mem) (FS : (Nat → Bool) → Objs) (A : Nat → AV) (e : Env) (φ₀ : Phi) (m₀ : Mem) (w₀ : World) (S : Nat → Bool) (a : Act) (w : World) : Prop where
 st : ∃ φ, RM φ (MS S) w ∧ Ext φ₀ m₀ w₀ φ (MS S) w ∧ Slots l (fun j => S j = true) A e φ (MS S) w a.tmps ∧ ObjsIn φ (MS S) w₀ w (FS S)
 size : nt ≤ a.tmps.size
 defers : a.defers = []
 closed : ClosedS l S
variable {φ₀ : Phi} {m₀ : Mem} {w₀ : World}
theorem invX_step (hD : DrawnS l) (hT : ∀ (k : Nat) o, l[k]? = some o → putAV nt o.dst (A k) (E k) = some (E (k + 1)))
  (hW : ∀ (k : Nat) o, l[k]? = some o → ∃ b, wantedAV l.toArray (E k) o = some b ∧ (b = false → A k = .v (.tuple #[])))
  (hM : ∀ S (i : Nat) o, l[i]? = some o → ClosedS l S → S i = false → (∀ e ∈ o.after.toList, Region.binds .any e = true → S e.on = true) →
   (wantedAV l.toArray (E i) o = some true → XRA P φ₀ m₀ w₀ (E i) (MS S) (FS S) o (A i) (MS (ins S i)) (FS (ins S i))) ∧ (wantedAV l.toArray (E i) o = some false → MS (ins S i) = MS S ∧ FS (ins S i) = FS S))
  {S : Nat → Bool} {a : Act} {w : World} (hI : InvX l nt MS FS A (E 0) φ₀ m₀ w₀ S a w) {i : Nat} {o : Oper} (ho : l[i]? = some o) (hni : S i = false)
  (hready : ∀ e ∈ o.after.toList, Region.binds .any e = true → S e.on = true) {K : Act → World → Prop} {Q : Exit → Act → World → Prop}
  (hK : ∀ a' w', InvX l nt MS FS A (E 0) φ₀ m₀ w₀ (ins S i) a' w' → K a' w') : wpOp P l.toArray Q i K a w := by
 obtain ⟨⟨φ, hR, hX, hS, hF⟩, hsize, hdef, hclosed⟩ := hI
 have hil : i < l.length := (List.getElem?_eq_some_iff.mp ho).1
 have hni' : ¬ S i = true := by rw [hni]; simp
 have hlook : ∀ t, t ∈ o.looksAt l.toArray → Rep φ (MS S) w (get (E i) t) (a.tmps.getD t undef) := by
  intro t ht
  by_cases hx : ∃ (j : Nat) (oj : Oper), j < i ∧ l[j]? = some oj ∧ oj.dst = some t
  ·obtain ⟨j, oj, hji, hj, hd⟩ := hx
   rw [gets_hit hD hT hj hd i (by omega) hji]
   refine (hS t).1 j oj hj hd ?_
   rcases hD.apart j i oj o hji hj ho with hb | hap
   ·exact mask_listed (S := fun j => S j = true) hD.edge hclosed i o ho hready j hb
   ·exact absurd ht ((Oper.apart_spec hap).1 t hd)
  ·rw [gets_miss hT i (by omega) fun j oj hji hj hd => hx ⟨j, oj, hji, hj, hd⟩]
   refine (hS t).2 fun j oj hj hd hl => ?_
   rcases Nat.lt_trichotomy j i with hlt | heq | hgt
   ·exact hx ⟨j, oj, hlt, hj, hd⟩
   ·subst heq; exact hni' hl
   ·rcases hD.apart i j o oj hgt ho hj with hb | hap
    ·exact hni' (mask_listed (S := fun j => S j = true) hD.edge hclosed j oj hj (hclosed j oj hj hl) i hb)
    ·exact absurd ht ((Oper.apart_spec hap).2.2 t hd)
 have hput := hT i o ho
 have after : ∀ x w' φ', RM φ' (MS (ins S i)) w' → Ext φ₀ m₀ w₀ φ' (MS (ins S i)) w' → (∀ b y, Rep φ (MS S) w b y → Rep φ' (MS (ins S i)) w' b y) → Rep φ' (MS (ins S i)) w' (A i) x → ObjsIn φ' (MS (ins S i)) w₀ w' (FS (ins S i)) → InvX l nt MS FS A (E 0) φ₀ m₀ w₀ (ins S i) (a.put o.dst x) w' := by
  intro x w' φ' g1 g2 g4 g3 g5
  refine ⟨⟨φ', g1, g2, fun t => ⟨fun j oj hj hd hl => ?_, fun hno => ?_⟩, g5⟩, by rw [put_size]; exact hsize, by rw [put_defers]; exact hdef, fun j oj hj hl e he hb => ?_⟩
  ·by_cases e : j = i
   ·subst e
    rw [hj] at ho
    cases ho
    rw [put_same hd hput hsize]
    exact g3
   ·have hne : o.dst ≠ some t := by
     rcases Nat.lt_or_gt_of_ne e with h | h
     ·exact hD.dst j i oj o h hj ho t hd
     ·exact fun hod => hD.dst i j o oj h ho hj t hod hd
    rw [put_other hne]
    have hl' : S j = true := by simpa [ins, e] using hl
    exact g4 _ _ ((hS t).1 j oj hj hd hl')
  ·have hne : o.dst ≠ some t := fun hd => hno i o ho hd (by simp [ins])
   rw [put_other hne]
   exact g4 _ _ ((hS t).2 fun j oj hj hd hl => hno j oj hj hd (by simp [ins, hl]))
  ·by_cases h : j = i
   ·subst h
    rw [hj] at ho
    cases ho
    simp [ins, hready e he hb]
   ·have hl' : S j = true := by simpa [ins, h] using hl
    simp [ins, hclosed j oj hj hl' e he hb]
 let E' : Env := (o.looksAt l.toArray).map fun s => (s, get (E i) s)
 have hE' : EnvRep φ (MS S) w E' a.tmps := by
  intro t
  rw [get_restr]
  split
  ·exact hlook t ‹_›
  ·exact .junk _
 have hget : ∀ t, t ∈ o.looksAt l.toArray → get E' t = get (E i) t := fun t ht => by rw [get_restr, if_pos ht]
 have hwant : wantedAV l.toArray E' o = wantedAV l.toArray (E i) o := by
  unfold wantedAV
  cases hg : o.guard with
  | none => rfl
  | some g =>
   obtain ⟨j, want⟩ := g
   simp only []
   cases hj : (l.toArray[j]?).bind (·.dst) with
   | none => rfl
   | some d =>
    simp only []
    rw [hget d (by simp [Oper.looksAt, hg]; right; simpa using hj)]
 have hag : ∀ x ∈ o.op.operands.toList, ∀ t, opd P E' t x = opd P (E i) t x := by
  intro x hx t
  cases x with
  | tmp s => exact hget s (by simp only [Oper.looksAt, List.mem_append, List.mem_filterMap]; exact .inl ⟨_, hx, rfl⟩)
  | const v => rfl
  | func f => rfl
  | global g => rfl
 unfold wpOp
 rw [List.getElem?_toArray, ho]
 simp only []
 obtain ⟨h1, h2⟩ := hM S i o ho hclosed hni hready
 obtain ⟨b, hb, hA⟩ := hW i o ho
 cases b with
 | true =>
  rw [wanted_sound hE' (hwant.trans hb), if_pos rfl]
  left
  exact h1 hb E' hag φ a w hR hX hE' hF K Q fun x w' φ' g1 g2 g4 g3 g5 => hK _ _ (after x w' φ' g1 g2 g4 g3 g5)
 | false =>
  rw [wanted_sound hE' (hwant.trans hb), if_neg (by simp)]
  obtain ⟨e, e2⟩ := h2 hb
  refine hK _ _ (after undef w φ ?_ ?_ ?_ ?_ ?_)
  ·rw [e]; exact hR
  ·rw [e]; exact hX
  ·rw [e]; exact fun _ _ h => h
  ·rw [hA rfl]; exact .v _
  ·rw [e, e2]; exact hF
theorem wpAny_invX (hD : DrawnS l) (hT : ∀ (k : Nat) o, l[k]? = some o → putAV nt o.dst (A k) (E k) = some (E (k + 1)))
  (hW : ∀ (k : Nat) o, l[k]? = some o → ∃ b, wantedAV l.toArray (E k) o = some b ∧ (b = false → A k = .v (.tuple #[])))
  (hM : ∀ S (i : Nat) o, l[i]? = some o → ClosedS l S → S i = false → (∀ e ∈ o.after.toList, Region.binds .any e = true → S e.on = true) →
   (wantedAV l.toArray (E i) o = some true → XRA P φ₀ m₀ w₀ (E i) (MS S) (FS S) o (A i) (MS (ins S i)) (FS (ins S i))) ∧ (wantedAV l.toArray (E i) o = some false → MS (ins S i) = MS S ∧ FS (ins S i) = FS S))
  {m' : Mem} {F' : Objs} (hend : ∀ S, (∀ j, j < l.length → S j = true) → MS S = m' ∧ FS S = F') {Q : Exit → Act → World → Prop} (hQ : ∀ a w, StF φ₀ m₀ w₀ nt (E l.length) m' F' a w → Q .normal a w) :
  ∀ (n : Nat) (listed : Array Bool) (a : Act) (w : World), listed.size = l.length → unl (fun j => listed.getD j false) l.length ≤ n →
   InvX l nt MS FS A (E 0) φ₀ m₀ w₀ (fun j => listed.getD j false) a w → wpAny P .any l.toArray Q n listed a w := by
 have done : ∀ (listed : Array Bool) a w, (∀ j, j < l.length → listed.getD j false = true) → InvX l nt MS FS A (E 0) φ₀ m₀ w₀ (fun j => listed.getD j false) a w → Q .normal a w := by
  intro listed a w hall hI
  obtain ⟨⟨φ, hR, hX, hS, hF⟩, hsize, hdef, hclosed⟩ := hI
  obtain ⟨hMe, hFe⟩ := hend _ hall
  rw [hMe] at hR hX hS hF
  rw [hFe] at hF
  refine hQ a w ⟨φ, hR, hX, fun t => ?_, hsize, hdef, hF⟩
  by_cases hx : ∃ (j : Nat) (oj : Oper), l[j]? = some oj ∧ oj.dst = some t
  ·obtain ⟨j, oj, hj, hd⟩ := hx
   have hjl : j < l.length := (List.getElem?_eq_some_iff.mp hj).1
   rw [gets_hit hD hT hj hd l.length (Nat.le_refl _) hjl]
   exact (hS t).1 j oj hj hd (hall j hjl)
  ·rw [gets_miss hT l.length (Nat.le_refl _) fun j oj hji hj hd => hx ⟨j, oj, hj, hd⟩]
   exact (hS t).2 fun j oj hj hd => absurd ⟨j, oj, hj, hd⟩ hx
 have rdy : ∀ (listed : Array Bool) i, listed.size = l.length → (i ∈ Region.ready .any l.toArray listed ↔ ∃ o, l[i]? = some o ∧ listed.getD i false = false ∧ ∀ e ∈ o.after.toList, Region.binds .any e = true → listed.getD e.on false = true) := by
  intro listed i hs
  have gd : ∀ j, j < l.length → listed.getD j true = listed.getD j false := by
   intro j hj
   simp [Array.getD, hs, hj]
  rw [mem_ready]
  constructor
  ·rintro ⟨h1, o, h2, h3⟩
   have ho : l[i]? = some o := by simpa using h2
   exact ⟨o, ho, by rw [← gd i (List.getElem?_eq_some_iff.mp ho).1]; exact h1, fun e he hb => h3 e (by simpa using he) hb⟩
  ·rintro ⟨o, ho, h1, h3⟩
   exact ⟨by rw [gd i (List.getElem?_eq_some_iff.mp ho).1]; exact h1, o, by simpa using ho, fun e he hb => h3 e (by simpa using he) hb⟩
 have noneReady : ∀ (listed : Array Bool), listed.size = l.length → Region.ready .any l.toArray listed = [] → ∀ j, j < l.length → listed.getD j false = true := by
  intro listed hs hn j
  induction j using Nat.strongRecOn with
  | _ j ih =>
   intro hj
   have ho : l[j]? = some l[j] := List.getElem?_eq_getElem hj
   cases hl : listed.getD j false with
   | true => rfl
   | false =>
    have : j ∈ Region.ready .any l.toArray listed := (rdy listed j hs).mpr ⟨_, ho, hl, fun e he hb => ih e.on (hD.edge j _ ho e he hb) (Nat.lt_trans (hD.edge j _ ho e he hb) hj)⟩
    rw [hn] at this
    cases this
 intro n
 induction n with
 | zero =>
  intro listed a w hs hu hI
  have hall := unl_zero l.length (by omega : unl (fun j => listed.getD j false) l.length = 0)
  refine ⟨?_, done listed a w hall hI⟩
  cases hr : Region.ready .any l.toArray listed with
  | nil => rfl
  | cons i r =>
   obtain ⟨o, ho, h2, _⟩ := (rdy listed i hs).mp (by rw [hr]; simp)
   rw [hall i (List.getElem?_eq_some_iff.mp ho).1] at h2
   cases h2
 | succ n ih =>
  intro listed a w hs hu hI
  refine ⟨fun hn => done listed a w (noneReady listed hs hn) hI, fun i hi => ?_⟩
  obtain ⟨o, ho, h2, h3⟩ := (rdy listed i hs).mp hi
  have hil : i < l.length := (List.getElem?_eq_some_iff.mp ho).1
  have hset : ∀ j, (listed.setIfInBounds i true).getD j false = (decide (j = i) || listed.getD j false) := by
   intro j
   by_cases e : j = i
   ·subst e; simp [Array.getD, hs, hil]
   ·have e' : i ≠ j := fun h => e h.symm
    simp only [Array.getD_eq_getD_getElem?, Array.getElem?_setIfInBounds_ne e', e, decide_false, Bool.false_or]
  refine invX_step hD hT hW hM hI ho h2 h3 fun a' w' hI' => ih _ a' w' (by simpa using hs) ?_ ?_
  ·have := unl_set (f := fun j => listed.getD j false) (g := fun j => (listed.setIfInBounds i true).getD j false) h2 hset l.length
   rw [if_pos hil] at this
   omega
  ·have e : (fun j => (listed.setIfInBounds i true).getD j false) = ins (fun j => listed.getD j false) i := by
    funext j
    rw [hset j]
    rfl
   rw [e]
   exact hI'
theorem xra_op (hC : CallOk P call) {e : Env} {m m' : Mem} {F : Objs} {o : Oper} {av : AV} (hk : evOp P call e m o = some (av, m')) : XRA P φ₀ m₀ w₀ e m F o av m' F := fun e' hag φ a w hR hX hE hF K Q hK => by
 refine op_wp hC hR hE (by rw [← hk]; exact evOp_congr hag) fun x w' φ' g1 g2 g3 => ?_
 exact hK x w' φ' g1 (hX.trans g2) (fun b y h => h.mono g2) g3 (objs_ext hF g2)
theorem xra_val {e : Env} {m : Mem} {F : Objs} {o : Oper} {av : AV} (hrun : ∀ (e' : Env), (∀ x ∈ o.op.operands.toList, ∀ t, opd P e' t x = opd P e t x) → ∀ (φ : Phi) (a : Act) (w : World), RM φ m w → EnvRep φ m w e' a.tmps → ObjsIn φ m w₀ w F → ∃ x, (execOp a.eval o).run P w = .ok (.value x) w ∧ Rep φ m w av x) :
  XRA P φ₀ m₀ w₀ e m F o av m F := fun e' hag φ a w hR hX hE hF K Q hK => by
 obtain ⟨x, h1, h2⟩ := hrun e' hag φ a w hR hE hF
 unfold Oper.wp
 rw [h1, Oper.upon_value]
 exact hK x w φ hR hX (fun _ _ h => h) h2 hF
theorem xra_set0 {e : Env} {m : Mem} {F : Objs} {o : Oper} {b : Nat} {ob ob' : XOb} (hd : o.dst = none) (hb : (b, ob) ∈ F)
  (hrun : ∀ (e' : Env), (∀ x ∈ o.op.operands.toList, ∀ t, opd P e' t x = opd P e t x) → ∀ (φ : Phi) (a : Act) (w : World), RM φ m w → EnvRep φ m w e' a.tmps → ObjsIn φ m w₀ w F → ∃ o', (execOp a.eval o).run P w = .ok .skip (putObj w b o') ∧ ((∀ {a : AV} {x : Value}, Rep φ m w a x → Rep φ m (putObj w b o') a x) → XIn φ m (putObj w b o') b ob')) :
  XRA P φ₀ m₀ w₀ e m F o (.v undef) m (setObjs F b ob') := fun e' hag φ a w hR hX hE hF K Q hK => by
 obtain ⟨o', h1, h2⟩ := hrun e' hag φ a w hR hE hF
 unfold Oper.wp
 rw [h1, Oper.upon_skip, hd]
 obtain ⟨hR', hX', hF', hrep⟩ := StF.put_ob (a := a) hR hX hF hb h2
 have := hK undef _ φ hR' hX' (fun _ _ h => hrep h) (.v _) hF'
 rw [hd] at this
 exact this
/-- Such a region, in the text's order: all but the last one leave memory and objects as they are; the last one has all others ahead of it. -/
def lastB (l : List Oper) : Bool := (List.range (l.length - 1)).all fun i => ((masks l []).getD (l.length - 1) 0).testBit i
def XLin (P : Program) (φ₀ : Phi) (m₀ : Mem) (w₀ : World) (nt : Nat) (ops : Array Oper) (m : Mem) (F : Objs) (K : Env → Mem → Objs → Prop) : List Oper → Env → Prop
 | [], e => K e m F
 | o :: rest, e =>
  (wantedAV ops e o = some false ∧ ∃ e1, putAV nt o.dst (.v (.tuple #[])) e = some e1 ∧ XLin P φ₀ m₀ w₀ nt ops m F K rest e1) ∨
  (wantedAV ops e o = some true ∧ ∃ av e1, XRA P φ₀ m₀ w₀ e m F o av m F ∧ putAV nt o.dst av e = some e1 ∧ XLin P φ₀ m₀ w₀ nt ops m F K rest e1) ∨
  (rest = [] ∧ wantedAV ops e o = some true ∧ ∃ av e1 m1 F1, XRA P φ₀ m₀ w₀ e m F o av m1 F1 ∧ putAV nt o.dst av e = some e1 ∧ K e1 m1 F1)
theorem xlin_parts {ops : Array Oper} {m : Mem} {F : Objs} {K : Env → Mem → Objs → Prop} : ∀ {l : List Oper} {e : Env}, XLin P φ₀ m₀ w₀ nt ops m F K l e →
  ∃ (E : Nat → Env) (A : Nat → AV) (m' : Mem) (F' : Objs), E 0 = e ∧ (∀ (k : Nat) o, l[k]? = some o → putAV nt o.dst (A k) (E k) = some (E (k + 1))) ∧
   (∀ (k : Nat) o, l[k]? = some o → ∃ b, wantedAV ops (E k) o = some b ∧ (b = false → A k = .v (.tuple #[]))) ∧
   (∀ (k : Nat) o, l[k]? = some o → k + 1 < l.length → wantedAV ops (E k) o = some true → XRA P φ₀ m₀ w₀ (E k) m F o (A k) m F) ∧
   (∀ (k : Nat) o, l[k]? = some o → k + 1 = l.length → wantedAV ops (E k) o = some true → XRA P φ₀ m₀ w₀ (E k) m F o (A k) m' F') ∧
   (∀ (k : Nat) o, l[k]? = some o → k + 1 = l.length → wantedAV ops (E k) o = some false → m' = m ∧ F' = F) ∧ (l = [] → m' = m ∧ F' = F) ∧ K (E l.length) m' F'
 | [], e, h => ⟨fun _ => e, fun _ => .junk, m, F, rfl, fun k o h => by simp at h, fun k o h => by simp at h, fun k o h => by simp at h, fun k o h => by simp at h, fun k o h => by simp at h, fun _ => ⟨rfl, rfl⟩, h⟩
 | o :: rest, e, h => by
  have more : ∀ (av : AV) (e1 : Env), putAV nt o.dst av e = some e1 → (∃ b, wantedAV ops e o = some b ∧ (b = false → av = .v (.tuple #[]))) → (wantedAV ops e o = some true → XRA P φ₀ m₀ w₀ e m F o av m F) → XLin P φ₀ m₀ w₀ nt ops m F K rest e1 →
    ∃ (E : Nat → Env) (A : Nat → AV) (m' : Mem) (F' : Objs), E 0 = e ∧ (∀ (k : Nat) o', (o :: rest)[k]? = some o' → putAV nt o'.dst (A k) (E k) = some (E (k + 1))) ∧
     (∀ (k : Nat) o', (o :: rest)[k]? = some o' → ∃ b, wantedAV ops (E k) o' = some b ∧ (b = false → A k = .v (.tuple #[]))) ∧
     (∀ (k : Nat) o', (o :: rest)[k]? = some o' → k + 1 < (o :: rest).length → wantedAV ops (E k) o' = some true → XRA P φ₀ m₀ w₀ (E k) m F o' (A k) m F) ∧
     (∀ (k : Nat) o', (o :: rest)[k]? = some o' → k + 1 = (o :: rest).length → wantedAV ops (E k) o' = some true → XRA P φ₀ m₀ w₀ (E k) m F o' (A k) m' F') ∧
     (∀ (k : Nat) o', (o :: rest)[k]? = some o' → k + 1 = (o :: rest).length → wantedAV ops (E k) o' = some false → m' = m ∧ F' = F) ∧ (o :: rest = [] → m' = m ∧ F' = F) ∧ K (E (o :: rest).length) m' F' := by
   intro av e1 hp hw hx hr
   obtain ⟨E, A, m', F', h0, h1, h2, h3, h4, h5, h7, h6⟩ := xlin_parts hr
   refine ⟨fun k => match k with | 0 => e | k + 1 => E k, fun k => match k with | 0 => av | k + 1 => A k, m', F', rfl, fun k o' ho => ?_, fun k o' ho => ?_, fun k o' ho hl => ?_, fun k o' ho hl => ?_, fun k o' ho hl => ?_, (fun hh => by cases hh), h6⟩
   ·cases k with
    | zero => cases ho; show putAV nt o.dst av e = some (E 0); rw [h0]; exact hp
    | succ k => exact h1 k o' (by simpa using ho)
   ·cases k with
    | zero => cases ho; exact hw
    | succ k => exact h2 k o' (by simpa using ho)
   ·cases k with
    | zero => cases ho; exact hx
    | succ k => exact h3 k o' (by simpa using ho) (by simpa using hl)
   ·cases k with
    | zero =>
     cases ho
     have hre : rest = [] := List.eq_nil_of_length_eq_zero (by simpa using hl.symm)
     obtain ⟨r1, r2⟩ := h7 hre
     rw [r1, r2]
     exact hx
    | succ k => exact h4 k o' (by simpa using ho) (by simpa using hl)
   ·cases k with
    | zero =>
     cases ho
     have hre : rest = [] := List.eq_nil_of_length_eq_zero (by simpa using hl.symm)
     exact fun _ => h7 hre
    | succ k => exact h5 k o' (by simpa using ho) (by simpa using hl)
  rcases h with ⟨hw, e1, hp, hr⟩ | ⟨hw, av, e1, hx, hp, hr⟩ | ⟨rfl, hw, av, e1, m1, F1, hx, hp, hK⟩
  ·exact more _ e1 hp ⟨false, hw, fun _ => rfl⟩ (fun h => by rw [hw] at h; cases h) hr
  ·exact more av e1 hp ⟨true, hw, fun h => by cases h⟩ (fun _ => hx) hr
  ·refine ⟨fun k => match k with | 0 => e | _ + 1 => e1, fun _ => av, m1, F1, rfl, fun k o' ho => ?_, fun k o' ho => ?_, fun k o' ho hl => ?_, fun k o' ho hl => ?_, fun k o' ho hl => ?_, (fun hh => by cases hh), hK⟩
   ·cases k with
    | zero => cases ho; exact hp
    | succ k => simp at ho
   ·cases k with
    | zero => cases ho; exact ⟨true, hw, fun h => by cases h⟩
    | succ k => simp at ho
   ·simp at hl
   ·cases k with
    | zero => cases ho; exact fun _ => hx
    | succ k => simp at ho
   ·cases k with
    | zero => cases ho; exact fun h => by rw [hw] at h; cases h
    | succ k => simp at ho
theorem x_drawnX (hm : P.follows .mixedOrders = true) {id : Nat} {l2 : Option (List Nat)} {F : Objs} {Q : PostF} {e : Env} {m : Mem} (hD : drawnS l = true) (hL : lastB l = true)
  (h : XLin P φ₀ m₀ w₀ nt l.toArray m F (fun e' m' F' => ∀ e2, Ev.restr l2 e' = e2 → Q .normal e2 m' F') l e) : XRuns P φ₀ m₀ w₀ nt (.region id l.toArray true) e m F Q := fun a w hs => by
 obtain ⟨E, A, m', F', h0, h1, h2, h3, h4, h5, h7, h6⟩ := xlin_parts h
 obtain ⟨φ, hRM, hX, hE, hn, hdf, hF⟩ := hs
 have hx := drew_ext φ m w
 have hDS := drawnS_of hD
 let n := l.length
 let MS : (Nat → Bool) → Mem := fun S => if S (n - 1) = true ∧ 0 < n then m' else m
 let FS : (Nat → Bool) → Objs := fun S => if S (n - 1) = true ∧ 0 < n then F' else F
 have hMS : ∀ S, S (n - 1) = false → MS S = m ∧ FS S = F := fun S hs => ⟨if_neg (by rw [hs]; simp), if_neg (by rw [hs]; simp)⟩
 have hMS' : ∀ S, S (n - 1) = true → 0 < n → MS S = m' ∧ FS S = F' := fun S hs hn => ⟨if_pos ⟨hs, hn⟩, if_pos ⟨hs, hn⟩⟩
 have key := wpAny_invX (P := P) (l := l) (nt := nt) (E := E) (A := A) (MS := MS) (FS := FS) (φ₀ := φ₀) (m₀ := m₀) (w₀ := w₀) (m' := m') (F' := F') (Q := EndsF φ₀ m₀ w₀ nt Q) hDS h1 h2 (fun S i o ho hcl hni hready => by
  have hil : i < n := (List.getElem?_eq_some_iff.mp ho).1
  by_cases hi : i + 1 < n
  ·have hlast : S (n - 1) = false := by
    cases hs : S (n - 1) with
    | false => rfl
    | true =>
     have hon : l[n - 1]? = some (l[n - 1]'(by show n - 1 < n; omega)) := List.getElem?_eq_getElem (by show n - 1 < n; omega)
     have hb : ((masks l []).getD (n - 1) 0).testBit i = true := by
      have := List.all_eq_true.1 hL i (List.mem_range.2 (by show i < n - 1; omega))
      exact this
     have := mask_listed (S := fun j => S j = true) hDS.edge hcl (n - 1) _ hon (hcl (n - 1) _ hon hs) i hb
     rw [hni] at this
     cases this
   have hins : ins S i (n - 1) = false := by
    unfold ins
    rw [hlast, Bool.or_false]
    exact decide_eq_false (by omega)
   obtain ⟨a1, a2⟩ := hMS S hlast
   obtain ⟨b1, b2⟩ := hMS (ins S i) hins
   rw [a1, a2, b1, b2]
   exact ⟨fun hw => h3 i o ho hi hw, fun _ => ⟨rfl, rfl⟩⟩
  ·have hin : i = n - 1 := by omega
   have hlast : S (n - 1) = false := by rw [← hin]; exact hni
   have hins : ins S i (n - 1) = true := by unfold ins; rw [hin]; simp
   obtain ⟨a1, a2⟩ := hMS S hlast
   obtain ⟨b1, b2⟩ := hMS' (ins S i) hins (by omega)
   rw [a1, a2, b1, b2]
   exact ⟨fun hw => h4 i o ho (by show i + 1 = n; omega) hw, fun hw => h5 i o ho (by show i + 1 = n; omega) hw⟩) (fun S hall => by
  by_cases hn0 : 0 < n
  ·exact hMS' S (hall (n - 1) (by show n - 1 < n; omega)) hn0
  ·obtain ⟨r1, r2⟩ := h7 (List.eq_nil_of_length_eq_zero (by show n = 0; omega))
   exact ⟨by rw [r1]; exact if_neg (by omega), by rw [r2]; exact if_neg (by omega)⟩) (fun a' w' hst => ⟨.normal, _, m', F', rfl, hst.restr l2, h6 _ rfl⟩)
  l.length (Array.replicate l.length false) a { w with drawn := w.drawn + 1 } (by simp) (unl_le ..)
 have no : ∀ j, (Array.replicate l.length false).getD j false = false := by
  intro j
  simp [Array.getD]
 have e0 : (fun j => (Array.replicate l.length false).getD j false) = fun _ => false := by funext j; exact no j
 rw [e0] at key
 refine wp_region_any hm ?_
 obtain ⟨z1, z2⟩ := hMS (fun _ => false) rfl
 have := key ⟨⟨φ, by rw [z1]; exact drew_rm hRM, by rw [z1]; exact hX.trans hx, by
  rw [z1]
  exact fun t => ⟨fun j o _ _ hl => absurd hl (by simp), fun _ => by rw [h0]; exact (hE t).mono hx⟩, by rw [z1, z2]; exact objs_ext hF hx⟩, hn, hdf, fun j o _ hl => absurd hl (by simp)⟩
 simpa using this
end
end
section
section
variable {P : Program} {call : CallF} {nt : Nat} {φ₀ : Phi} {m₀ : Mem} {w₀ : World} {ops : Array Oper} {rest : List Oper}
variable {e e1 : Env} {m m1 : Mem} {F F1 : Objs} {K : Env → Mem → Objs → Prop} {o : Oper} {av : AV}
/-! ### steps of such a region, in the text's order -/
theorem xl_nil (h : K e m F) : XLin P φ₀ m₀ w₀ nt ops m F K [] e := h
theorem xl_step (hw : wantedAV ops e o = some true) (hx : XRA P φ₀ m₀ w₀ e m F o av m F) (hp : putAV nt o.dst av e = some e1) (h : XLin P φ₀ m₀ w₀ nt ops m F K rest e1) : XLin P φ₀ m₀ w₀ nt ops m F K (o :: rest) e :=
 .inr (.inl ⟨hw, av, e1, hx, hp, h⟩)
theorem xl_last (hw : wantedAV ops e o = some true) (hx : XRA P φ₀ m₀ w₀ e m F o av m1 F1) (hp : putAV nt o.dst av e = some e1) (h : K e1 m1 F1) : XLin P φ₀ m₀ w₀ nt ops m F K [o] e :=
 .inr (.inr ⟨rfl, hw, av, e1, m1, F1, hx, hp, h⟩)
theorem xl_op (hC : CallOk P call) {d : Nat} (hg : o.guard = none) (hd : o.dst = some d) (hlt : d < nt) (hk : evOp P call e m o = some (av, m)) (h : XLin P φ₀ m₀ w₀ nt ops m F K rest ((d, av) :: e)) : XLin P φ₀ m₀ w₀ nt ops m F K (o :: rest) e :=
 xl_step (by unfold wantedAV; rw [hg]) (xra_op hC hk) (by rw [hd]; exact putAV_some hlt _ _) h
theorem xl_yes (hC : CallOk P call) {d j g : Nat} {want : Bool} (hg : o.guard = some (j, want)) (hj : (ops[j]?).bind (·.dst) = some g) (hb : get e g = .v (.bool want)) (hd : o.dst = some d) (hlt : d < nt) (hk : evOp P call e m o = some (av, m))
  (h : XLin P φ₀ m₀ w₀ nt ops m F K rest ((d, av) :: e)) : XLin P φ₀ m₀ w₀ nt ops m F K (o :: rest) e :=
 xl_step (by unfold wantedAV; rw [hg]; simp [hj, hb]) (xra_op hC hk) (by rw [hd]; exact putAV_some hlt _ _) h
theorem xl_no {d j g : Nat} {want b : Bool} (hg : o.guard = some (j, want)) (hj : (ops[j]?).bind (·.dst) = some g) (hb : get e g = .v (.bool b)) (hne : b ≠ want) (hd : o.dst = some d) (hlt : d < nt)
  (h : XLin P φ₀ m₀ w₀ nt ops m F K rest ((d, .v (.tuple #[])) :: e)) : XLin P φ₀ m₀ w₀ nt ops m F K (o :: rest) e :=
 .inl ⟨by unfold wantedAV; rw [hg]; simp [hj, hb, hne], _, by rw [hd]; exact putAV_some hlt _ _, h⟩
theorem xl_off {d j g : Nat} {want : Bool} {a : Array Value} (hg : o.guard = some (j, want)) (hj : (ops[j]?).bind (·.dst) = some g) (hb : get e g = .v (.tuple a)) (hd : o.dst = some d) (hlt : d < nt)
  (h : XLin P φ₀ m₀ w₀ nt ops m F K rest ((d, .v (.tuple #[])) :: e)) : XLin P φ₀ m₀ w₀ nt ops m F K (o :: rest) e :=
 .inl ⟨by unfold wantedAV; rw [hg]; simp [hj, hb], _, by rw [hd]; exact putAV_some hlt _ _, h⟩
/-! ### rows -/
theorem raw_at {φ : Phi} {w : World} {a : Act} {e' : Env} (hE : EnvRep φ m w e' a.tmps) (hag : ∀ x ∈ o.op.operands.toList, ∀ t, opd P e' t x = opd P e t x) {t : TypeId} {x : Operand} {z : Value} (hm : x ∈ o.op.operands.toList) (h : opd P e t x = .v z) : a.eval x = z :=
 eval_raw (P := P) hE ((hag x hm t).trans h)
theorem xra_indexRaw {t t1 t2 el : TypeId} {x i : Operand} {k b off n c j : Nat} {kk : IntKind} (ho : o.op = .indexAddr t x i) (ht : tElem P t = some el) (hk : tSize P el = some k)
  (hx : opd P e t1 x = .v (rawSl b off n c)) (hi : opd P e t2 i = .v (.int kk (j : Int))) (hj : j < n) : XRA P φ₀ m₀ w₀ e m F o (.v (rawPtr b (off + j * k))) m F :=
 xra_val fun e' hag φ a w _ hE hF => by
  refine ⟨_, ?_, .v _⟩
  have q1 := raw_at hE hag (by rw [ho]; simp [Op.operands]) hx
  have q2 := raw_at hE hag (by rw [ho]; simp [Op.operands]) hi
  unfold execOp
  rw [ho]
  simp only [q1, q2]
  refine fin_value ?_
  have h0 : (0 : Int) ≤ (j : Int) := by omega
  have h1 : (j : Int) < (n : Int) := by omega
  have ha : (⟨b, off, none⟩ : Addr).add (j * k) = ⟨b, off + j * k, none⟩ := addr_add rfl _
  simp [Instr.indexAt, asIntOf, run_underlying' (elem_under ht), hj, run_sizeOf' hk, ha]
theorem xra_fieldRaw {t t1 ft : TypeId} {x : Operand} {i b off d k : Nat} (ho : o.op = .fieldAddr t x i) (hf : tField P t i = some (d, ft)) (hk : tSize P ft = some (k + 1))
  (hx : opd P e t1 x = .v (rawPtr b off)) : XRA P φ₀ m₀ w₀ e m F o (.v (rawPtr b (off + d))) m F :=
 xra_val fun e' hag φ a w _ hE hF => by
  refine ⟨_, ?_, .v _⟩
  have q1 := raw_at hE hag (by rw [ho]; simp [Op.operands]) hx
  unfold execOp
  rw [ho]
  simp only [q1]
  refine fin_value ?_
  unfold tField at hf
  cases hu : P.underlying t with
  | none => simp [hu] at hf
  | some dd =>
   cases dd <;> simp [hu] at hf
   rename_i fs
   obtain ⟨f, hf, rfl, rfl⟩ := hf
   have hplace : (fieldPlace (⟨b, off, none⟩ : Addr) f).run P w = .ok (⟨b, off + f.offset, none⟩ : Addr) w := by
    have ha : (⟨b, off, none⟩ : Addr).add f.offset = ⟨b, off + f.offset, none⟩ := addr_add rfl _
    simp [fieldPlace, run_sizeOf' hk, ha]
   simp [Instr.fieldAt, run_underlying' hu, hf, Instr.sureAddr, hplace]
theorem xra_loadRaw {t t1 : TypeId} {x : Operand} {b off : Nat} {cs : List AV} (ho : o.op = .load t x) (hb : (b, XOb.arr cs) ∈ F) (hx : opd P e t1 x = .v (rawPtr b off)) (hl : evPart P t cs off = some av) : XRA P φ₀ m₀ w₀ e m F o av m F :=
 xra_val fun e' hag φ a w _ hE hF => by
  have q1 := raw_at hE hag (by rw [ho]; simp [Op.operands]) hx
  have hc := arr_cellsAt (hF _ hb).1 off
  have key : ∃ z, (Instr.loadAt t (rawPtr b off)).run P w = .ok z w ∧ Rep φ m w av z := by
   unfold evPart at hl
   split at hl
   ·rename_i k hagg hsz
    split at hl
    ·rename_i hk
     simp only [Option.some.injEq] at hl
     subst hl
     obtain ⟨arr, hrun, hreps⟩ := load_cells (P := P) hc (k := k) (by rw [List.length_drop]; omega)
     exact ⟨.agg arr, by simp [Instr.loadAt, Instr.sureAddr, loadVar, run_isAgg' hagg, run_sizeOf' hsz, hrun], .agg _ _ hreps.1 hreps.2⟩
    ·cases hl
   ·rename_i k hagg hsz
    obtain ⟨hs, val, hv⟩ := hc
    have h0 : (cs.drop off)[0]? = some av := by rw [List.getElem?_drop, Nat.add_zero]; exact hl
    obtain ⟨h1, h2⟩ := hv 0 av h0
    exact ⟨val 0, by simp only [Nat.add_zero] at h1; simp [Instr.loadAt, Instr.sureAddr, loadVar, run_isAgg' hagg, h1], h2⟩
   ·cases hl
  obtain ⟨z, h1, h2⟩ := key
  refine ⟨z, ?_, h2⟩
  unfold execOp
  rw [ho]
  simp only [q1]
  exact fin_value h1
theorem xra_storeRaw {t t1 t2 : TypeId} {x y : Operand} {b off k : Nat} {cs row : List AV} {bv : AV} (hd : o.dst = none) (ho : o.op = .store t x y) (hb : (b, XOb.arr cs) ∈ F) (hx : opd P e t1 x = .v (rawPtr b off))
  (hy : opd P e t2 y = bv) (hr : rowOf bv = some row) (hk : tSize P t = some k) (hl : row.length = k) (hfit : off + k ≤ cs.length) : XRA P φ₀ m₀ w₀ e m F o (.v undef) m (setObjs F b (.arr (splice cs off row))) :=
 xra_set0 hd hb (fun e' hag φ a w hR hE hF => by
  obtain ⟨arr, T, h1, h2, h3, h4⟩ := (hF _ hb).1
  have q1 := raw_at hE hag (by rw [ho]; simp [Op.operands]) hx
  have hyr := rep_opd (P := P) hE t2 y
  rw [hag y (by rw [ho]; simp [Op.operands]) t2, hy] at hyr
  obtain ⟨g1, g2⟩ := row_of hyr hr
  have hvl : (a.eval y).cells.size = k := by rw [g1.1, hl]
  have hone : ∀ v ∈ (a.eval y).cells.toList, one v = true := fun v hv => by
   obtain ⟨i, hi⟩ := List.getElem?_of_mem hv
   exact g2 i v (by simpa using hi)
  refine ⟨.cells (arr.toList.take off ++ (a.eval y).cells.toList ++ arr.toList.drop (off + (a.eval y).cells.toList.length)).toArray T (0, 0), ?_, fun hrep => ?_⟩
  ·unfold execOp
   rw [ho]
   simp only [q1]
   refine fin_skip ?_
   have hst := run_storeCells_at P b off T (a.eval y).cells.toList 0 arr w h1 (by have := h2.1; simp only [Array.length_toList]; omega) (fun v hv => by rw [← one_eq]; exact hone v hv)
   simp only [Nat.add_zero] at hst
   rw [← setRow_put h1]
   simp only [Instr.storeAt, Instr.sureAddr, Sem.run_bind, Sem.run_pure, Result.andThen_ok, storeVar, run_sizeOf' hk, Sem.run_ite, hvl]
   simpa using hst
  ·exact arr_put h2 h3 h4 (by simpa using g1) (row_isRow hr) hone (by rw [hl]; exact hfit) hrep (putObj_self w _ (xin_lt (hF _ hb).1)))
end
section
variable {P : Program} {nt : Nat} {φ₀ : Phi} {m₀ : Mem} {w₀ : World} {ops : Array Oper} {e : Env} {m : Mem} {F : Objs} {K : Env → Mem → Objs → Prop} {o : Oper} {κ : Type} {enc : κ → Value} {kt et mt : TypeId}
/-! ### a map gone through -/
def iterOb (bm n : Nat) (seen : List Nat) : XOb := .ob (.mapIter (some bm) n seen.toArray n)
theorem xs_rangeMap (hm : P.underlying mt = some (.map kt et)) {bm d : Nat} {l : List (κ × Value)} (hb : (bm, mapOb enc l) ∈ F) {x : Operand} (hg : wantedAV ops e o = some true) (hd : o.dst = some d) (hlt : d < nt) (ho : o.op = .range mt x) (hx : opd P e mt x = .v (.map (some bm)))
  (h : ∀ b, (∀ p ∈ F, p.1 ≠ b) → K ((d, .v (rawPtr b 0)) :: e) m ((b, iterOb bm l.length []) :: F)) : XStep P φ₀ m₀ w₀ nt ops o e m F K :=
 xs_new (f := fun b => rawPtr b 0) (ob := .mapIter (some bm) l.length #[] l.length) hg hd hlt (fun φ a w _ hE hF => by
  unfold execOp
  rw [ho]
  simp only [eval_raw (P := P) hE hx]
  exact fin_value (run_range_map w mt kt et bm (ents enc 0 l).toArray l.length hm (hF _ hb).1)) h
theorem ents_mem {l : List (κ × Value)} {x : MapEntry} (hx : x ∈ ents enc 0 l) : ∃ i, i < l.length ∧ x.born = i ∧ ∃ p, l[i]? = some p ∧ x = { key := enc p.1, val := p.2, born := i } := by
 obtain ⟨i, hi⟩ := List.getElem?_of_mem hx
 rw [ents_get] at hi
 simp only [Option.map_eq_some_iff, Nat.zero_add] at hi
 obtain ⟨p, hp, rfl⟩ := hi
 exact ⟨i, (List.getElem?_eq_some_iff.1 hp).1, rfl, p, hp, rfl⟩
theorem ents_nodup (l : List (κ × Value)) : ((ents enc 0 l).map (·.born)).Nodup := by
 have key : ∀ (l : List (κ × Value)) (i : Nat), (ents enc i l).map (·.born) = List.range' i l.length := by
  intro l
  induction l with
  | nil => intro i; rfl
  | cons p r ih => intro i; obtain ⟨k, v⟩ := p; simp only [ents, List.map_cons, ih (i + 1), List.length_cons, List.range'_succ]
 rw [key]
 exact List.nodup_range' ..
end
section
variable {P : Program} {call : CallF} {nt : Nat} {φ₀ : Phi} {m₀ : Mem} {w₀ : World} {ops : Array Oper} {rest : List Oper}
variable {e e1 : Env} {m m1 : Mem} {F F1 : Objs} {K : Env → Mem → Objs → Prop} {o : Oper} {av : AV}
variable {κ : Type} [DecidableEq κ] {enc : κ → Value} {kt et mt : TypeId} {w : World}
/-! ### a map written -/
theorem putK_pos {k : κ} {v : Value} : ∀ {l : List (κ × Value)} {j i : Nat} {u : Value}, posOf k l j = some (i, u) → putK k v l = setV l (i - j) v
 | [], _, _, _, h => by cases h
 | (q, u0) :: r, j, i, u, h => by
  unfold posOf at h
  unfold putK
  split at h
  ·rename_i hq
   cases h
   rw [if_pos hq]
   simp [setV]
  ·rename_i hq
   obtain ⟨h1, _⟩ := posOf_get h
   rw [if_neg hq, putK_pos h, show i - j = (i - (j + 1)) + 1 by omega]
   simp [setV]
theorem putK_none {k : κ} {v : Value} : ∀ {l : List (κ × Value)} {j : Nat}, posOf k l j = none → putK k v l = l ++ [(k, v)]
 | [], _, _ => rfl
 | (q, u0) :: r, j, h => by
  unfold posOf at h
  unfold putK
  split at h
  ·cases h
  ·rename_i hq
   rw [if_neg hq, putK_none h]
   rfl
theorem update_run (hk : KeyOk P kt κ enc) (hm : P.underlying mt = some (.map kt et)) {b : Nat} {l : List (κ × Value)} (hb : w.heap[b]? = some (mapO enc l)) (k : κ) (v : Value) :
  (Instr.mapUpdate mt (.map (some b)) (enc k) v).run P w = .ok () (putObj w b (mapO enc (putK k v l))) := by
 have hck := hk.ck false k w
 unfold Instr.mapUpdate
 simp only [Sem.run_bind, run_underlying hm, Result.andThen, getObj, Sem.run, hb, mapO, hck]
 have h1 := findKey_run (w := w) hk k l
 cases hp : posOf k l 0 with
 | none =>
  rw [hp] at h1
  rw [h1, putK_none hp]
  simp [Sem.run_bind, Result.andThen, Sem.run, setObj, putObj, ents_app, ents]
  rw [hb]
  rfl
 | some p =>
  obtain ⟨i, u⟩ := p
  rw [hp] at h1
  obtain ⟨_, h2⟩ := posOf_get hp
  rw [Nat.sub_zero] at h2
  have h3 : (ents enc 0 l)[i]? = some { key := enc k, val := u, born := i } := by rw [ents_get, h2]; simp
  rw [h1, putK_pos hp, Nat.sub_zero]
  have hst := stays_run (P := P) (w := w) hk k
  have hil := (List.getElem?_eq_some_iff.1 h2).1
  have hmod : (ents enc 0 l).toArray.modify i (fun e => { e with key := enc k, val := v }) = (ents enc 0 (setV l i v)).toArray := by
   apply Array.ext'
   simp only [Array.toList_modify]
   apply List.ext_getElem?
   intro j
   rw [List.getElem?_modify, ents_get, ents_get]
   unfold setV
   rw [List.getElem?_modify]
   by_cases hij : i = j
   ·subst hij
    rw [h2]
    simp
   ·cases l[j]? with
    | none => simp
    | some q => simp [hij]
  simp only [List.getElem?_toArray, h3, Option.map_some, Option.getD_some, Sem.run_bind, hst, Result.andThen, Sem.run, setObj, hmod]
  rw [hb]
  simp [setV, putObj, mapO]
theorem xra_update (hk : KeyOk P kt κ enc) (hm : P.underlying mt = some (.map kt et)) {b : Nat} {l : List (κ × Value)} (hb : (b, mapOb enc l) ∈ F) (k : κ) {v : Value} {x y z : Operand} {t t2 : TypeId}
  (hd : o.dst = none) (ho : o.op = .mapUpdate mt x y z) (hx : opd P e mt x = .v (.map (some b))) (hy : conc (opd P e t y) = some (enc k)) (hz : opd P e t2 z = .v v) : XRA P φ₀ m₀ w₀ e m F o (.v undef) m (setObjs F b (mapOb enc (putK k v l))) :=
 xra_set0 hd hb (fun e' hag φ a w hR hE hF => by
  have q1 := raw_at hE hag (by rw [ho]; simp [Op.operands]) hx
  have q3 := raw_at hE hag (by rw [ho]; simp [Op.operands]) hz
  have q2 : a.eval y = enc k := opd_conc (P := P) hE (t := t) (by rw [hag y (by rw [ho]; simp [Op.operands]) t]; exact hy)
  refine ⟨mapO enc (putK k v l), ?_, fun _ => show (putObj w b _).heap[b]? = _ from putObj_self w _ (xin_lt (hF _ hb).1)⟩
  unfold execOp
  rw [ho]
  simp only [q1, q2, q3]
  rw [Sem.run_bind, update_run hk hm (hF _ hb).1 k v]
  rfl)
end
section
variable {P : Program} {nt : Nat} {φ₀ : Phi} {m₀ : Mem} {w₀ : World} {ops : Array Oper} {e e1 : Env} {m : Mem} {F : Objs} {K : Env → Mem → Objs → Prop} {o : Oper} {κ : Type} {enc : κ → Value}
theorem tup_junk {φ : Phi} {w : World} {a b : Value} : Rep φ m w (.tup [.v (.bool true), .junk, .junk]) (.tuple #[.bool true, a, b]) := .tup _ _ rfl fun i x u e1 e2 => by
 match i, e1, e2 with
 | 0, e1, e2 => cases e1; cases e2; exact .v _
 | 1, e1, e2 => cases e1; exact .junk _
 | 2, e1, e2 => cases e1; exact .junk _
 | i + 3, e1, e2 => simp at e1
theorem xs_nextMap {bm b d : Nat} {l : List (κ × Value)} {seen : List Nat} (hb : (bm, mapOb enc l) ∈ F) (hi : (b, iterOb bm l.length seen) ∈ F) {x : Operand} (hg : wantedAV ops e o = some true) (hd : o.dst = some d) (hlt : d < nt) (ho : o.op = .next x false)
  {t : TypeId} (hx : opd P e t x = .v (rawPtr b 0))
  (h1 : (∀ i, i < l.length → i ∈ seen) → K ((d, .tup [.v (.bool false)]) :: e) m F)
  (h2 : ∀ i, i < l.length → i ∉ seen → K ((d, .tup [.v (.bool true), .junk, .junk]) :: e) m (setObjs F b (iterOb bm l.length (seen ++ [i])))) : XStep P φ₀ m₀ w₀ nt ops o e m F K := fun K' Q hK a w hs => by
 obtain ⟨φ, hRM, hX, hE, hn, hdf, hF⟩ := hs
 rw [wanted_sound hE hg, if_pos rfl]
 left
 have q1 := eval_raw (P := P) hE hx
 have hmap : w.heap[bm]? = some (mapO enc l) := (hF _ hb).1
 have hit : w.heap[b]? = some (.mapIter (some bm) l.length seen.toArray l.length) := (hF _ hi).1
 have hold : ∀ x ∈ (ents enc 0 l).toArray.toList, x.born < l.length := fun x hx => by
  obtain ⟨i, h, he, _⟩ := ents_mem (enc := enc) (l := l) (by simpa using hx)
  omega
 have hleft : ∀ x ∈ ((ents enc 0 l).toArray.filter fun e => !seen.toArray.contains e.born).toList, ∃ i, i < l.length ∧ i ∉ seen ∧ x.born = i := fun x hx => by
  simp at hx
  obtain ⟨i, h, he, _⟩ := ents_mem (enc := enc) (l := l) hx.1
  exact ⟨i, h, by rw [← he]; exact hx.2, he⟩
 have htest := next_test_false seen.toArray (ents enc 0 l).toArray l.length l.length hold (Nat.le_refl _)
 -- what the step does
 have hrun : (((ents enc 0 l).toArray.filter fun e => !seen.toArray.contains e.born) = #[] ∧ (Instr.next (rawPtr b 0) false o.type).run P w = .ok (.tuple #[.bool false]) w) ∨
   ∃ (x : MapEntry) (w1 : World), x ∈ ((ents enc 0 l).toArray.filter fun e => !seen.toArray.contains e.born).toList ∧ (w1 = w ∨ w1 = w.drew) ∧ (Instr.next (rawPtr b 0) false o.type).run P w = .ok (.tuple #[.bool true, x.key, x.val]) (putObj w1 b (.mapIter (some bm) l.length (seen.toArray.push x.born) l.length)) := by
  simp only [Instr.next, getObj, Sem.run_bind, Sem.run, hit, Result.andThen]
  rw [hmap]
  simp only [mapO, Result.andThen, htest, Bool.false_eq_true, if_false]
  have hmem : ∀ x ∈ (Array.filter (fun e => !seen.toArray.contains e.born) (ents enc 0 l).toArray).toList, x.born < l.length := fun x hx => hold x (by simp at hx ⊢; exact hx.1)
  generalize Array.filter (fun e => !seen.toArray.contains e.born) (ents enc 0 l).toArray = L at hmem ⊢
  have e1 : L.filter (fun x => decide (x.born < l.length)) = L := Array.filter_eq_self.2 (fun x hx => by simpa using hmem x (by simpa using hx))
  have e2 : L.filter (fun x => decide (x.born ≥ l.length)) = #[] := by
   rw [Array.filter_eq_empty_iff]
   intro x hx
   have := hmem x (by simpa using hx)
   simp
   omega
  simp only [e1, e2, Array.append_empty]
  by_cases h0 : L.size = 0
  ·left
   have : L = #[] := Array.eq_empty_of_size_eq_zero h0
   subst this
   refine ⟨rfl, ?_⟩
   simp [choose, Sem.run, Question.forced]
  ·right
   have hne : L.isEmpty = false := by simp [Array.isEmpty, h0]
   simp only [hne, Bool.false_eq_true, if_false, Array.empty_append, Array.size_map]
   have hch : ∃ (j : Nat) (w1 : World), j < L.size ∧ (w1 = w ∨ w1 = w.drew) ∧ (choose (Question.mapNext L.size)).run P w = .ok j w1 := by
    by_cases hf : L.size ≤ 1
    ·exact ⟨0, w, by omega, .inl rfl, by simp [choose, Sem.run, Question.forced, hf]⟩
    ·exact ⟨_, w.drew, Nat.mod_lt _ (by omega), .inr rfl, by
      simp only [choose, Sem.run, Question.forced, decide_eq_true_eq, hf, if_false, Question.cut]
      rfl⟩
   obtain ⟨j, w1, hj, hal, hrun⟩ := hch
   have hit1 : w1.heap[b]? = some (.mapIter (some bm) l.length seen.toArray l.length) := by
    rcases hal with rfl | rfl
    ·exact hit
    ·exact hit
   refine ⟨L[j], w1, by simp, hal, ?_⟩
   simp only [hrun, Array.getElem?_map, Array.getElem?_eq_getElem hj, Option.map_some, Sem.run_bind, setObj, Sem.run, hit1, Result.andThen]
   rfl
 unfold Oper.wp
 rcases hrun with ⟨hemp, hrun⟩ | ⟨x, w1, hx', hal, hrun⟩
 ·have hr : (execOp a.eval o).run P w = .ok (.value (.tuple #[.bool false])) w := by
   unfold execOp
   rw [ho]
   simp only [q1]
   exact fin_value hrun
  rw [hr, Oper.upon_value, hd]
  refine hK _ m _ _ _ (h1 fun i hil => ?_) ⟨φ, hRM, hX, hE.put (putAV_some hlt _ _) hn (.tup _ _ rfl fun i x u e1 e2 => by match i, e1, e2 with | 0, e1, e2 => cases e1; cases e2; exact .v _ | i + 1, e1, e2 => simp at e1) a.defers, by rw [put_size]; exact hn, by rw [put_defers]; exact hdf, hF⟩
  refine Decidable.byContradiction fun hns => ?_
  have hp := List.getElem?_eq_getElem hil
  have hmem : ({ key := enc l[i].1, val := l[i].2, born := i } : MapEntry) ∈ ents enc 0 l := List.mem_of_getElem? (i := i) (by rw [ents_get, hp]; simp)
  have : ({ key := enc l[i].1, val := l[i].2, born := i } : MapEntry) ∈ ((ents enc 0 l).toArray.filter fun e => !seen.toArray.contains e.born) := by
   simp
   exact ⟨hmem, hns⟩
  rw [hemp] at this
  simp at this
 ·have hr : (execOp a.eval o).run P w = .ok (.value (.tuple #[.bool true, x.key, x.val])) (putObj w1 b (.mapIter (some bm) l.length (seen.toArray.push x.born) l.length)) := by
   unfold execOp
   rw [ho]
   simp only [q1]
   exact fin_value hrun
  rw [hr, Oper.upon_value, hd]
  obtain ⟨i, hil, hns, hbi⟩ := hleft x hx'
  rw [hbi]
  have hRM1 : RM φ m w1 ∧ Ext φ m w φ m w1 := by
   rcases hal with rfl | rfl
   ·exact ⟨hRM, Ext.refl ..⟩
   ·exact ⟨drew_rm hRM, drew_ext φ m w⟩
  obtain ⟨g1, g2⟩ := hRM1
  have hF1 := objs_ext hF g2
  have hoit : XOb.ob (.mapIter (some bm) l.length (seen.toArray.push i) l.length) = iterOb bm l.length (seen ++ [i]) := by unfold iterOb; simp
  obtain ⟨hR', hX', hF', hrep⟩ := StF.put_ob (o' := .mapIter (some bm) l.length (seen.toArray.push i) l.length) (ob' := iterOb bm l.length (seen ++ [i])) (a := a) g1 (hX.trans g2) hF1 hi (fun _ => by
   rw [← hoit]
   exact putObj_self w1 _ (xin_lt (hF1 _ hi).1))
  exact hK _ m _ _ _ (h2 i hil hns) ⟨φ, hR', hX', EnvRep.put (fun t => hrep ((hE t).mono g2)) (putAV_some hlt _ _) hn tup_junk a.defers, by rw [put_size]; exact hn, by rw [put_defers]; exact hdf, hF'⟩
theorem rep_conc {φ : Phi} {w : World} {a : AV} {y : Value} (h : conc a = some y) : Rep φ m w a y := by
 cases a with
 | v x => cases h; exact .v _
 | agg cs =>
  simp only [conc, Option.map_eq_some_iff] at h
  obtain ⟨l, h1, rfl⟩ := h
  obtain ⟨h2, h3⟩ := mapM_spec h1
  refine .agg _ _ (by simp [h2]) fun i a u e1 e2 => ?_
  rw [List.getElem?_toArray] at e2
  obtain ⟨c, hc, hcu⟩ := h3 i u e2
  rw [e1] at hc
  cases hc
  cases a <;> simp [concCell] at hcu
  subst hcu
  exact .v _
 | _ => cases h
theorem xs_entryMap {bm b i : Nat} {l : List (κ × Value)} {seen : List Nat} {k : κ} {v : Value} {kav : AV} (hb : (bm, mapOb enc l) ∈ F) (hi : (b, iterOb bm l.length (seen ++ [i])) ∈ F) (hkv : l[i]? = some (k, v)) (hk : conc kav = some (enc k)) {x : Operand}
  (hg : wantedAV ops e o = some true) (ho : o.op = .entry x) {t : TypeId} (hx : opd P e t x = .v (rawPtr b 0)) (hp : putAV nt o.dst (.tup [kav, .v v]) e = some e1) (h : K e1 m F) : XStep P φ₀ m₀ w₀ nt ops o e m F K :=
 xs_val hg hp (fun φ a w _ hE hF => by
  have hmap : w.heap[bm]? = some (mapO enc l) := (hF _ hb).1
  have hit : w.heap[b]? = some (.mapIter (some bm) l.length (seen ++ [i]).toArray l.length) := (hF _ hi).1
  refine ⟨.tuple #[enc k, v], ?_, .tup _ _ rfl fun j a u e1 e2 => ?_⟩
  ·unfold execOp
   rw [ho]
   simp only [eval_raw (P := P) hE hx]
   refine fin_value ?_
   have hmem : ({ key := enc k, val := v, born := i } : MapEntry) ∈ ents enc 0 l := List.mem_of_getElem? (i := i) (by rw [ents_get, hkv]; simp)
   have hf : (ents enc 0 l).find? (·.born == i) = some { key := enc k, val := v, born := i } := find_born { key := enc k, val := v, born := i } _ (ents_nodup l) hmem
   have hback : (seen ++ [i]).toArray.back? = some i := by simp
   simp only [Instr.entry, getObj, Sem.run_bind, Sem.run, hit, Result.andThen, hback]
   rw [hmap]
   simp only [mapO, Result.andThen, bne_self_eq_false, Bool.false_eq_true, if_false]
   rw [List.find?_toArray, hf]
   rfl
  ·match j, e1, e2 with
   | 0, e1, e2 => cases e1; cases e2; exact rep_conc hk
   | 1, e1, e2 => cases e1; cases e2; exact .v _
   | j + 2, e1, e2 => simp at e1) h
end
end
section
theorem goxl0 {A B : Prop} {P : Program} {call : CallF} (hC : CallOk P call) (k : B) (h : CallOk P call → B → A := by intro hC k; (repeat (first | ((first | refine' xl_op hC rfl rfl (by decide) ?_ ?_ | refine' xl_yes hC rfl rfl (by simp only [Ev.get, reduceIte, Nat.reduceEqDiff]; first | done | rfl) rfl (by decide) ?_ ?_); rotate_left 1; (focus (simp only [go_sem, reduceIte, Nat.reduceEqDiff, reduceCtorEq, Int.reduceEq]; first | done | rfl))) | refine xl_no rfl rfl (by simp only [Ev.get, reduceIte, Nat.reduceEqDiff]; first | done | rfl) (by decide) rfl (by decide) ?_ | refine xl_off rfl rfl rfl rfl (by decide) ?_ | (refine xl_nil ?_; intro e2 h2; simp only [go_sem, reduceIte, Nat.reduceEqDiff] at h2; subst h2))); exact k) : A := h hC k
theorem goxl1 {A B F1 : Prop} {P : Program} {call : CallF} (hC : CallOk P call) (f1 : F1) (k : B) (h : CallOk P call → F1 → B → A := by intro hC f1 k; (repeat (first | ((first | refine' xl_op hC rfl rfl (by decide) ?_ ?_ | refine' xl_yes hC rfl rfl (by simp only [Ev.get, reduceIte, Nat.reduceEqDiff, f1]; first | done | rfl) rfl (by decide) ?_ ?_); rotate_left 1; (focus (simp only [go_sem, reduceIte, Nat.reduceEqDiff, reduceCtorEq, Int.reduceEq, f1]; first | done | rfl))) | refine xl_no rfl rfl (by simp only [Ev.get, reduceIte, Nat.reduceEqDiff, f1]; first | done | rfl) (by decide) rfl (by decide) ?_ | refine xl_off rfl rfl rfl rfl (by decide) ?_ | (refine xl_nil ?_; intro e2 h2; simp only [go_sem, reduceIte, Nat.reduceEqDiff] at h2; subst h2))); exact k) : A := h hC f1 k
end
section
/-! ### are two things the same? (where that can be told) -/
def both : Option Bool → Option Bool → Option Bool
 | some false, _ => some false
 | some true, q => q
 | none, some false => some false
 | none, _ => none
theorem both_true {p q : Option Bool} (h : both p q = some true) : p = some true ∧ q = some true := by
 unfold both at h
 split at h
 ·cases h
 ·exact ⟨rfl, h⟩
 ·cases h
 ·cases h
theorem both_false {p q : Option Bool} (h : both p q = some false) : p = some false ∨ q = some false := by
 unfold both at h
 split at h
 ·exact .inl rfl
 ·exact .inr h
 ·exact .inr rfl
 ·cases h
def valQ : Value → Value → Option Bool
 | .int k a, .int k' b => some (decide (k = k') && decide (a = b))
 | .bool a, .bool b => some (decide (a = b))
 | .string a, .string b => some (decide (a = b))
 | _, _ => none
theorem valQ_spec {x y : Value} {b : Bool} (h : valQ x y = some b) : b = true ↔ x = y := by
 unfold valQ at h
 split at h
 ·cases h; simp
 ·cases h; simp
 ·cases h; simp
 ·cases h
def listQ {α : Type} (q : α → α → Option Bool) : List α → List α → Option Bool
 | [], [] => some true
 | a :: as, b :: bs => both (q a b) (listQ q as bs)
 | _, _ => some false
theorem listQ_spec {α : Type} {q : α → α → Option Bool} (hq : ∀ a b r, q a b = some r → (r = true ↔ a = b)) : ∀ {l l2 : List α} {r : Bool}, listQ q l l2 = some r → (r = true ↔ l = l2)
 | [], [], r, h => by cases h; simp
 | a :: l, b :: l2, r, h => by
  unfold listQ at h
  cases r with
  | true =>
   obtain ⟨h1, h2⟩ := both_true h
   simp [(hq a b _ h1).1 rfl, (listQ_spec hq h2).1 rfl]
  | false =>
   simp only [Bool.false_eq_true, false_iff, List.cons.injEq, not_and]
   rintro rfl rfl
   rcases both_false h with h1 | h1
   ·exact absurd ((hq a a _ h1).2 rfl) (by simp)
   ·exact absurd ((listQ_spec hq h1).2 rfl) (by simp)
 | [], _ :: _, r, h => by cases h; simp
 | _ :: _, [], r, h => by cases h; simp
def avQ : Nat → AV → AV → Option Bool
 | 0, _, _ => none
 | d + 1, a, b =>
  match a, b with
  | .junk, .junk => some true
  | .v x, .v y => valQ x y
  | .agg x, .agg y => listQ (avQ d) x y
  | .lst g s x, .lst g' s' y => both (some (decide (g = g') && decide (s = s'))) (listQ (listQ (avQ d)) x y)
  | .ptr r o, .ptr r' o' => some (decide (r = r') && decide (o = o'))
  | .fn (.func f) x y, .fn (.func f') x' y' => both (some (decide (f = f'))) (both (listQ (avQ d) x x') (listQ (avQ d) y y'))
  | .v _, .fn _ _ _ => some false
  | .fn _ _ _, .v _ => some false
  | .v _, .lst _ _ _ => some false
  | .lst _ _ _, .v _ => some false
  | .v _, .ptr _ _ => some false
  | .ptr _ _, .v _ => some false
  | _, _ => none
theorem avQ_spec : ∀ (d : Nat) (a b : AV) (r : Bool), avQ d a b = some r → (r = true ↔ a = b)
 | 0, a, b, r, h => by cases h
 | d + 1, a, b, r, h => by
  unfold avQ at h
  split at h
  ·cases h; simp
  ·rename_i x y
   have := valQ_spec h
   simp [this]
  ·rename_i x y
   have := listQ_spec (avQ_spec d) h
   simp [this]
  ·rename_i g s x g' s' y
   have hl : ∀ r, listQ (listQ (avQ d)) x y = some r → (r = true ↔ x = y) := fun r h => listQ_spec (fun a b r h => listQ_spec (avQ_spec d) h) h
   cases r with
   | true =>
    obtain ⟨h1, h2⟩ := both_true h
    simp only [Option.some.injEq, Bool.and_eq_true, decide_eq_true_eq] at h1
    simp [h1.1, h1.2, (hl _ h2).1 rfl]
   | false =>
    simp only [Bool.false_eq_true, false_iff, AV.lst.injEq, not_and]
    rintro rfl rfl rfl
    rcases both_false h with h1 | h1
    ·simp at h1
    ·exact absurd ((hl _ h1).2 rfl) (by simp)
  ·cases h; simp
  ·rename_i f x y f' x' y'
   have hl : ∀ {x y : List AV} {r : Bool}, listQ (avQ d) x y = some r → (r = true ↔ x = y) := fun h => listQ_spec (avQ_spec d) h
   cases r with
   | true =>
    obtain ⟨h1, h2⟩ := both_true h
    obtain ⟨h2, h3⟩ := both_true h2
    simp only [Option.some.injEq, decide_eq_true_eq] at h1
    simp [h1, (hl h2).1 rfl, (hl h3).1 rfl]
   | false =>
    simp only [Bool.false_eq_true, false_iff, AV.fn.injEq, Fn.func.injEq, not_and]
    rintro rfl rfl rfl
    rcases both_false h with h1 | h1
    ·simp at h1
    ·rcases both_false h1 with h1 | h1
     ·exact absurd ((hl h1).2 rfl) (by simp)
     ·exact absurd ((hl h1).2 rfl) (by simp)
  ·cases h; simp
  ·cases h; simp
  ·cases h; simp
  ·cases h; simp
  ·cases h; simp
  ·cases h; simp
  ·cases h
def cellsQ (a b : Option (List AV)) : Option Bool :=
 match a, b with
 | none, none => some true
 | some x, some y => listQ (avQ 16) x y
 | _, _ => some false
theorem cellsQ_spec {a b : Option (List AV)} {r : Bool} (h : cellsQ a b = some r) : r = true ↔ a = b := by
 unfold cellsQ at h
 split at h
 ·cases h; simp
 ·have := listQ_spec (avQ_spec 16) h
  simp [this]
 ·rename_i h1 h2
  cases h
  simp only [Bool.false_eq_true, false_iff]
  rintro rfl
  cases a with
  | none => exact h1 rfl rfl
  | some x => exact h2 x x rfl rfl
def memQ (m m' : Mem) : Option Bool := both (some (decide (m.toks = m'.toks))) (listQ cellsQ m.vars m'.vars)
theorem memQ_spec {m m' : Mem} (h : memQ m m' = some true) : m = m' := by
 obtain ⟨h1, h2⟩ := both_true h
 have e1 : m.toks = m'.toks := by simpa using h1
 have e2 := (listQ_spec (fun a b r h => cellsQ_spec h) h2).1 rfl
 cases m; cases m'; simp_all
def finMemC (m0 m : Mem) : Option Mem :=
 match listQ cellsQ (m.vars.take m0.vars.length) m0.vars with
 | some true => some { vars := m0.vars, toks := m.toks.take m0.toks.length }
 | some false => some { vars := m.vars.take m0.vars.length, toks := m.toks }
 | none => none
theorem finMemC_spec {m0 m r : Mem} (h : finMemC m0 m = some r) : finMem m0 m = r := by
 unfold finMemC at h
 unfold finMem
 split at h
 ·rename_i hq
  cases h
  rw [if_pos ((listQ_spec (fun a b r h => cellsQ_spec h) hq).1 rfl)]
 ·rename_i hq
  cases h
  rw [if_neg (fun e => absurd ((listQ_spec (fun a b r h => cellsQ_spec h) hq).2 e) (by simp))]
 ·cases h

/-! ### operations, regions, code -/
def keepsC (P : Program) (pu : Bool) (o : Oper) (m : Mem) (x : Option (AV × Mem)) : Option (AV × Mem) :=
 match x with
 | some (a, m') => if (pu && clsOf P o == .ca) = true then (if memQ m' m = some true then some (a, m') else none) else some (a, m')
 | none => none
theorem keepsC_spec {P : Program} {pu : Bool} {o : Oper} {m : Mem} {x y : Option (AV × Mem)} (hxy : ∀ r, x = some r → y = some r) {r : AV × Mem} (h : keepsC P pu o m x = some r) : keeps P pu o m y = some r := by
 unfold keepsC at h
 split at h
 ·rename_i a m'
  unfold keeps
  rw [hxy _ rfl]
  dsimp only
  split at h
  ·split at h
   ·rename_i hq
    cases h
    rw [if_pos (fun _ => memQ_spec hq)]
   ·cases h
  ·rename_i hn
   cases h
   rw [if_pos (fun h => absurd h hn)]
 ·cases h
def evOpsC (P : Program) (call : CallF) (nt : Nat) (ops : Array Oper) (pu : Bool) : List Oper → Env → Mem → Option (Env × Mem)
 | [], e, m => some (e, m)
 | o :: rest, e, m =>
  match wantedAV ops e o with
  | none => none
  | some true =>
   match keepsC P pu o m (evOp P call e m o) with
   | some (a, m') =>
    match putAV nt o.dst a e with
    | some e' => evOpsC P call nt ops pu rest e' m'
    | none => none
   | none => none
  | some false =>
   match putAV nt o.dst (.v (.tuple #[])) e with
   | some e' => evOpsC P call nt ops pu rest e' m
   | none => none
def Sub (c c' : CallF) : Prop := ∀ f args m r, c f args m = some r → c' f args m = some r
theorem evCall_sub {c c' : CallF} (hs : Sub c c') {f : AV} {xs : List AV} {m : Mem} {r : AV × Mem} (h : evCall c f xs m = some r) : evCall c' f xs m = some r := by
 unfold evCall at h ⊢
 split at h
 ·exact hs _ _ _ _ h
 ·cases h
theorem evOp_sub {P : Program} {c c' : CallF} (hs : Sub c c') {e : Env} {m : Mem} {o : Oper} {r : AV × Mem} (h : evOp P c e m o = some r) : evOp P c' e m o = some r := by
 unfold evOp at h ⊢
 cases hop : o.op with
 | call cl =>
  rw [hop] at h
  dsimp only at h ⊢
  split at h
  ·rename_i hsz
   rw [if_pos hsz]
   cases hce : cl.callee with
   | builtin b => rw [hce] at h; exact h
   | value f => rw [hce] at h; exact evCall_sub hs h
   | invoke a b => rw [hce] at h; exact h
  ·cases h
 | _ => rw [hop] at h; exact h
theorem evOpsC_sub {P : Program} {c c' : CallF} (hs : Sub c c') {nt : Nat} {ops : Array Oper} {pu : Bool} {r : Env × Mem} : ∀ (l : List Oper) (e : Env) (m : Mem), evOpsC P c nt ops pu l e m = some r → evOps P c' nt ops pu l e m = some r
 | [], e, m, h => h
 | o :: rest, e, m, h => by
  unfold evOpsC at h
  unfold evOps
  split at h
  ·cases h
  ·rename_i hw
   rw [hw]
   dsimp only
   split at h
   ·rename_i a m' hk
    rw [keepsC_spec (fun r h => evOp_sub hs h) hk]
    dsimp only
    split at h
    ·rename_i e' he
     rw [he]
     exact evOpsC_sub hs rest e' m' h
    ·cases h
   ·cases h
  ·rename_i hw
   rw [hw]
   dsimp only
   split at h
   ·rename_i e' he
    rw [he]
    exact evOpsC_sub hs rest e' m h
   ·cases h
def codeC (P : Program) (call : CallF) (nt : Nat) (kp : Nat → Option (List Nat)) (n : Nat) : Code → Env → Mem → Res
 | .skip, e, m => some (.normal, e, m)
 | .region id ops draw, e, m =>
  match (if draw then (if drawnOk P ops.toList = true then evOpsC P call nt ops.toList.toArray (anyLoose P ops.toList) ops.toList e m else none) else evOpsC P call nt ops false ops.toList e m) with
  | some (e', m') => some (.normal, restr (kp id) e', m')
  | none => none
 | .seq a b, e, m =>
  match codeC P call nt kp n a e m with
  | some (.normal, e', m') => codeC P call nt kp n b e' m'
  | x => x
 | .cond c a b, e, m =>
  match opd P e 0 c with
  | .v (.bool t) => if t then codeC P call nt kp n a e m else codeC P call nt kp n b e m
  | _ => none
 | .block id b, e, m =>
  match codeC P call nt kp n b e m with
  | some (.exit q, e', m') => if q = id then some (.normal, e', m') else some (.exit q, e', m')
  | x => x
 | .loop b, e, m => loopN (codeC P call nt kp n b) n e m
 | .exit id, e, m => some (.exit id, e, m)
 | .ret, e, m => some (.ret, e, m)
 | _, _, _ => none
theorem codeC_sub {P : Program} {c c' : CallF} (hs : Sub c c') {nt : Nat} {kp : Nat → Option (List Nat)} {n : Nat} : ∀ (k : Code) (e : Env) (m : Mem) (r : Ex × Env × Mem), codeC P c nt kp n k e m = some r → code P c' nt kp n k e m = some r := by
 intro k
 induction k with
 | region id ops draw =>
  intro e m r h
  unfold codeC at h
  unfold code
  split at h
  ·rename_i e' m' h1
   have : (if draw then evDrawn P c' nt ops.toList e m else evOps P c' nt ops false ops.toList e m) = some (e', m') := by
    cases draw with
    | true =>
     simp only [if_true] at h1 ⊢
     unfold evDrawn
     split at h1
     ·rename_i hd
      rw [if_pos hd]
      exact evOpsC_sub hs _ _ _ h1
     ·cases h1
    | false =>
     simp only [Bool.false_eq_true, if_false] at h1 ⊢
     exact evOpsC_sub hs _ _ _ h1
   rw [this]
   exact h
  ·cases h
 | seq x y ihx ihy =>
  intro e m r h
  unfold codeC at h
  unfold code
  split at h
  ·rename_i e' m' h1
   rw [ihx e m _ h1]
   exact ihy e' m' r h
  ·rename_i h1
   rw [ihx e m _ h]
   obtain ⟨x, e', m'⟩ := r
   cases x with
   | normal => exact absurd h (h1 e' m')
   | exit id => rfl
   | ret => rfl
 | cond cc x y ihx ihy =>
  intro e m r h
  unfold codeC at h
  unfold code
  split at h
  ·rename_i t ht
   rw [ht]
   cases t with
   | true => exact ihx e m r h
   | false => exact ihy e m r h
  ·cases h
 | block id b ih =>
  intro e m r h
  unfold codeC at h
  unfold code
  split at h
  ·rename_i q e' m' h1
   rw [ih e m _ h1]
   exact h
  ·rename_i h1
   rw [ih e m _ h]
   obtain ⟨x, e', m'⟩ := r
   cases x with
   | normal => rfl
   | exit id => exact absurd h (h1 id e' m')
   | ret => rfl
 | loop b ih =>
  intro e m r h
  unfold codeC at h
  unfold code
  exact loopN_mono ih n n e m (Nat.le_refl _) h
 | _ => intro e m r h; exact h

/-! ### functions -/
def growResC (gr : Bool) (m0 m : Mem) (a : AV) : Option (AV × Mem) :=
 match finMemC m0 m with
 | none => none
 | some mf =>
  match gr, a with
  | true, .lst .full sz rows => some (.lst (.tok mf.toks.length 0) sz rows, { mf with toks := mf.toks ++ [0] })
  | true, .lst (.tok id ver) sz rows =>
   if m.toks[id]? = some ver ∧ m0.toks.length ≤ id then some (.lst (.tok mf.toks.length 0) sz rows, { mf with toks := mf.toks.set id (ver + 1) ++ [0] }) else none
  | true, _ => none
  | false, a => (resAV m0.vars.length m a).map (·, mf)
theorem growResC_spec {gr : Bool} {m0 m : Mem} {a : AV} {r : AV × Mem} (h : growResC gr m0 m a = some r) : growRes gr m0 m a = some r := by
 unfold growResC at h
 split at h
 ·cases h
 ·rename_i mf hf
  obtain rfl := finMemC_spec hf
  exact h
def evRetC (P : Program) (gr : Bool) (fn : Func) (m0 : Mem) (e : Env) (m : Mem) : Option (AV × Mem) :=
 match fn.results.toList with
 | [r] => (evResult P e m r).bind (growResC gr m0 m)
 | rs =>
  match finMemC m0 m with
  | some mf => ((rs.mapM (evResult P e m)).bind fun vs => vs.mapM (resAV m0.vars.length m)).map fun vs => (.tup vs, mf)
  | none => none
theorem evRetC_spec {P : Program} {gr : Bool} {fn : Func} {m0 : Mem} {e : Env} {m : Mem} {r : AV × Mem} (h : evRetC P gr fn m0 e m = some r) : evRet P gr fn m0 e m = some r := by
 unfold evRetC at h
 unfold evRet
 split at h
 ·rename_i rv hrv
  rw [hrv]
  rw [Option.bind_eq_some_iff] at h ⊢
  obtain ⟨b, h1, h2⟩ := h
  exact ⟨b, h1, growResC_spec h2⟩
 ·rename_i rs hrs
  split at h
  ·rename_i mf hf
   obtain rfl := finMemC_spec hf
   split
   ·rename_i rv hrv
    exact absurd hrv (hrs rv)
   ·exact h
  ·cases h
def evBodyC (P : Program) (C : Ctx) (call : CallF) (n : Nat) (f : FuncId) (fn : Func) (c : Code) (args : List AV) (m : Mem) : Option (AV × Mem) :=
 if args.length ≤ fn.ntmps ∧ (fn.name == "runtime.NumGoroutine") = false then
  match codeC P call fn.ntmps (C.kp f) n c (entry args) m with
  | some (.normal, e, m') => evRetC P (C.gr f) fn m e m'
  | some (.ret, e, m') => evRetC P (C.gr f) fn m e m'
  | _ => none
 else none
def runC (P : Program) (C : Ctx) : Nat → CallF
 | 0, _, _, _ => none
 | n + 1, f, args, m =>
  match C.ext f with
  | some g => g args m
  | none =>
   match P.funcs[f]? with
   | some fn =>
    match fn.body with
    | some c => evBodyC P C (runC P C n) n f fn c args m
    | none => none
   | none => none
theorem evBodyC_sub {P : Program} {C : Ctx} {c c' : CallF} (hs : Sub c c') {n : Nat} {f : FuncId} {fn : Func} {k : Code} {args : List AV} {m : Mem} {r : AV × Mem} (h : evBodyC P C c n f fn k args m = some r) : evBody P C c' n f fn k args m = some r := by
 unfold evBodyC at h
 unfold evBody
 split at h
 ·rename_i hc
  rw [if_pos hc]
  split at h
  ·rename_i e m' h1
   rw [codeC_sub hs _ _ _ _ h1]
   exact evRetC_spec h
  ·rename_i e m' h1
   rw [codeC_sub hs _ _ _ _ h1]
   exact evRetC_spec h
  ·cases h
 ·cases h
theorem runC_sub {P : Program} {C : Ctx} : ∀ n, Sub (runC P C n) (run P C n)
 | 0 => fun f args m r h => by cases h
 | n + 1 => fun f args m r h => by
  unfold runC at h
  unfold run
  split at h
  ·rename_i g hg
   rw [hg]
   exact h
  ·rename_i hg
   rw [hg]
   dsimp only
   split at h
   ·rename_i fn hfn
    rw [hfn]
    dsimp only
    split at h
    ·rename_i c hc
     rw [hc]
     exact evBodyC_sub (runC_sub n) h
    ·cases h
   ·cases h
theorem runC_ok {P : Program} (hm : P.follows .mixedOrders = true) {C : Ctx} (hx : ∀ f g, C.ext f = some g → FunOk P f g) (n : Nat) : CallOk P (runC P C n) :=
 fun f args m r m' h => run_ok hm hx n f args m r m' (runC_sub n _ _ _ _ h)

/-! ### a function of nothing, wherever it is called -/
theorem wide_ok {P : Program} {f : FuncId} {x : Value} (h : FunOk P f fun args m => if args = [] ∧ m.vars = [] ∧ m.toks = [] then some (.v x, m) else none) :
  FunOk P f fun args m => match args with | [] => some (.v x, m) | _ => none := by
 intro args m r m' hg
 dsimp only at hg
 split at hg
 ·cases hg
  obtain ⟨h1, h2⟩ := h [] ⟨[], []⟩ (.v x) ⟨[], []⟩ (if_pos ⟨rfl, rfl, rfl⟩)
  refine ⟨h1, fun φ w vals hR hA => ?_⟩
  have hR0 : RM φ ⟨[], []⟩ w := {
   var := fun r cs h => by simp [Mem.var] at h
   inj := fun r r' cs cs' h => by simp [Mem.var] at h
   vim := fun r cs o h => by simp [Mem.var] at h
   tok := fun id b s e h => by simp at h
   tinj := fun id id' b s e s' e' h => by simp at h
   imlt := hR.imlt }
  refine (h2 φ w vals hR0 ⟨hA.1, fun i a u e => by simp at e⟩).mono fun e w' ⟨y, φ', he, hR', hX, hr⟩ => ?_
  have hno : ∀ b, ¬ Own φ ⟨[], []⟩ b := by
   rintro b (⟨r, cs, h, _⟩ | ⟨id, s, e, h, _⟩)
   ·simp [Mem.var] at h
   ·simp at h
  have hblk : ∀ b, b < w.heap.size → w'.heap[b]? = w.heap[b]? := fun b hb => hX.blk b hb (hno b)
  have hcell : ∀ b o, φ.im b o → w'.cell? ⟨b, o, none⟩ = w.cell? ⟨b, o, none⟩ := fun b o hi => (hX.im b o hi).2
  have lt_of : ∀ b o, w.heap[b]? = some o → b < w.heap.size := fun b o h => (Array.getElem?_eq_some_iff.1 h).1
  have hext : Ext φ m w φ m w' := {
   os := hX.os, tape := hX.tape, output := hX.output, size := hX.size
   im := fun b o hi => ⟨hi, hcell b o hi⟩
   vb := fun r cs hv => ⟨rfl, cs, hv, rfl⟩
   tk := fun id v hv => ⟨v, hv, Nat.le_refl _, fun _ => rfl⟩
   blk := fun b hb _ => hblk b hb
   own := fun b hb => .inl hb
   imn := fun b o hi => .inl hi }
  refine ⟨y, φ, he, ?_, hext, ?_⟩
  ·exact {
    var := fun r cs hv => by
     obtain ⟨arr, T, g1, g2, g3⟩ := hR.var r cs hv
     exact ⟨arr, T, by rw [hblk _ (lt_of _ _ g1)]; exact g1, g2.mono hext, g3⟩
    inj := hR.inj
    vim := hR.vim
    tok := fun id b s e hlt hk hse => by
     obtain ⟨arr, T, g1, g2⟩ := hR.tok id b s e hlt hk hse
     exact ⟨arr, T, by rw [hblk _ (lt_of _ _ g1)]; exact g1, g2⟩
    tinj := hR.tinj
    imlt := fun b o hi => Nat.lt_of_lt_of_le (hR.imlt b o hi) hX.size }
  ·cases hr
   exact .v _
 ·cases hg
end
end Go.Proofs.Ytmockbddhhmmeaa.Ev
