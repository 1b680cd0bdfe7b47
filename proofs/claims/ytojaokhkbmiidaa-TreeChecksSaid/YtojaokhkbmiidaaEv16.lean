/- Operations in an order that is drawn: sound. -/
import Derived.Orders
import Derived.Test.YtojaokhkbmiidaaEv15
namespace Go.Proofs.Ytojaokhkbmiidaa.Ev
open Go
set_option linter.unusedVariables false
set_option linter.unusedSimpArgs false

def chg (P : Program) (pu : Bool) (o : Oper) : Prop := clsOf P o = .wr ∨ (clsOf P o = .ca ∧ pu = false)
structure Drawn (P : Program) (l : List Oper) (pu : Bool) : Prop where
  edge : ∀ (j : Nat) o, l[j]? = some o → ∀ e ∈ o.after.toList, Region.binds .any e = true → e.on < j
  dst : ∀ (i j : Nat) oi oj, i < j → l[i]? = some oi → l[j]? = some oj → ∀ d, oi.dst = some d → oj.dst ≠ some d
  apart : ∀ (i j : Nat) oi oj, i < j → l[i]? = some oi → l[j]? = some oj → ((masks l []).getD j 0).testBit i = true ∨
    (oi.apart l.toArray oj = true ∧ (clsOf P oi = .n ∨ clsOf P oj = .n ∨ (¬ chg P pu oi ∧ ¬ chg P pu oj)))
theorem drawn_of {P : Program} {l : List Oper} (h : drawnOk P l = true) : Drawn P l (anyLoose P l) := by
  have gd : ∀ (j : Nat) o, l[j]? = some o → l.getD j default = o := fun j o ho => by rw [List.getD_eq_getElem?_getD, ho]; rfl
  have lt : ∀ (j : Nat) o, l[j]? = some o → j < l.length := fun j o ho => (List.getElem?_eq_some_iff.mp ho).1
  simp only [drawnOk, List.all_eq_true, List.mem_range, Bool.and_eq_true] at h
  refine ⟨fun j o ho e he hb => ?_, fun i j oi oj hij hi hj d hd => ?_, fun i j oi oj hij hi hj => ?_⟩
  · have h1 := (h j (lt j o ho)).1
    rw [gd j o ho, Array.all_eq_true'] at h1
    have h2 := h1 e (by simpa using he)
    simpa [hb] using h2
  · have h1 := ((h j (lt j oj hj)).2 i hij).1
    rw [gd j oj hj, gd i oi hi, hd] at h1
    intro e
    rw [e] at h1
    simp at h1
  · have h1 := ((h j (lt j oj hj)).2 i hij).2
    rw [gd j oj hj, gd i oi hi, Bool.or_eq_true] at h1
    rcases h1 with h1 | h1
    · exact .inl h1
    · by_cases hb : ((masks l []).getD j 0).testBit i = true
      · exact .inl hb
      · right
        simp only [looseOk, Bool.and_eq_true] at h1
        refine ⟨h1.1, ?_⟩
        cases hpu : anyLoose P l with
        | true =>
          have h2 := h1.2
          unfold chg
          cases c1 : clsOf P oi <;> cases c2 : clsOf P oj <;> simp_all
        | false =>
          simp only [anyLoose, List.any_eq_false, List.mem_range] at hpu
          have h3 := hpu j (lt j oj hj)
          rw [Bool.not_eq_true, List.any_eq_false] at h3
          have h3 := h3 i (by simpa using hij)
          rw [gd j oj hj, gd i oi hi] at h3
          have hb' : ((masks l []).getD j 0).testBit i = false := by simpa using hb
          by_cases c1 : clsOf P oi = .n
          · exact .inl c1
          · by_cases c2 : clsOf P oj = .n
            · exact .inr (.inl c2)
            · exact absurd (by rw [hb']; simp [c1, c2]) h3

section
variable {P : Program} {call : CallF} {l : List Oper} {pu : Bool} {nt : Nat} {E : Nat → Env} {M : Nat → Mem} {A : Nat → AV}
variable (hD : Drawn P l pu) (hT : ∀ (k : Nat) o, l[k]? = some o → OpStep P call nt l.toArray pu o (E k) (M k) (A k) (E (k + 1)) (M (k + 1)))
include hT
theorem get_step {k : Nat} {o : Oper} (h : l[k]? = some o) (t : Nat) : get (E (k + 1)) t = if o.dst = some t then A k else get (E k) t := by
  have hp := (hT k o h).1
  unfold putAV at hp
  split at hp
  · rename_i hd
    simp only [Option.some.injEq] at hp
    rw [← hp, if_neg (by rw [hd]; simp)]
  · rename_i d hd
    split at hp
    · simp only [Option.some.injEq] at hp
      rw [← hp, hd]
      simp [Ev.get]
    · cases hp
theorem get_miss {t : Nat} : ∀ k, k ≤ l.length → (∀ (j : Nat) o, j < k → l[j]? = some o → o.dst ≠ some t) → get (E k) t = get (E 0) t
  | 0, _, _ => rfl
  | k + 1, hk, h => by
    have ho : l[k]? = some l[k] := List.getElem?_eq_getElem (by omega)
    rw [get_step hT ho, if_neg (h k _ (by omega) ho)]
    exact get_miss k (by omega) fun j o hj => h j o (by omega)
include hD
theorem get_hit {t j : Nat} {o : Oper} (hj : l[j]? = some o) (hd : o.dst = some t) : ∀ k, k ≤ l.length → j < k → get (E k) t = A j
  | 0, _, h => by omega
  | k + 1, hk, h => by
    have ho : l[k]? = some l[k] := List.getElem?_eq_getElem (by omega)
    by_cases e : j = k
    · subst e
      rw [hj] at ho
      rw [get_step hT hj, if_pos hd]
    · rw [get_step hT ho, if_neg (hD.dst j k o _ (by omega) hj ho t hd)]
      exact get_hit hj hd k (by omega) (by omega)
omit hD
theorem mem_step {j : Nat} {o : Oper} (ho : l[j]? = some o) (hc : ¬ chg P pu o) : M (j + 1) = M j := by
  obtain ⟨_, ⟨_, hk⟩ | ⟨_, _, h⟩⟩ := hT j o ho
  · obtain ⟨h1, h2⟩ := keeps_some hk
    cases c : clsOf P o with
    | n => exact (evOp_n h1 c).1
    | rd => exact evOp_rd h1 c
    | ca =>
      cases pu with
      | false => exact absurd (.inr ⟨c, rfl⟩) hc
      | true => exact h2 (by simp [c])
    | wr => exact absurd (.inl c) hc
  · exact h
theorem mem_const {a : Nat} : ∀ b, a ≤ b → b ≤ l.length → (∀ (j : Nat) o, a ≤ j → j < b → l[j]? = some o → ¬ chg P pu o) → M b = M a
  | 0, h, _, _ => by have : a = 0 := by omega
                     rw [this]
  | b + 1, h, hb, hc => by
    by_cases e : a = b + 1
    · rw [e]
    · have ho : l[b]? = some l[b] := List.getElem?_eq_getElem (by omega)
      rw [mem_step hT ho (hc b _ (by omega) (by omega) ho)]
      exact mem_const b (by omega) (by omega) fun j o h1 h2 => hc j o h1 (by omega)
end

def Slots (l : List Oper) (lst : Nat → Prop) (A : Nat → AV) (e : Env) (φ : Phi) (m : Mem) (w : World) (tmps : Array Value) : Prop :=
  ∀ t, (∀ (j : Nat) o, l[j]? = some o → o.dst = some t → lst j → Rep φ m w (A j) (tmps.getD t undef)) ∧
    ((∀ (j : Nat) o, l[j]? = some o → o.dst = some t → ¬ lst j) → Rep φ m w (get e t) (tmps.getD t undef))
structure Inv (P : Program) (l : List Oper) (pu : Bool) (nt : Nat) (M : Nat → Mem) (A : Nat → AV) (e : Env) (φ₀ : Phi) (m₀ : Mem) (w₀ : World) (lst : Nat → Prop) (k : Nat) (a : Act) (w : World) : Prop where
  st : ∃ φ, RM φ (M k) w ∧ Ext φ₀ m₀ w₀ φ (M k) w ∧ Slots l lst A e φ (M k) w a.tmps
  size : nt ≤ a.tmps.size
  defers : a.defers = []
  kle : k ≤ l.length
  closed : ∀ (j : Nat) o, l[j]? = some o → lst j → ∀ e ∈ o.after.toList, Region.binds .any e = true → lst e.on
  kk : ∀ (j : Nat) o, l[j]? = some o → chg P pu o → (lst j ↔ j < k)

theorem put_other {a : Act} {dst : Option Tmp} {x : Value} {t : Nat} (h : dst ≠ some t) : (a.put dst x).tmps.getD t undef = a.tmps.getD t undef := by
  cases dst with
  | none => rfl
  | some d =>
    have : d ≠ t := fun e => h (by rw [e])
    simp only [Act.put, Array.getD_eq_getD_getElem?, Array.getElem?_setIfInBounds_ne this]
theorem put_same {a : Act} {x : Value} {t nt : Nat} {av : AV} {e e' : Env} {dst : Option Tmp} (hd : dst = some t) (hp : putAV nt dst av e = some e') (hn : nt ≤ a.tmps.size) :
    (a.put dst x).tmps.getD t undef = x := by
  subst hd
  unfold putAV at hp
  simp only [] at hp
  split at hp
  · rename_i h
    have : t < a.tmps.size := Nat.lt_of_lt_of_le h hn
    simp [Act.put, Array.getD, this]
  · cases hp

section
variable {P : Program} {call : CallF} {l : List Oper} {pu : Bool} {nt : Nat} {E : Nat → Env} {M : Nat → Mem} {A : Nat → AV} {φ₀ : Phi} {m₀ : Mem} {w₀ : World}

theorem inv_step (hC : CallOk P call) (hD : Drawn P l pu) (hT : ∀ (k : Nat) o, l[k]? = some o → OpStep P call nt l.toArray pu o (E k) (M k) (A k) (E (k + 1)) (M (k + 1)))
    {lst : Nat → Prop} {k : Nat} {a : Act} {w : World} (hI : Inv P l pu nt M A (E 0) φ₀ m₀ w₀ lst k a w) {i : Nat} {o : Oper} (ho : l[i]? = some o) (hni : ¬ lst i)
    (hready : ∀ e ∈ o.after.toList, Region.binds .any e = true → lst e.on) {K : Act → World → Prop} {Q : Exit → Act → World → Prop}
    (hK : ∀ k' a' w', Inv P l pu nt M A (E 0) φ₀ m₀ w₀ (fun j => j = i ∨ lst j) k' a' w' → K a' w') : wpOp P l.toArray Q i K a w := by
  obtain ⟨⟨φ, hR, hX, hS⟩, hsize, hdef, hkle, hclosed, hkk⟩ := hI
  have hil : i < l.length := (List.getElem?_eq_some_iff.mp ho).1
  -- who looks at what
  have hlook : ∀ t, t ∈ o.looksAt l.toArray → Rep φ (M k) w (get (E i) t) (a.tmps.getD t undef) := by
    intro t ht
    by_cases hx : ∃ (j : Nat) (oj : Oper), j < i ∧ l[j]? = some oj ∧ oj.dst = some t
    · obtain ⟨j, oj, hji, hj, hd⟩ := hx
      rw [get_hit hD hT hj hd i (by omega) hji]
      refine (hS t).1 j oj hj hd ?_
      rcases hD.apart j i oj o hji hj ho with hb | ⟨hap, _⟩
      · exact mask_listed hD.edge hclosed i o ho hready j hb
      · exact absurd ht ((Oper.apart_spec hap).1 t hd)
    · rw [get_miss hT i (by omega) fun j oj hji hj hd => hx ⟨j, oj, hji, hj, hd⟩]
      refine (hS t).2 fun j oj hj hd hl => ?_
      rcases Nat.lt_trichotomy j i with hlt | heq | hgt
      · exact hx ⟨j, oj, hlt, hj, hd⟩
      · subst heq; exact hni hl
      · rcases hD.apart i j o oj hgt ho hj with hb | ⟨hap, _⟩
        · exact hni (mask_listed hD.edge hclosed j oj hj (hclosed j oj hj hl) i hb)
        · exact absurd ht ((Oper.apart_spec hap).2.2 t hd)
  -- the memory
  have ord : clsOf P o ≠ .n → ∀ (j : Nat) oj, l[j]? = some oj → chg P pu oj → (j < i → lst j) ∧ (i < j → ¬ lst j) := by
    intro hn j oj hj hc
    have hjn : clsOf P oj ≠ .n := by rintro e; rcases hc with h | h <;> simp [e] at h
    refine ⟨fun hlt => ?_, fun hgt hl => ?_⟩
    · rcases hD.apart j i oj o hlt hj ho with hb | ⟨_, h | h | h⟩
      · exact mask_listed hD.edge hclosed i o ho hready j hb
      · exact absurd h hjn
      · exact absurd h hn
      · exact absurd hc h.1
    · rcases hD.apart i j o oj hgt ho hj with hb | ⟨_, h | h | h⟩
      · exact hni (mask_listed hD.edge hclosed j oj hj (hclosed j oj hj hl) i hb)
      · exact absurd h hn
      · exact absurd h hjn
      · exact absurd hc h.2
  have hMk : clsOf P o ≠ .n → M k = M i := by
    intro hn
    rcases Nat.le_total k i with hle | hle
    · refine (mem_const hT i hle (by omega) fun j oj h1 h2 hj hc => ?_).symm
      have := (hkk j oj hj hc).mp ((ord hn j oj hj hc).1 h2)
      omega
    · refine mem_const hT k hle hkle fun j oj h1 h2 hj hc => ?_
      have hl := (hkk j oj hj hc).mpr h2
      rcases Nat.lt_or_eq_of_le h1 with h3 | h3
      · exact (ord hn j oj hj hc).2 h3 hl
      · subst h3; exact hni hl
  have hkk' : ∀ k', (chg P pu o → k' = i + 1) → (¬ chg P pu o → k' = k) → ∀ (j : Nat) oj, l[j]? = some oj → chg P pu oj → ((j = i ∨ lst j) ↔ j < k') := by
    intro k' h1 h2 j oj hj hc
    by_cases hco : chg P pu o
    · rw [h1 hco]
      have hn : clsOf P o ≠ .n := by rintro e; rcases hco with h | h <;> simp [e] at h
      have hor := ord hn j oj hj hc
      constructor
      · rintro (h | h)
        · omega
        · exact Nat.lt_of_not_le fun hge => hor.2 (by omega) h
      · intro h
        by_cases e : j = i
        · exact .inl e
        · exact .inr (hor.1 (by omega))
    · rw [h2 hco]
      have hne : j ≠ i := by rintro rfl; rw [hj] at ho; cases ho; exact hco hc
      rw [← hkk j oj hj hc]
      simp [hne]
  obtain ⟨hput, hstep⟩ := hT i o ho
  -- the state behind it
  have after : ∀ k' x w' φ', k' ≤ l.length → (chg P pu o → k' = i + 1) → (¬ chg P pu o → k' = k) → RM φ' (M k') w' → Ext φ (M k) w φ' (M k') w' → Rep φ' (M k') w' (A i) x →
      Inv P l pu nt M A (E 0) φ₀ m₀ w₀ (fun j => j = i ∨ lst j) k' (a.put o.dst x) w' := by
    intro k' x w' φ' hk' h1 h2 g1 g2 g3
    refine ⟨⟨φ', g1, hX.trans g2, fun t => ⟨fun j oj hj hd hl => ?_, fun hno => ?_⟩⟩, by rw [put_size]; exact hsize, by rw [put_defers]; exact hdef, hk', fun j oj hj hl e he hb => ?_, hkk' k' h1 h2⟩
    · by_cases e : j = i
      · subst e
        rw [hj] at ho
        cases ho
        rw [put_same hd hput hsize]
        exact g3
      · have hne : o.dst ≠ some t := by
          rcases Nat.lt_or_gt_of_ne e with h | h
          · exact hD.dst j i oj o h hj ho t hd
          · exact fun hod => hD.dst i j o oj h ho hj t hod hd
        rw [put_other hne]
        exact ((hS t).1 j oj hj hd (hl.resolve_left e)).mono g2
    · have hne : o.dst ≠ some t := fun hd => hno i o ho hd (.inl rfl)
      rw [put_other hne]
      exact ((hS t).2 fun j oj hj hd hl => hno j oj hj hd (.inr hl)).mono g2
    · rcases hl with h | h
      · subst h
        rw [hj] at ho
        cases ho
        exact .inr (hready e he hb)
      · exact .inr (hclosed j oj hj h e he hb)
  -- the environment cut to what is looked at
  let E' : Env := (o.looksAt l.toArray).map fun s => (s, get (E i) s)
  have hE' : EnvRep φ (M k) w E' a.tmps := by
    intro t
    rw [get_restr]
    split
    · exact hlook t ‹_›
    · exact .junk _
  have hget : ∀ t, t ∈ o.looksAt l.toArray → get E' t = get (E i) t := fun t ht => by rw [get_restr, if_pos ht]
  have hwant : wantedAV l.toArray E' o = wantedAV l.toArray (E i) o := by
    unfold wantedAV
    cases hg : o.guard with
    | none => rfl
    | some g =>
      obtain ⟨j, want⟩ := g
      simp only []
      cases hj : (l.toArray[j]?).bind (·.dst) with
      | none => rfl
      | some d =>
        simp only []
        rw [hget d (by simp [Oper.looksAt, hg]; right; simpa using hj)]
  have hop : ∀ m, evOp P call E' m o = evOp P call (E i) m o := by
    intro m
    refine evOp_congr fun x hx t => ?_
    cases x with
    | tmp s => exact hget s (by simp only [Oper.looksAt, List.mem_append, List.mem_filterMap]; exact .inl ⟨_, hx, rfl⟩)
    | const v => rfl
    | func f => rfl
    | global g => rfl
  unfold wpOp
  rw [List.getElem?_toArray, ho]
  simp only []
  rcases hstep with ⟨hw, hk⟩ | ⟨hw, hA, hM⟩
  · rw [wanted_sound hE' (hwant.trans hw), if_pos rfl]
    left
    obtain ⟨h1, h2⟩ := keeps_some hk
    by_cases hn : clsOf P o = .n
    · have h3 := (evOp_n h1 hn).2 (M k)
      rw [← hop] at h3
      have hc : ¬ chg P pu o := by rintro (h | h) <;> simp [hn] at h
      exact op_wp hC hR hE' h3 fun x w' φ' g1 g2 g3 => hK k _ _ (after k x w' φ' hkle (fun h => absurd h hc) (fun _ => rfl) g1 g2 g3)
    · rw [← hMk hn, ← hop] at h1
      by_cases hc : chg P pu o
      · exact op_wp hC hR hE' h1 fun x w' φ' g1 g2 g3 => hK (i + 1) _ _ (after (i + 1) x w' φ' hil (fun _ => rfl) (fun h => absurd hc h) g1 g2 g3)
      · have hM : M (i + 1) = M k := by rw [hMk hn, mem_step hT ho hc]
        rw [hM] at h1
        exact op_wp hC hR hE' h1 fun x w' φ' g1 g2 g3 => hK k _ _ (after k x w' φ' hkle (fun h => absurd h hc) (fun _ => rfl) g1 g2 g3)
  · rw [wanted_sound hE' (hwant.trans hw), if_neg (by simp)]
    have hrep : ∀ φ m w, Rep φ m w (A i) undef := fun φ m w => by rw [hA]; exact .v _
    by_cases hc : chg P pu o
    · have hn : clsOf P o ≠ .n := by rintro e; rcases hc with h | h <;> simp [e] at h
      have e : M (i + 1) = M k := by rw [hM, hMk hn]
      refine hK (i + 1) _ _ (after (i + 1) undef w φ hil (fun _ => rfl) (fun h => absurd hc h) ?_ ?_ (hrep ..))
      · rw [e]; exact hR
      · rw [e]; exact Ext.refl ..
    · exact hK k _ _ (after k undef w φ hkle (fun h => absurd h hc) (fun _ => rfl) hR (Ext.refl ..) (hrep ..))

/-- How many are not listed yet. -/
def unl (f : Nat → Bool) : Nat → Nat
  | 0 => 0
  | n + 1 => unl f n + (if f n then 0 else 1)
theorem unl_zero {f : Nat → Bool} : ∀ n, unl f n = 0 → ∀ j, j < n → f j = true
  | 0, _, j, hj => by omega
  | n + 1, h, j, hj => by
    simp only [unl] at h
    have h1 : unl f n = 0 := by omega
    by_cases e : j = n
    · subst e
      by_cases hf : f j = true
      · exact hf
      · simp [hf] at h
    · exact unl_zero n h1 j (by omega)
theorem unl_set {f g : Nat → Bool} {i : Nat} (hi : f i = false) (hg : ∀ j, g j = (decide (j = i) || f j)) : ∀ n, unl f n = unl g n + if i < n then 1 else 0
  | 0 => by simp [unl]
  | n + 1 => by
    simp only [unl, unl_set hi hg n, hg n]
    by_cases e : n = i
    · subst e; simp [hi]
    · have h2 : (i < n + 1) ↔ (i < n) := by omega
      by_cases h3 : i < n
      · simp [e, h2, h3]; omega
      · simp [e, h2, h3]

theorem wpAny_inv (hC : CallOk P call) (hD : Drawn P l pu) (hT : ∀ (k : Nat) o, l[k]? = some o → OpStep P call nt l.toArray pu o (E k) (M k) (A k) (E (k + 1)) (M (k + 1))) {Q : Exit → Act → World → Prop}
    (hQ : ∀ a w, St φ₀ m₀ w₀ nt (E l.length) (M l.length) a w → Q .normal a w) :
    ∀ (n : Nat) (listed : Array Bool) (k : Nat) (a : Act) (w : World), listed.size = l.length → unl (fun j => listed.getD j false) l.length ≤ n →
      Inv P l pu nt M A (E 0) φ₀ m₀ w₀ (fun j => listed.getD j false = true) k a w → wpAny P .any l.toArray Q n listed a w := by
  -- all are listed
  have done : ∀ (listed : Array Bool) k a w, listed.size = l.length → (∀ j, j < l.length → listed.getD j false = true) → Inv P l pu nt M A (E 0) φ₀ m₀ w₀ (fun j => listed.getD j false = true) k a w → Q .normal a w := by
    intro listed k a w hsz hall hI
    obtain ⟨⟨φ, hR, hX, hS⟩, hsize, hdef, hkle, hclosed, hkk⟩ := hI
    have hM : M l.length = M k := mem_const hT l.length hkle (Nat.le_refl _) fun j o h1 h2 hj hc => by
      have := (hkk j o hj hc).mp (hall j h2)
      omega
    refine hQ a w ⟨φ, by rw [hM]; exact hR, by rw [hM]; exact hX, fun t => ?_, hsize, hdef⟩
    rw [hM]
    by_cases hx : ∃ (j : Nat) (oj : Oper), l[j]? = some oj ∧ oj.dst = some t
    · obtain ⟨j, oj, hj, hd⟩ := hx
      have hjl : j < l.length := (List.getElem?_eq_some_iff.mp hj).1
      rw [get_hit hD hT hj hd l.length (Nat.le_refl _) hjl]
      exact (hS t).1 j oj hj hd (hall j hjl)
    · rw [get_miss hT l.length (Nat.le_refl _) fun j oj hji hj hd => hx ⟨j, oj, hj, hd⟩]
      exact (hS t).2 fun j oj hj hd => absurd ⟨j, oj, hj, hd⟩ hx
  have gd : ∀ (listed : Array Bool) j, listed.size = l.length → j < l.length → listed.getD j true = listed.getD j false := by
    intro listed j hs hj
    simp [Array.getD, hs, hj]
  have rdy : ∀ (listed : Array Bool) i, listed.size = l.length → (i ∈ Region.ready .any l.toArray listed ↔ ∃ o, l[i]? = some o ∧ listed.getD i false = false ∧ ∀ e ∈ o.after.toList, Region.binds .any e = true → listed.getD e.on false = true) := by
    intro listed i hs
    simp only [Region.ready, List.mem_filter, List.mem_range, Bool.and_eq_true, List.size_toArray, List.getElem?_toArray, Bool.not_eq_true']
    constructor
    · rintro ⟨h1, h2, h3⟩
      have ho : l[i]? = some l[i] := List.getElem?_eq_getElem h1
      rw [ho] at h3
      simp only [Option.map_some, Option.getD_some, Array.all_eq_true'] at h3
      rw [gd listed i hs h1] at h2
      refine ⟨_, ho, h2, fun e he hb => ?_⟩
      have := h3 e (by simpa using he)
      simpa [hb] using this
    · rintro ⟨o, ho, h2, h3⟩
      have h1 : i < l.length := (List.getElem?_eq_some_iff.mp ho).1
      refine ⟨h1, by rw [gd listed i hs h1]; exact h2, ?_⟩
      rw [ho]
      simp only [Option.map_some, Option.getD_some, Array.all_eq_true']
      intro e he
      have := h3 e (by simpa using he)
      cases hb : Region.binds .any e with
      | false => rfl
      | true => simpa using this hb
  have noneReady : ∀ (listed : Array Bool), listed.size = l.length → Region.ready .any l.toArray listed = [] → ∀ j, j < l.length → listed.getD j false = true := by
    intro listed hs hn j
    induction j using Nat.strongRecOn with
    | _ j ih =>
      intro hj
      have ho : l[j]? = some l[j] := List.getElem?_eq_getElem hj
      cases hl : listed.getD j false with
      | true => rfl
      | false =>
        have : j ∈ Region.ready .any l.toArray listed := (rdy listed j hs).mpr ⟨_, ho, hl, fun e he hb => ih e.on (hD.edge j _ ho e he hb) (Nat.lt_trans (hD.edge j _ ho e he hb) hj)⟩
        rw [hn] at this
        cases this
  intro n
  induction n with
  | zero =>
    intro listed k a w hs hu hI
    have hall := unl_zero l.length (by omega : unl (fun j => listed.getD j false) l.length = 0)
    refine ⟨?_, done listed k a w hs hall hI⟩
    cases hr : Region.ready .any l.toArray listed with
    | nil => rfl
    | cons i r =>
      obtain ⟨o, ho, h2, _⟩ := (rdy listed i hs).mp (by rw [hr]; simp)
      rw [hall i (List.getElem?_eq_some_iff.mp ho).1] at h2
      cases h2
  | succ n ih =>
    intro listed k a w hs hu hI
    refine ⟨fun hn => done listed k a w hs (noneReady listed hs hn) hI, fun i hi => ?_⟩
    obtain ⟨o, ho, h2, h3⟩ := (rdy listed i hs).mp hi
    have hil : i < l.length := (List.getElem?_eq_some_iff.mp ho).1
    have hset : ∀ j, (listed.setIfInBounds i true).getD j false = (decide (j = i) || listed.getD j false) := by
      intro j
      by_cases e : j = i
      · subst e; simp [Array.getD, hs, hil]
      · have e' : i ≠ j := fun h => e h.symm
        simp only [Array.getD_eq_getD_getElem?, Array.getElem?_setIfInBounds_ne e', e, decide_false, Bool.false_or]
    refine inv_step hC hD hT hI ho (by rw [h2]; simp) h3 fun k' a' w' hI' => ih _ k' a' w' (by simpa using hs) ?_ ?_
    · have := unl_set (f := fun j => listed.getD j false) (g := fun j => (listed.setIfInBounds i true).getD j false) h2 hset l.length
      rw [if_pos hil] at this
      omega
    · have e : (fun j => (listed.setIfInBounds i true).getD j false = true) = fun j => j = i ∨ listed.getD j false = true := by
        funext j
        rw [hset j]
        simp
      rw [e]
      exact hI'

theorem unl_le (f : Nat → Bool) : ∀ n, unl f n ≤ n
  | 0 => Nat.le_refl _
  | n + 1 => by
    have := unl_le f n
    simp only [unl]
    split <;> omega

theorem drawn_sound (hm : P.follows .mixedOrders = true) (hC : CallOk P call) {id : Nat} {e e' : Env} {m m' : Mem} (h : evDrawn P call nt l e m = some (e', m')) {a : Act} {w : World}
    (hs : St φ₀ m₀ w₀ nt e m a w) {Q : Exit → Act → World → Prop} (hQ : ∀ a w, St φ₀ m₀ w₀ nt e' m' a w → Q .normal a w) : (Code.region id l.toArray true).wp P Q a w := by
  unfold evDrawn at h
  split at h
  · rename_i hok
    have hD := drawn_of hok
    obtain ⟨E, M, A, rfl, rfl, rfl, rfl, hT⟩ := evOps_trace l e m e' m' h
    obtain ⟨φ, hR, hX, hE, hn, hd⟩ := hs
    refine wp_region_any hm (wpAny_inv hC hD hT hQ l.toArray.size _ 0 a _ (by simp) (unl_le ..) ?_)
    have no : ∀ j, ¬ (Array.replicate l.toArray.size false).getD j false = true := by
      intro j
      simp [Array.getD]
    exact ⟨⟨φ, drew_rm hR, hX.trans (drew_ext φ (M 0) w), fun t => ⟨fun j o _ _ hl => absurd hl (no j), fun _ => (hE t).mono (drew_ext φ (M 0) w)⟩⟩, hn, hd, Nat.zero_le _, fun j o _ hl => absurd hl (no j),
      fun j o _ _ => ⟨fun hl => absurd hl (no j), fun h => by omega⟩⟩
  · cases h
end
end Go.Proofs.Ytojaokhkbmiidaa.Ev
