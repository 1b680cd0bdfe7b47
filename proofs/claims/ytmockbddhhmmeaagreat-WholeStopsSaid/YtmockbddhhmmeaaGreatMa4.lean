/- A function's run: sound. All functions: sound. -/
import Derived.Test.YtmockbddhhmmeaaGreatMa3
import Derived.ChangeBears
import Derived.ChangeShapes
import Derived.WideShapes
import Derived.Carry
import Derived.OpenShut
import Derived.Deep.Slices
import Derived.WalkKit
import Derived.ProofKit
import Derived.ShutString
import Derived.ChangeOld
import Derived.Below
import Derived.SizedLaws
namespace Go.Proofs.YtmockbddhhmmeaaGreat.Ev
open Go Go.Proofs
set_option maxRecDepth 10000
set_option maxHeartbeats 8000000
set_option linter.unusedVariables false
set_option linter.unusedSimpArgs false
section

/-- An abstract value's meaning stays while cells that nobody writes, variables and tokens stay. -/
theorem Rep.keep {φ φ' : Phi} {m m' : Mem} {w : World} (hi : ∀ b o, φ.im b o → φ'.im b o) (hv : ∀ r cs, m.var r = some cs → φ'.vb r = φ.vb r ∧ m'.var r = some cs)
  (ht : ∀ id v, m.toks[id]? = some v → ∃ v', m'.toks[id]? = some v' ∧ v ≤ v' ∧ (v' = v → φ'.tk id = φ.tk id)) {a : AV} {x : Value} (h : Rep φ m w a x) : Rep φ' m' w a x := by
 induction h with
 | junk x => exact .junk x
 | v x => exact .v x
 | agg cs arr hn _ ih => exact .agg cs arr hn ih
 | tup cs arr hn _ ih => exact .tup cs arr hn ih
 | lst g sz rows a c val hc hr ha hs hcell _ hg ih =>
  refine .lst g sz rows a c val hc hr ha hs (fun ad i row j x e1 e2 e3 => ?_) ih ?_
  ·obtain ⟨h1, h2⟩ := hcell ad i row j x e1 e2 e3
   exact ⟨hi _ _ h1, h2⟩
  ·cases g with
   | no => exact trivial
   | full => exact hg
   | here => exact hg
   | tok id ver =>
    obtain ⟨v, h1, h2, h3⟩ := hg
    obtain ⟨v', k1, k2, k3⟩ := ht id v h1
    refine ⟨v', k1, Nat.le_trans h2 k2, fun e => ?_⟩
    have := h3 (by omega)
    rw [k3 (by omega)]
    exact this
 | ptr r off cs h =>
  obtain ⟨e, h'⟩ := hv r cs h
  rw [← e]
  exact .ptr r off cs h'
 | eptr cs ad val hs hcell _ ih => exact .eptr cs ad val hs (fun j x e => ⟨hi _ _ (hcell j x e).1, (hcell j x e).2⟩) ih
 | vs r off sz n c cs h hb hn =>
  obtain ⟨e, h'⟩ := hv r cs h
  rw [← e]
  exact .vs r off sz n c cs h' hb hn
 | fn f first caps fv cv h1 h2 _ _ ih1 ih2 => exact .fn f first caps fv cv h1 h2 ih1 ih2

/-- A token more, which takes over what another one held. -/
def kR (m : Mem) (i0 v0 : Nat) : Mem := { m with toks := m.toks.set i0 v0 ++ [0] }
def rN (φ : Phi) (m : Mem) (i0 : Nat) (q : Nat × Nat × Nat) : Phi := { φ with tk := fun i => if i = m.toks.length then q else if i = i0 then (0, 0, 0) else φ.tk i }
section
variable {φ : Phi} {m : Mem} {w : World} {i0 v0 b s e : Nat}
theorem aNl {id : Nat} (h : id < m.toks.length) (hne : id ≠ i0) : (kR m i0 v0).toks[id]? = m.toks[id]? := by
 show (m.toks.set i0 v0 ++ [0])[id]? = _
 rw [List.getElem?_append_left (by simpa using h), List.getElem?_set_ne (fun e => hne e.symm)]
theorem zN (hv0 : ∀ v, m.toks[i0]? = some v → v < v0) {a : AV} {x : Value} (h : Rep φ m w a x) : Rep (rN φ m i0 (b, s, e)) (kR m i0 v0) w a x := by
 refine Rep.keep (φ := φ) (m := m) (φ' := rN φ m i0 (b, s, e)) (m' := kR m i0 v0) (fun _ _ h => h) (fun r cs h => ⟨rfl, h⟩) (fun id v h => ?_) h
 have hid := (List.getElem?_eq_some_iff.mp h).1
 by_cases hi : id = i0
 ·subst hi
  refine ⟨v0, ?_, Nat.le_of_lt (hv0 v h), fun e => ?_⟩
  ·show (m.toks.set id v0 ++ [0])[id]? = _
   rw [List.getElem?_append_left (by simpa using hid), List.getElem?_set_self hid]
  ·have := hv0 v h; omega
 ·refine ⟨v, by rw [aNl hid hi]; exact h, Nat.le_refl _, fun _ => ?_⟩
  show (if id = m.toks.length then _ else _) = _
  rw [if_neg (by omega), if_neg hi]
theorem aRt (hR : RM φ m w) (hv0 : ∀ v, m.toks[i0]? = some v → v < v0)
  (hb : s < e → (∃ arr T, w.heap[b]? = some (.cells arr T (0, 0)) ∧ e ≤ arr.size ∧ (∀ o, s ≤ o → o < e → ¬ φ.im b o) ∧ (∀ r cs, m.var r = some cs → φ.vb r ≠ b) ∧ (∀ (o : Nat) u, arr[o]? = some u → one u = true)) ∧
   ∀ id s' e', id < m.toks.length → id ≠ i0 → φ.tk id = (b, s', e') → ¬ s' < e') :
  RM (rN φ m i0 (b, s, e)) (kR m i0 v0) w := by
 have hlen : (kR m i0 v0).toks.length = m.toks.length + 1 := by simp [kR]
 have new : ∀ id b' s' e', id < (kR m i0 v0).toks.length → (rN φ m i0 (b, s, e)).tk id = (b', s', e') → s' < e' →
   (id = m.toks.length ∧ b' = b ∧ s' = s ∧ e' = e) ∨ (id < m.toks.length ∧ id ≠ i0 ∧ φ.tk id = (b', s', e')) := by
  intro id b' s' e' hid ht hlt
  simp only [rN] at ht
  split at ht
  ·rename_i h1
   simp only [Prod.mk.injEq] at ht
   exact .inl ⟨h1, ht.1.symm, ht.2.1.symm, ht.2.2.symm⟩
  ·rename_i h1
   split at ht
   ·simp only [Prod.mk.injEq] at ht; omega
   ·rename_i h2
    exact .inr ⟨by omega, h2, ht⟩
 refine ⟨fun r cs h => ?_, hR.inj, hR.vim, fun id b' s' e' hid ht hlt => ?_, fun id id' b' s1 e1 s2 e2 h1 h2 t1 t2 l1 l2 => ?_, hR.imlt⟩
 ·obtain ⟨arr, T, g1, g2, g3⟩ := hR.var r cs h
  exact ⟨arr, T, g1, ⟨g2.1, fun i a u e1 e2 => zN hv0 (g2.2 i a u e1 e2)⟩, g3⟩
 ·rcases new id b' s' e' hid ht hlt with ⟨_, rfl, rfl, rfl⟩ | ⟨h1, h2, h3⟩
  ·exact (hb hlt).1
  ·exact hR.tok id b' s' e' h1 h3 hlt
 ·rcases new id b' s1 e1 h1 t1 l1 with ⟨i1, rfl, rfl, rfl⟩ | ⟨i1, i2, i3⟩
  ·rcases new id' b' s2 e2 h2 t2 l2 with ⟨j1, _⟩ | ⟨j1, j2, j3⟩
   ·rw [i1, j1]
   ·exact absurd l2 ((hb l1).2 id' s2 e2 j1 j2 j3)
  ·rcases new id' b' s2 e2 h2 t2 l2 with ⟨j1, rfl, rfl, rfl⟩ | ⟨j1, j2, j3⟩
   ·exact absurd l1 ((hb l2).2 id s1 e1 i1 i2 i3)
   ·exact hR.tinj id id' b' s1 e1 s2 e2 i1 j1 i3 j3 l1 l2
theorem aOl {φ₀ : Phi} {m₀ : Mem} {w₀ : World} (hX : Ext φ₀ m₀ w₀ φ m w) (hi0 : m₀.toks.length ≤ i0) (hb : s < e → Own φ₀ m₀ b ∨ w₀.heap.size ≤ b) : Ext φ₀ m₀ w₀ (rN φ m i0 (b, s, e)) (kR m i0 v0) w := by
 have hlen : (kR m i0 v0).toks.length = m.toks.length + 1 := by simp [kR]
 refine ⟨hX.os, hX.tape, hX.output, hX.size, hX.im, hX.vb, fun id v h => ?_, hX.blk, fun b' hb' => ?_, hX.imn⟩
 ·obtain ⟨v', h1, h2, h3⟩ := hX.tk id v h
  have hid := (List.getElem?_eq_some_iff.mp h1).1
  have hid0 := (List.getElem?_eq_some_iff.mp h).1
  refine ⟨v', by rw [aNl hid (by omega)]; exact h1, h2, fun e => ?_⟩
  rw [← h3 e]
  show (if id = m.toks.length then _ else _) = _
  rw [if_neg (by omega), if_neg (by omega)]
 ·rcases hb' with ⟨r, cs, hv, he⟩ | ⟨id, s', e', hid, ht, hlt⟩
  ·exact hX.own b' (.inl ⟨r, cs, hv, he⟩)
  ·simp only [rN] at ht
   split at ht
   ·simp only [Prod.mk.injEq] at ht
    obtain ⟨rfl, rfl, rfl⟩ := ht
    exact hb hlt
   ·split at ht
    ·simp only [Prod.mk.injEq] at ht; omega
    ·exact hX.own b' (.inr ⟨id, s', e', by omega, ht, hlt⟩)
end

section
variable {P : Program} {φ₀ φ : Phi} {m₀ m : Mem} {w₀ w : World}

def bEt (ad : Option Addr) (s e : Nat) : Nat × Nat × Nat :=
 match ad with
 | none => (0, 0, 0)
 | some ad => (ad.block, ad.off + s, ad.off + e)
/-- A list that is handed on with its growth. -/
theorem bD1 (hR₀ : RM φ₀ m₀ w₀) (hR : RM φ m w) (hX : Ext φ₀ m₀ w₀ φ m w) {gr : Bool} {a r : AV} {m' : Mem} {x : Value} (h : Rep φ m w a x) (hb : kJ gr m₀ m a = some (r, m')) :
  ∃ φ', RM φ' m' w ∧ Ext φ₀ m₀ w₀ φ' m' w ∧ Rep φ' m' w r x := by
 obtain ⟨f1, f2, f3, f4, f5, f6⟩ := lQ m₀ m
 have f7 := f5 (aTm hX)
 have hRF := aUn hR₀ hR hX
 have hXF := aKm hX
 have listF : ∀ {g : Grow} {sz : Nat} {rows : List (List AV)}, Rep φ m w (.lst g sz rows) x → Rep (aFm φ m m₀.vars.length) (bI m₀ m) w (.lst .no sz rows) x := fun hh => tG (b := .lst .no _ _) hh rfl
 unfold kJ at hb
 split at hb
 ·rename_i sz rows
  simp only [Option.some.injEq, Prod.mk.injEq] at hb
  obtain ⟨rfl, rfl⟩ := hb
  have hF := listF h
  have eq : ({ bI m₀ m with toks := (bI m₀ m).toks ++ [0] } : Mem) = kR (bI m₀ m) (bI m₀ m).toks.length 0 := by
   unfold kR
   rw [List.set_eq_of_length_le (Nat.le_refl _)]
  have hv0 : ∀ v, (bI m₀ m).toks[(bI m₀ m).toks.length]? = some v → v < 0 := fun v hv => by simp at hv
  rw [eq]
  cases h with
  | lst _ _ _ ad c val hc hr ha hs hcell hrep hg =>
   have hnc : rows.length = c := hg
   generalize hq : bEt ad (rows.length * sz) (c * sz) = q
   have hq2 : ¬ q.2.1 < q.2.2 := by
    rw [← hq, hnc]
    cases ad <;> simp [bEt]
   refine ⟨rN (aFm φ m m₀.vars.length) (bI m₀ m) (bI m₀ m).toks.length (q.1, q.2.1, q.2.2), aRt hRF hv0 fun hlt => absurd hlt hq2, aOl hXF f7 fun hlt => absurd hlt hq2, ?_⟩
   have hK := zN (b := q.1) (s := q.2.1) (e := q.2.2) hv0 hF
   generalize hxx : Value.slice ad rows.length c = xx at hK hF
   cases hK with
   | lst _ _ _ ad' c' val' hc' hr' ha' hs' hcell' hrep' hg' =>
    cases hxx
    refine .lst _ sz rows ad c val' hc' hr' ha' hs' hcell' hrep' ⟨0, by simp [kR], Nat.le_refl _, fun _ => ?_⟩
    cases ad with
    | none => exact hnc
    | some ad =>
     simp only [rN, if_true]
     rw [← hq]
     rfl
 ·rename_i id ver sz rows
  split at hb
  ·rename_i hc
   obtain ⟨hid, hk⟩ := hc
   simp only [Option.some.injEq, Prod.mk.injEq] at hb
   obtain ⟨rfl, rfl⟩ := hb
   have hF := listF h
   have hidl := (List.getElem?_eq_some_iff.mp hid).1
   have hv0 : ∀ v, (bI m₀ m).toks[id]? = some v → v < ver + 1 := fun v hv => by
    have h1 := (List.getElem?_eq_some_iff.mp hv).1
    rw [f3 id h1, hid] at hv
    simp only [Option.some.injEq] at hv
    omega
   rw [show ({ bI m₀ m with toks := (bI m₀ m).toks.set id (ver + 1) ++ [0] } : Mem) = kR (bI m₀ m) id (ver + 1) from rfl]
   cases h with
   | lst _ _ _ ad c val hc hr ha hs hcell hrep hg =>
    obtain ⟨v, h1, h2, h3⟩ := hg
    rw [hid] at h1
    simp only [Option.some.injEq] at h1
    have h3 := h3 h1.symm
    rcases hq : φ.tk id with ⟨b, s, e⟩
    have hblk := hR.tok id b s e hidl hq
    refine ⟨rN (aFm φ m m₀.vars.length) (bI m₀ m) id (b, s, e), aRt hRF hv0 fun hlt => ⟨?_, fun id' s' e' g1 g2 g3 g4 => ?_⟩, aOl hXF hk fun hlt => ?_, ?_⟩
    ·obtain ⟨arr, T, k1, k2, k3, k4, k5⟩ := hblk hlt
     refine ⟨arr, T, k1, k2, fun o o1 o2 hi => ?_, fun r cs hv => k4 r cs (f2 r cs hv).2, k5⟩
     rcases hi with hi | ⟨r', cs', _, i3, i4, _⟩
     ·exact k3 o o1 o2 hi
     ·exact k4 r' cs' i3 i4.symm
    ·exact g2 (hR.tinj id' id b s' e' s e (by omega) hidl g3 hq g4 hlt)
    ·exact hX.own b (.inr ⟨id, s, e, hidl, hq, hlt⟩)
    ·have hK := zN (b := b) (s := s) (e := e) hv0 hF
     generalize hxx : Value.slice ad rows.length c = xx at hK hF
     cases hK with
     | lst _ _ _ ad' c' val' hc' hr' ha' hs' hcell' hrep' hg' =>
      cases hxx
      refine .lst _ sz rows ad c val' hc' hr' ha' hs' hcell' hrep' ⟨0, by simp [kR], Nat.le_refl _, fun _ => ?_⟩
      cases ad with
      | none => exact h3
      | some ad =>
       simp only [rN, if_true]
       rw [← hq]
       exact h3
  ·cases hb
 ·cases hb
 ·simp only [Option.map_eq_some_iff, Prod.mk.injEq] at hb
  obtain ⟨r', hr', rfl, rfl⟩ := hb
  exact ⟨_, hRF, hXF, tC hR h hr'⟩

/-- A result variable's value. -/
def vX (tmps : Array Value) : ResultVar → Sem Value
 | .tmp t => pure (tmps.getD t undef)
 | .cell a t => do loadVar t (← asAddr (tmps.getD a undef))
theorem aE7 (hR : RM φ m w) {e : Env} {tmps : Array Value} (hE : cX φ m w e tmps) {r : ResultVar} {a : AV} (h : dP P e m r = some a) :
  ∃ x, (vX tmps r).run P w = .ok x w ∧ Rep φ m w a x := by
 cases r with
 | tmp t =>
  simp only [dP, Option.some.injEq] at h
  subst h
  exact ⟨_, rfl, hE t⟩
 | cell p t =>
  simp only [dP] at h
  obtain ⟨x, h1, h2⟩ := aMc (P := P) hR (hE p) h
  refine ⟨x, ?_, h2⟩
  generalize hv : tmps.getD p undef = pv at h1
  simp only [vX, hv]
  cases pv with
  | pointer ad =>
   cases ad with
   | none => simp [Instr.loadAt, Instr.sureAddr] at h1
   | some ad => simpa [Instr.loadAt, Instr.sureAddr, asAddr] using h1
  | _ => simp [Instr.loadAt, Instr.sureAddr] at h1

theorem aNw (fn : Func) (tmps : Array Value) : results fn tmps = (do
  let vs ← fn.results.mapM (vX tmps)
  pure (if h : vs.size = 1 then vs[0] else .tuple vs)) := by
 unfold results
 congr 1
theorem aSk (hR₀ : RM φ₀ m₀ w₀) {gr : Bool} {fn : Func} {nt : Nat} {e : Env} {a : Act} (hs : St φ₀ m₀ w₀ nt e m a w) {r : AV} {m' : Mem} (h : dL P gr fn m₀ e m = some (r, m')) :
  ∃ x φ', (results fn a.tmps).run P w = .ok x w ∧ RM φ' m' w ∧ Ext φ₀ m₀ w₀ φ' m' w ∧ Rep φ' m' w r x := by
 obtain ⟨φ, hR, hX, hE, _, _⟩ := hs
 let val : ResultVar → Value := fun rv => match (vX a.tmps rv).run P w with
  | .ok x _ => x
  | _ => undef
 have hval : ∀ rv b, dP P e m rv = some b → (vX a.tmps rv).run P w = .ok (val rv) w ∧ Rep φ m w b (val rv) := by
  intro rv b hb
  obtain ⟨x, h1, h2⟩ := aE7 hR hE hb
  have : val rv = x := by simp [val, h1]
  rw [this]
  exact ⟨h1, h2⟩
 have hrun : (∀ rv ∈ fn.results.toList, (vX a.tmps rv).run P w = .ok (val rv) w) → (results fn a.tmps).run P w = .ok (if h : (fn.results.map val).size = 1 then (fn.results.map val)[0] else .tuple (fn.results.map val)) w := by
  intro hall
  have h1 := aGd (P := P) (w := w) (g := vX a.tmps) (r := val) hall
  have h2 : (fn.results.mapM (vX a.tmps)).run P w = .ok (fn.results.map val) w := by
   rw [Array.mapM_eq_mapM_toList, Sem.run_map, h1]
   show Result.ok (fn.results.toList.map val).toArray w = _
   congr 1
   apply Array.ext'
   simp
  rw [aNw]
  simp only [Sem.run_bind, h2, Result.andThen_ok, Sem.run_pure]
 unfold dL at h
 split at h
 ·rename_i rv hrv
  rw [Option.bind_eq_some_iff] at h
  obtain ⟨b, hb, hg⟩ := h
  obtain ⟨h1, h2⟩ := hval rv b hb
  obtain ⟨φ', g1, g2, g3⟩ := bD1 hR₀ hR hX h2 hg
  refine ⟨val rv, φ', ?_, g1, g2, g3⟩
  rw [hrun (by rw [hrv]; simpa using h1)]
  have e1 : fn.results = #[rv] := by apply Array.ext'; simpa using hrv
  simp [e1]
 ·rename_i rs hrs
  simp only [Option.map_eq_some_iff, Prod.mk.injEq, Option.bind_eq_some_iff] at h
  obtain ⟨vs, ⟨us, hus, hvs⟩, rfl, rfl⟩ := h
  obtain ⟨l1, s1⟩ := jS hus
  obtain ⟨l2, s2⟩ := jS hvs
  have hne : ¬ (fn.results.map val).size = 1 := by
   intro h1
   have h2 : fn.results.toList.length = 1 := by simpa using h1
   obtain ⟨q, hq⟩ := List.length_eq_one_iff.mp h2
   exact hrs q hq
  refine ⟨.tuple (fn.results.map val), _, ?_, aUn hR₀ hR hX, aKm hX, ?_⟩
  ·rw [hrun fun rv hrv => ?_, dif_neg hne]
   obtain ⟨i, hi⟩ := List.getElem?_of_mem hrv
   have hil : i < us.length := by rw [l1]; exact (List.getElem?_eq_some_iff.mp hi).1
   obtain ⟨rv', h1, h2⟩ := s1 i _ (List.getElem?_eq_getElem hil)
   rw [hi] at h1
   cases h1
   exact (hval rv _ h2).1
  ·refine .tup vs _ (by simp [l2, l1]) fun i b u h1 h2 => ?_
   obtain ⟨c, hc, hcb⟩ := s2 i b h1
   obtain ⟨rv, hrv, hrc⟩ := s1 i c hc
   simp only [Array.getElem?_map, Option.map_eq_some_iff] at h2
   obtain ⟨rv', h3, rfl⟩ := h2
   have : fn.results.toList[i]? = some rv' := by simpa using h3
   rw [this] at hrv
   cases hrv
   exact tC hR (hval rv c hrc).2 hcb
end

/-! ### all functions -/
theorem aBj {φ : Phi} {m : Mem} {w : World} {args : List AV} {vals : Array Value} (h : Reps φ m w args vals) (n : Nat) : cX φ m w (vP args) (vals ++ Array.replicate n undef) := by
 have go : ∀ (l : List AV) (k : Nat) t, get ((List.range' k l.length).zip l) t = if k ≤ t then (l[t - k]?).getD .junk else .junk := by
  intro l
  induction l with
  | nil => intro k t; simp [get]
  | cons a l ih =>
   intro k t
   simp only [List.length_cons, List.range'_succ, List.zip_cons_cons, get, ih]
   by_cases e : k = t
   ·subst e; simp
   ·by_cases h1 : k ≤ t
    ·have h2 : t - k = t - (k + 1) + 1 := by omega
     rw [if_neg e, if_pos (by omega), if_pos h1, h2]
     rfl
    ·rw [if_neg e, if_neg (by omega), if_neg h1]
 intro t
 have h1 : get (vP args) t = (args[t]?).getD .junk := by
  unfold vP
  rw [List.range_eq_range', go, if_pos (Nat.zero_le _), Nat.sub_zero]
 rw [h1]
 cases ha : args[t]? with
 | none => exact .junk _
 | some a =>
  have hlt : t < vals.size := by rw [h.1]; exact (List.getElem?_eq_some_iff.mp ha).1
  have e : (vals ++ Array.replicate n undef).getD t undef = vals[t] := by
   rw [Array.getD_eq_getD_getElem?, Array.getElem?_append_left hlt, Array.getElem?_eq_getElem hlt]; rfl
  rw [e]
  exact h.2 t a _ ha (Array.getElem?_eq_getElem hlt)

/-- What one function comes to is so. -/
def aO (P : Program) (f : FuncId) (g : List AV → Mem → Option (AV × Mem)) : Prop :=
 ∀ args m r m', g args m = some (r, m') →
  (∃ fn, P.funcs[f]? = some fn ∧ fn.body.isNone = false ∧ (fn.name == "runtime.NumGoroutine") = false) ∧
  ∀ φ w vals, RM φ m w → Reps φ m w args vals →
   Calls P f vals w fun e w' => ∃ x φ', e = .returned x ∧ RM φ' m' w' ∧ Ext φ m w φ' m' w' ∧ Rep φ' m' w' r x
theorem bS9 {P : Program} (hm : P.follows .mixedOrders = true) {C : Ctx} {call : CallF} (hC : dU P call) (n : Nat) {f : FuncId} {fn : Func} {c : Code} (hf : P.funcs[f]? = some fn) (hb : fn.body = some c) :
  aO P f (aTy P C call n f fn c) := by
 intro args m r m' h
 unfold aTy at h
 split at h
 ·rename_i hc
  refine ⟨⟨fn, hf, by rw [hb]; rfl, hc.2⟩, fun φ w vals hR hA => ?_⟩
  have hst : St φ m w fn.ntmps (vP args) m { tmps := vals ++ Array.replicate (fn.ntmps - vals.size) undef, defers := [] } w :=
   ⟨φ, hR, Ext.refl .., aBj hA _, by simp; omega, rfl⟩
  have fin : ∀ {e : Env} {m1 : Mem} {a : Act} {w' : World}, dL P (C.gr f) fn m e m1 = some (r, m') → St φ m w fn.ntmps e m1 a w' →
    a.defers = [] ∧ ∃ v, (results fn a.tmps).run P w' = .ok v w' ∧ ∃ x φ', Ending.returned v = .returned x ∧ RM φ' m' w' ∧ Ext φ m w φ' m' w' ∧ Rep φ' m' w' r x := by
   intro e m1 a w' hret hs
   obtain ⟨x, φ', h1, h2, h3, h4⟩ := aSk hR hs hret
   obtain ⟨_, _, _, _, _, hd⟩ := hs
   exact ⟨hd, x, h1, x, φ', rfl, h2, h3, h4⟩
  split at h
  ·rename_i e m1 h1
   refine calls_of_wp hf hb (wp_mono (aDx hm hC _ n c _ _ _ h1 _ _ hst) fun x a w' hp => ?_)
   obtain ⟨rfl, hs⟩ := hp
   exact fin h hs
  ·rename_i e m1 h1
   refine calls_of_wp hf hb (wp_mono (aDx hm hC _ n c _ _ _ h1 _ _ hst) fun x a w' hp => ?_)
   obtain ⟨rfl, hs⟩ := hp
   exact fin h hs
  ·cases h
 ·cases h
end
section
section
variable {P : Program} {call : CallF} {nt : Nat} {kp : Nat → Option (List Nat)}

theorem aDw {b b' : Env → Mem → Res} (hb : ∀ e m r, b e m = some r → b' e m = some r) {r : Ex × Env × Mem} : ∀ n n' e m, n ≤ n' → zA b n e m = some r → zA b' n' e m = some r
 | 0, _, _, _, _, h => by cases h
 | n + 1, 0, _, _, hn, _ => by omega
 | n + 1, n' + 1, e, m, hn, h => by
  unfold zA at h ⊢
  split at h
  ·rename_i e' m' h1
   rw [hb e m _ h1]
   exact aDw hb n n' e' m' (by omega) h
  ·rename_i h1
   rw [hb e m _ h]
   obtain ⟨x, e', m'⟩ := r
   cases x with
   | normal => exact absurd h (h1 e' m')
   | exit id => rfl
   | ret => rfl
theorem qJ {n n' : Nat} (hn : n ≤ n') : ∀ (c : Code) (e : Env) (m : Mem) (r : Ex × Env × Mem), code P call nt kp n c e m = some r → code P call nt kp n' c e m = some r := by
 intro c
 induction c with
 | seq x y ihx ihy =>
  intro e m r h
  unfold code at h ⊢
  split at h
  ·rename_i e' m' h1
   rw [ihx e m _ h1]
   exact ihy e' m' r h
  ·rename_i h1
   rw [ihx e m _ h]
   obtain ⟨x, e', m'⟩ := r
   cases x with
   | normal => exact absurd h (h1 e' m')
   | exit id => rfl
   | ret => rfl
 | cond c x y ihx ihy =>
  intro e m r h
  unfold code at h ⊢
  split at h
  ·rename_i t ht
   cases t with
   | true => exact ihx e m r h
   | false => exact ihy e m r h
  ·cases h
 | block id b ih =>
  intro e m r h
  unfold code at h ⊢
  split at h
  ·rename_i q e' m' h1
   rw [ih e m _ h1]
   exact h
  ·rename_i h1
   rw [ih e m _ h]
   obtain ⟨x, e', m'⟩ := r
   cases x with
   | normal => rfl
   | exit id => exact absurd h (h1 id e' m')
   | ret => rfl
 | loop b ih =>
  intro e m r h
  unfold code at h ⊢
  exact aDw ih n n' e m hn h
 | _ => intro e m r h; exact h

/-- Code runs, in some number of rounds, to an end that Q holds of. -/
def cF (P : Program) (call : CallF) (nt : Nat) (kp : Nat → Option (List Nat)) (c : Code) (e : Env) (m : Mem) (Q : Ex → Env → Mem → Prop) : Prop :=
 ∃ n x e' m', code P call nt kp n c e m = some (x, e', m') ∧ Q x e' m'
variable {e : Env} {m : Mem} {Q : Ex → Env → Mem → Prop}
/-- Where the first of two ends. -/
def Next (K : Env → Mem → Prop) (Q : Ex → Env → Mem → Prop) : Ex → Env → Mem → Prop
 | .normal, e, m => K e m
 | x, e, m => Q x e m
def aW (id : Nat) (Q : Ex → Env → Mem → Prop) : Ex → Env → Mem → Prop
 | .exit q, e, m => if q = id then Q .normal e m else Q (.exit q) e m
 | x, e, m => Q x e m
theorem bIn {c : Code} {Q' : Ex → Env → Mem → Prop} (h : cF P call nt kp c e m Q) (hq : ∀ x e m, Q x e m → Q' x e m) : cF P call nt kp c e m Q' :=
 let ⟨n, x, e', m', h1, h2⟩ := h; ⟨n, x, e', m', h1, hq _ _ _ h2⟩
theorem qG (h : Q .normal e m) : cF P call nt kp .skip e m Q := ⟨0, _, _, _, rfl, h⟩
theorem qN {id : Nat} (h : Q (.exit id) e m) : cF P call nt kp (.exit id) e m Q := ⟨0, _, _, _, rfl, h⟩
theorem uT (h : Q .ret e m) : cF P call nt kp .ret e m Q := ⟨0, _, _, _, rfl, h⟩
theorem aZ8 {id : Nat} {l : List Oper} {e' : Env} {m' : Mem} (h : mW P call nt l.toArray false l e m = some (e', m')) (hq : Q .normal (restr (kp id) e') m') :
  cF P call nt kp (.region id l.toArray false) e m Q := ⟨0, _, _, _, by simp only [code, if_neg Bool.false_ne_true, h], hq⟩
theorem bBi {id : Nat} {l : List Oper} {e' : Env} {m' : Mem} (h : aG2 P call nt l e m = some (e', m')) (hq : Q .normal (restr (kp id) e') m') :
  cF P call nt kp (.region id l.toArray true) e m Q := ⟨0, _, _, _, by simp only [code, if_true, h], hq⟩
theorem dI {a b : Code} (h : cF P call nt kp a e m (Next (fun e m => cF P call nt kp b e m Q) Q)) : cF P call nt kp (.seq a b) e m Q := by
 obtain ⟨n, x, e', m', h1, h2⟩ := h
 cases x with
 | normal =>
  obtain ⟨n2, x2, e2, m2, h3, h4⟩ := h2
  refine ⟨max n n2, x2, e2, m2, ?_, h4⟩
  unfold code
  rw [qJ (Nat.le_max_left n n2) _ _ _ _ h1]
  exact qJ (Nat.le_max_right n n2) _ _ _ _ h3
 | exit id => exact ⟨n, _, _, _, by unfold code; rw [h1], h2⟩
 | ret => exact ⟨n, _, _, _, by unfold code; rw [h1], h2⟩
theorem aH {c : Operand} {a b : Code} {t : Bool} (hc : opd P e 0 c = .v (.bool t)) (ht : t = true → cF P call nt kp a e m Q) (hf : t = false → cF P call nt kp b e m Q) : cF P call nt kp (.cond c a b) e m Q := by
 cases t with
 | true => obtain ⟨n, x, e', m', h1, h2⟩ := ht rfl; exact ⟨n, x, e', m', by unfold code; rw [hc]; exact h1, h2⟩
 | false => obtain ⟨n, x, e', m', h1, h2⟩ := hf rfl; exact ⟨n, x, e', m', by unfold code; rw [hc]; exact h1, h2⟩
theorem nM {id : Nat} {b : Code} (h : cF P call nt kp b e m (aW id Q)) : cF P call nt kp (.block id b) e m Q := by
 obtain ⟨n, x, e', m', h1, h2⟩ := h
 cases x with
 | normal => exact ⟨n, _, _, _, by unfold code; rw [h1], h2⟩
 | ret => exact ⟨n, _, _, _, by unfold code; rw [h1], h2⟩
 | exit q =>
  simp only [aW] at h2
  by_cases hq : q = id
  ·rw [if_pos hq] at h2
   exact ⟨n, _, _, _, by unfold code; rw [h1]; simp only [hq, if_true], h2⟩
  ·rw [if_neg hq] at h2
   exact ⟨n, _, _, _, by unfold code; rw [h1]; simp only [if_neg hq], h2⟩
theorem cE {b : Code} (I : Nat → Env → Mem → Prop) {k : Nat} (h0 : I k e m) (round : ∀ k e m, I k e m → cF P call nt kp b e m (Next (fun e' m' => ∃ k', k' < k ∧ I k' e' m') Q)) : cF P call nt kp (.loop b) e m Q := by
 have key : ∀ k e m, I k e m → ∃ n x e' m', zA (code P call nt kp n b) n e m = some (x, e', m') ∧ Q x e' m' := by
  intro k
  induction k using Nat.strongRecOn with
  | _ k ih =>
   intro e m hI
   obtain ⟨n, x, e', m', h1, h2⟩ := round k e m hI
   cases x with
   | normal =>
    obtain ⟨k', hk, hI'⟩ := h2
    obtain ⟨n2, x2, e2, m2, h3, h4⟩ := ih k' hk e' m' hI'
    refine ⟨max n n2 + 1, x2, e2, m2, ?_, h4⟩
    unfold zA
    rw [qJ (by omega : n ≤ max n n2 + 1) _ _ _ _ h1]
    exact aDw (qJ (by omega : n2 ≤ max n n2 + 1) b) n2 (max n n2) e' m' (Nat.le_max_right ..) h3
   | exit id => exact ⟨n + 1, _, _, _, by unfold zA; rw [qJ (Nat.le_succ n) _ _ _ _ h1], h2⟩
   | ret => exact ⟨n + 1, _, _, _, by unfold zA; rw [qJ (Nat.le_succ n) _ _ _ _ h1], h2⟩
 obtain ⟨n, x, e', m', h1, h2⟩ := key k e m h0
 exact ⟨n, x, e', m', by unfold code; exact h1, h2⟩

/-- What a body must leave behind. -/
def cZ (P : Program) (gr : Bool) (fn : Func) (m₀ : Mem) (r : AV × Mem) : Ex → Env → Mem → Prop
 | .normal, e, m => dL P gr fn m₀ e m = some r
 | .ret, e, m => dL P gr fn m₀ e m = some r
 | .exit _, _, _ => False
/-- A function's contract, of its body's run. -/
theorem aP (hm : P.follows .mixedOrders = true) (hC : dU P call) {f : FuncId} {fn : Func} {c : Code} (hf : P.funcs[f]? = some fn) (hb : fn.body = some c) (kp : Nat → Option (List Nat)) (gr : Bool)
  {g : List AV → Mem → Option (AV × Mem)} (hn : (fn.name == "runtime.NumGoroutine") = false)
  (h : ∀ args m r, g args m = some r → args.length ≤ fn.ntmps ∧ cF P call fn.ntmps kp c (vP args) m (cZ P gr fn m r)) : aO P f g := by
 intro args m r m' hg
 obtain ⟨hl, n, x, e', m1, h1, h2⟩ := h args m (r, m') hg
 refine bS9 hm hC n (C := ⟨fun _ => kp, fun _ => gr, fun _ => none⟩) hf hb args m r m' ?_
 unfold aTy
 rw [if_pos ⟨hl, hn⟩]
 dsimp only
 rw [h1]
 cases x with
 | normal => exact h2
 | ret => exact h2
 | exit id => exact h2.elim

/-- Contracts side by side. -/
def bQ (l : List (FuncId × (List AV → Mem → Option (AV × Mem)))) : CallF := fun f args m =>
 match l with
 | [] => none
 | (k, g) :: rest => if f = k then g args m else bQ rest f args m
theorem aI : ∀ {l : List (FuncId × (List AV → Mem → Option (AV × Mem)))}, (∀ p ∈ l, aO P p.1 p.2) → dU P (bQ l)
 | [], _ => fun f args m r m' h => by cases h
 | (k, g) :: rest, hl => fun f args m r m' h => by
  unfold bQ at h
  split at h
  ·rename_i hk
   subst hk
   exact hl _ (List.mem_cons_self ..) args m r m' h
  ·exact aI (fun p hp => hl p (List.mem_cons_of_mem _ hp)) f args m r m' h
end

/-! ### the law's call -/
/-- All that was there stays. -/
def aTl (W : World) : Phi := ⟨fun _ => 0, fun b _ => b < W.heap.size, fun _ => (0, 0, 0)⟩
theorem bTr (W : World) : RM (aTl W) ⟨[], []⟩ W where
 var r cs h := by simp [Mem.var] at h
 inj r r' cs cs' h := by simp [Mem.var] at h
 vim r cs o h := by simp [Mem.var] at h
 tok id b s e h := by simp at h
 tinj id id' b s e s' e' h := by simp at h
 imlt b o h := h
theorem bKa {P : Program} {f : FuncId} {g : List AV → Mem → Option (AV × Mem)} (hf : aO P f g) {args : List AV} {x : Value} {m' : Mem} (hg : g args ⟨[], []⟩ = some (.v x, m')) {W : World} {vals : Array Value}
  (hA : Reps (aTl W) ⟨[], []⟩ W args vals) : Calls P f vals W fun e W' => e = .returned x ∧ Go.RowKit.Below W.heap.size W W' := by
 refine ((hf args _ _ _ hg).2 (aTl W) W vals (bTr W) hA).mono fun e W' h => ?_
 obtain ⟨y, φ', rfl, _, hX, hr⟩ := h
 cases hr
 refine ⟨rfl, hX.os, hX.tape, hX.output, hX.size, fun k hk => hX.blk k hk ?_⟩
 rintro (⟨r, cs, h, _⟩ | ⟨id, s, e, h, _⟩)
 ·simp [Mem.var] at h
 ·simp at h
end
section
section
variable {P : Program} {call : CallF} {nt : Nat} {kp : Nat → Option (List Nat)} {ops : Array Oper} {pu : Bool}
/-- Operations run to a state that K holds of. -/
def Ops (P : Program) (call : CallF) (nt : Nat) (ops : Array Oper) (pu : Bool) (l : List Oper) (e : Env) (m : Mem) (K : Env → Mem → Prop) : Prop :=
 ∃ e' m', mW P call nt ops pu l e m = some (e', m') ∧ K e' m'
variable {e : Env} {m : Mem} {Q : Ex → Env → Mem → Prop} {K : Env → Mem → Prop}
theorem bLw {id : Nat} {l : List Oper} (h : Ops P call nt l.toArray false l e m fun e' m' => Q .normal (restr (kp id) e') m') : cF P call nt kp (.region id l.toArray false) e m Q :=
 let ⟨_, _, h1, h2⟩ := h; aZ8 h1 h2
theorem aOp {id : Nat} {l : List Oper} (hok : aBo P l = true) (h : Ops P call nt l.toArray (rL P l) l e m fun e' m' => Q .normal (restr (kp id) e') m') : cF P call nt kp (.region id l.toArray true) e m Q :=
 let ⟨_, _, h1, h2⟩ := h; bBi (by unfold aG2; rw [if_pos hok]; exact h1) h2
/-- The ends of pieces of code. -/
theorem gJ {K : Env → Mem → Prop} (h : K e m) : Next K Q .normal e m := h
theorem qP {K : Env → Mem → Prop} {id : Nat} (h : Q (.exit id) e m) : Next K Q (.exit id) e m := h
theorem tZ {K : Env → Mem → Prop} (h : Q .ret e m) : Next K Q .ret e m := h
theorem jA {id : Nat} (h : Q .normal e m) : aW id Q .normal e m := h
theorem nX {id : Nat} (h : Q .ret e m) : aW id Q .ret e m := h
theorem lJ {id : Nat} (h : Q .normal e m) : aW id Q (.exit id) e m := by show (if id = id then _ else _); rw [if_pos rfl]; exact h
theorem jU {id q : Nat} (hq : q ≠ id) (h : Q (.exit q) e m) : aW id Q (.exit q) e m := by show (if q = id then _ else _); rw [if_neg hq]; exact h
/-- A region's end: the slots that are kept. -/
theorem gQ {id : Nat} {l : List Oper} (h : Ops P call nt l.toArray false l e m fun e' m' => ∀ e2, restr (kp id) e' = e2 → Q .normal e2 m') : cF P call nt kp (.region id l.toArray false) e m Q :=
 bLw (let ⟨e', m', h1, h2⟩ := h; ⟨e', m', h1, h2 _ rfl⟩)
theorem gT {id : Nat} {l : List Oper} (hok : aBo P l = true) (h : Ops P call nt l.toArray (rL P l) l e m fun e' m' => ∀ e2, restr (kp id) e' = e2 → Q .normal e2 m') : cF P call nt kp (.region id l.toArray true) e m Q :=
 aOp hok (let ⟨e', m', h1, h2⟩ := h; ⟨e', m', h1, h2 _ rfl⟩)
theorem aA7 (h : K e m) : Ops P call nt ops pu [] e m K := ⟨e, m, rfl, h⟩
theorem aId {o : Oper} {rest : List Oper} {a : AV} {m1 : Mem} {d : Nat} (hg : o.guard = none) (hd : o.dst = some d) (hlt : d < nt) (hk : evOp P call e m o = some (a, m1))
  (hpu : (pu && clsOf P o == .ca) = true → m1 = m) (h : Ops P call nt ops pu rest ((d, a) :: e) m1 K) : Ops P call nt ops pu (o :: rest) e m K := by
 obtain ⟨e', m', h1, h2⟩ := h
 refine ⟨e', m', ?_, h2⟩
 have hw : wantedAV ops e o = some true := by unfold wantedAV; rw [hg]
 have hp : putAV nt o.dst a e = some ((d, a) :: e) := by unfold putAV; rw [hd]; exact if_pos hlt
 have hk' : keeps P pu o m (evOp P call e m o) = some (a, m1) := by unfold keeps; rw [hk]; exact if_pos hpu
 unfold mW
 rw [hw]
 simp only [hk', hp]
 exact h1
theorem aBr {o : Oper} {rest : List Oper} {a : AV} {m1 : Mem} (hg : o.guard = none) (hd : o.dst = none) (hk : evOp P call e m o = some (a, m1))
  (hpu : (pu && clsOf P o == .ca) = true → m1 = m) (h : Ops P call nt ops pu rest e m1 K) : Ops P call nt ops pu (o :: rest) e m K := by
 obtain ⟨e', m', h1, h2⟩ := h
 refine ⟨e', m', ?_, h2⟩
 have hw : wantedAV ops e o = some true := by unfold wantedAV; rw [hg]
 have hp : putAV nt o.dst a e = some e := by unfold putAV; rw [hd]
 have hk' : keeps P pu o m (evOp P call e m o) = some (a, m1) := by unfold keeps; rw [hk]; exact if_pos hpu
 unfold mW
 rw [hw]
 simp only [hk', hp]
 exact h1
/-- A guarded one. -/
theorem bMi {o : Oper} {rest : List Oper} {d j g : Nat} {want b : Bool} (hg : o.guard = some (j, want)) (hj : (ops[j]?).bind (·.dst) = some g) (hb : get e g = .v (.bool b)) (hd : o.dst = some d) (hlt : d < nt)
  (hy : b = want → ∃ a m1, evOp P call e m o = some (a, m1) ∧ ((pu && clsOf P o == .ca) = true → m1 = m) ∧ Ops P call nt ops pu rest ((d, a) :: e) m1 K)
  (hn : b ≠ want → Ops P call nt ops pu rest ((d, .v (.tuple #[])) :: e) m K) : Ops P call nt ops pu (o :: rest) e m K := by
 have hw : wantedAV ops e o = some (b == want) := by unfold wantedAV; rw [hg]; simp only [hj, hb]
 have hp : ∀ a, putAV nt o.dst a e = some ((d, a) :: e) := fun a => by unfold putAV; rw [hd]; exact if_pos hlt
 by_cases h : b = want
 ·obtain ⟨a, m1, hk, hpu, e', m', h1, h2⟩ := hy h
  refine ⟨e', m', ?_, h2⟩
  have hk' : keeps P pu o m (evOp P call e m o) = some (a, m1) := by unfold keeps; rw [hk]; exact if_pos hpu
  unfold mW
  rw [hw, show (b == want) = true by simp [h]]
  simp only [hk', hp]
  exact h1
 ·obtain ⟨e', m', h1, h2⟩ := hn h
  refine ⟨e', m', ?_, h2⟩
  unfold mW
  rw [hw, show (b == want) = false by simp [h]]
  simp only [hp]
  exact h1
theorem aBx {o : Oper} {rest : List Oper} {d j g : Nat} {want : Bool} {a : AV} {m1 : Mem} (hg : o.guard = some (j, want)) (hj : (ops[j]?).bind (·.dst) = some g) (hb : get e g = .v (.bool want)) (hd : o.dst = some d) (hlt : d < nt)
  (hk : evOp P call e m o = some (a, m1)) (hpu : (pu && clsOf P o == .ca) = true → m1 = m) (h : Ops P call nt ops pu rest ((d, a) :: e) m1 K) : Ops P call nt ops pu (o :: rest) e m K :=
 bMi hg hj hb hd hlt (fun _ => ⟨a, m1, hk, hpu, h⟩) (fun hn => absurd rfl hn)
theorem aIb {o : Oper} {rest : List Oper} {d j g : Nat} {want b : Bool} (hg : o.guard = some (j, want)) (hj : (ops[j]?).bind (·.dst) = some g) (hb : get e g = .v (.bool b)) (hne : b ≠ want) (hd : o.dst = some d) (hlt : d < nt)
  (h : Ops P call nt ops pu rest ((d, .v (.tuple #[])) :: e) m K) : Ops P call nt ops pu (o :: rest) e m K :=
 bMi hg hj hb hd hlt (fun h' => absurd h' hne) (fun _ => h)
end
end
section
section
variable {P : Program} {call : CallF} {m : Mem} {e : Env}
theorem bU (m : Mem) : bI m m = m := by
 unfold bI
 rw [if_pos (List.take_length ..), List.take_length]
theorem cCm {fn : Func} {t : Tmp} {x : Value} (h : fn.results = #[.tmp t]) (hg : get e t = .v x) : dL P false fn m e m = some (.v x, m) := by
 unfold dL
 rw [h]
 simp only [dP, hg, Option.bind_some, kJ, fP, pV, Option.map_some, bU]
theorem bYi {fn : Func} {t u : Tmp} {x y : Value} (h : fn.results = #[.tmp t, .tmp u]) (hg : get e t = .v x) (hu : get e u = .v y) : dL P false fn m e m = some (.tup [.v x, .v y], m) := by
 unfold dL
 rw [h]
 simp [dP, hg, hu, fP, pV, bU]
theorem aY {fn : Func} {t : Tmp} {x : Value} (h : fn.results = #[.tmp t]) (hg : get e t = .v x) : cZ P false fn m (.v x, m) .ret e m := cCm h hg
theorem cM {fn : Func} {t u : Tmp} {x y : Value} (h : fn.results = #[.tmp t, .tmp u]) (hg : get e t = .v x) (hu : get e u = .v y) : cZ P false fn m (.tup [.v x, .v y], m) .ret e m := bYi h hg hu
theorem bEs (k : IntKind) (n : Int) (h0 : k.min ≤ n) (h1 : n ≤ k.max) : k.wrap n = n := by
 unfold IntKind.wrap
 cases k <;> simp [IntKind.min, IntKind.max, IntKind.bits, IntKind.signed] at * <;> omega
/-- A memory with a variable more. -/
def Mem.push (m : Mem) (cs : List AV) : Mem := { m with vars := m.vars ++ [some cs] }
theorem bF {cs : List AV} (h : cs.all (refLe m.vars.length) = true) : newVar m m.vars.length cs = some (m.push cs) := by
 unfold newVar
 rw [if_pos h, if_pos rfl]
 rfl
theorem aJ {cs : List AV} : (m.push cs).var m.vars.length = some cs := by simp [Mem.var, Mem.push]
theorem lV {cs : List AV} : bI m (m.push cs) = m := by
 unfold bI
 have h : (m.push cs).vars.take m.vars.length = m.vars := by simp [Mem.push]
 rw [if_pos h]
 show (⟨m.vars, m.toks.take m.toks.length⟩ : Mem) = m
 rw [List.take_length]
theorem eW {t : TypeId} {x : AV} {old cs : List AV} {off : Nat} (hc : cellsOf x = some cs) (ht : cA P t = some cs.length) (hf : off + cs.length ≤ old.length) (hr : cs.all (refLe m.vars.length) = true) :
  aR P (m.push old) t (.ptr m.vars.length off) x = some (m.push (cB old off cs)) := by
 unfold aR
 simp only [hc, ht, aJ]
 rw [if_pos ⟨trivial, hf, hr⟩]
 simp [Mem.push]
theorem aE {fn : Func} {t : Tmp} {x : Value} {m' : Mem} (h : fn.results = #[.tmp t]) (hg : get e t = .v x) (hm : bI m m' = m) : cZ P false fn m (.v x, m) .ret e m' := by
 show dL P false fn m e m' = _
 unfold dL
 rw [h]
 simp only [dP, hg, Option.bind_some, kJ, fP, pV, Option.map_some, hm]
end
end
section
section
variable {P : Program} {m : Mem}
/-- A memory with tokens more. -/
def Mem.tk (m : Mem) (l : List Nat) : Mem := { m with toks := m.toks ++ l }
theorem bNz {l : List Nat} : bI m (m.tk l) = m := by
 unfold bI
 have h : (m.tk l).vars.take m.vars.length = m.vars := by simp [Mem.tk]
 rw [if_pos h]
 simp [Mem.tk]
/-- May one append to a slice of type t (k cells an element) a slice of type t2? -/
def mS (P : Program) (t t2 : TypeId) (k : Nat) : Bool :=
 match dB P t with
 | some e =>
  match cA P e, lA P e, zeroCells P e with
  | some k', some b, some z => decide (k' = k) && decide (b ≤ 4096) && decide (z.length = k) && decide (0 < k) && z.all okCell && (match dB P t2 with | some e2 => e2 == e | none => false)
  | _, _, _ => false
 | none => false
theorem yS {t t2 : TypeId} {k : Nat} (ha : mS P t t2 k = true) {x y : AV} {g g2 : Grow} {xs ys : List (List AV)} (hx : tS k x = some (g, xs)) (hy : tS k y = some (g2, ys)) (hl : xs.length + ys.length ≤ lim) :
  kE P t t2 m x y = match (generalizing := false) g with
   | .no => none
   | .here => none
   | .full => some (.lst (.tok m.toks.length 0) k (xs ++ ys), { m with toks := m.toks ++ [0] })
   | .tok id ver => if m.toks[id]? = some ver then some (.lst (.tok id (ver + 1)) k (xs ++ ys), { m with toks := m.toks.set id (ver + 1) }) else none := by
 unfold mS at ha
 unfold kE
 split at ha
 ·rename_i e he
  split at ha
  ·rename_i k' b z hk hb hz
   simp only [Bool.and_eq_true, decide_eq_true_eq] at ha
   obtain ⟨⟨⟨⟨⟨h1, h2⟩, h3⟩, h4⟩, h5⟩, h6⟩ := ha
   subst h1
   have h6' : dB P t2 = some e := by
    split at h6
    ·rename_i e2 he2; rw [he2]; simpa using h6
    ·cases h6
   simp only [he, hk, hb, hz, hx, hy]
   rw [if_pos ⟨hl, h2, h3, h4, h5, h6'⟩]
   cases g <;> rfl
  ·cases ha
 ·cases ha
theorem dC {k : Nat} {g : Grow} {rows : List (List AV)} : tS k (.lst g k rows) = some (g, rows) := if_pos rfl
theorem aX7 {t t2 : TypeId} {k : Nat} (ha : mS P t t2 k = true) {y : AV} {g2 : Grow} {xs ys : List (List AV)} (hy : tS k y = some (g2, ys)) (hl : xs.length + ys.length ≤ lim) :
  kE P t t2 m (.lst .full k xs) y = some (.lst (.tok m.toks.length 0) k (xs ++ ys), m.tk [0]) := yS ha dC hy hl
/-- Lists written out. -/
theorem aP0 {t t2 : TypeId} {k : Nat} (ha : mS P t t2 k = true) : bG P t 0 [] = some (.lst .full k []) := by
 unfold mS at ha
 unfold bG
 split at ha
 ·rename_i e he
  split at ha
  ·rename_i k' b z hk hb hz
   simp only [Bool.and_eq_true, decide_eq_true_eq] at ha
   obtain ⟨⟨⟨⟨⟨h1, h2⟩, h3⟩, h4⟩, h5⟩, h6⟩ := ha
   subst h1
   simp [he, hk, hz, mI, h3]
  ·cases ha
 ·cases ha
theorem iZ {t t2 : TypeId} {k : Nat} (ha : mS P t t2 k = true) (hk16 : k ≤ 16777216) {a : AV} {row : List AV} (hr : aJm a = some row) (hl : row.length = k) : bG P t 1 [(0, a)] = some (.lst .full k [row]) := by
 unfold mS at ha
 unfold bG
 split at ha
 ·rename_i e he
  split at ha
  ·rename_i k' b z hk hb hz
   simp only [Bool.and_eq_true, decide_eq_true_eq] at ha
   obtain ⟨⟨⟨⟨⟨h1, h2⟩, h3⟩, h4⟩, h5⟩, h6⟩ := ha
   subst h1
   simp [he, hk, hz, mI, h3, hr, hl, hk16]
  ·cases ha
 ·cases ha

/-! ### places -/
theorem oF {t e : TypeId} {k : Nat} {kk : IntKind} {g : Grow} {rows : List (List AV)} {i : Nat} {row : List AV} (ht : dB P t = some e) (hna : mM P t = none) (hk : cA P e = some k) (hi : rows[i]? = some row) :
  cI P t (.lst g k rows) (.v (.int kk (i : Int))) = some (.eptr row) := by
 have hlt := (List.getElem?_eq_some_iff.1 hi).1
 unfold cI
 simp only [hna, ht, hk]
 rw [if_pos ⟨trivial, by omega, by omega⟩, Int.toNat_natCast, hi]
 rfl
theorem bPr {t : TypeId} (ht : oP P t = some false) {k : Nat} (hk : cA P t = some k) {c : AV} {cs : List AV} : aL P m t (.eptr (c :: cs)) = some c := by
 simp [aL, mG, ht, hk]
def cG (l : List Int) : List (List AV) := l.map fun b => [.v (.int .i64 b)]
theorem dN (l : List Int) : (cG l).length = l.length := List.length_map ..
theorem bK2 (l l2 : List Int) : cG l ++ cG l2 = cG (l ++ l2) := List.map_append.symm
theorem aHw {l : List Int} {i : Nat} (hi : i < l.length) : (cG l)[i]? = some [.v (.int .i64 (l.getD i 0))] := by
 simp [cG, List.getD, List.getElem?_eq_getElem hi]
def OkB (l : List Nat) : Prop := ∀ b ∈ l, b < 256
def OkI (l : List Int) : Prop := ∀ b ∈ l, -9223372036854775808 ≤ b ∧ b ≤ 9223372036854775807
theorem OkB.getD {l : List Nat} (h : OkB l) (i : Nat) : l.getD i 0 < 256 := by
 simp only [List.getD]
 cases hi : l[i]? with
 | none => decide
 | some b => exact h b (List.mem_of_getElem? hi)
theorem OkB.app {l l2 : List Nat} (h : OkB l) (h2 : OkB l2) : OkB (l ++ l2) := fun b hb => (List.mem_append.1 hb).elim (h b) (h2 b)
theorem OkB.take {l : List Nat} (h : OkB l) (i : Nat) : OkB (l.take i) := fun b hb => h b (List.mem_of_mem_take hb)
theorem OkB.drop {l : List Nat} (h : OkB l) (i : Nat) : OkB (l.drop i) := fun b hb => h b (List.mem_of_mem_drop hb)
theorem OkB.one {b : Nat} (h : b < 256) : OkB [b] := fun c hc => by simp at hc; omega
theorem OkB.nil : OkB [] := fun c hc => by simp at hc
theorem OkI.getD {l : List Int} (h : OkI l) (i : Nat) : -9223372036854775808 ≤ l.getD i 0 ∧ l.getD i 0 ≤ 9223372036854775807 := by
 simp only [List.getD]
 cases hi : l[i]? with
 | none => simp
 | some b => exact h b (List.mem_of_getElem? hi)
theorem OkI.app {l l2 : List Int} (h : OkI l) (h2 : OkI l2) : OkI (l ++ l2) := fun b hb => (List.mem_append.1 hb).elim (h b) (h2 b)
theorem OkI.nil : OkI [] := fun c hc => by simp at hc

/-! ### results -/
theorem dA {fn : Func} {t : Tmp} {g : Grow} {k : Nat} {rows : List (List AV)} {e : Env} {m' : Mem} (h : fn.results = #[.tmp t]) (hg : get e t = .lst g k rows) (hm : bI m m' = m) :
  cZ P false fn m (.lst .no k rows, m) .ret e m' := by
 show dL P false fn m e m' = _
 unfold dL
 rw [h]
 simp only [dP, hg, Option.bind_some, kJ, fP, pV, Option.map_some, hm]
theorem aDi {fn : Func} {t u : Tmp} {x y : AV} {e : Env} {m' : Mem} (h : fn.results = #[.tmp t, .tmp u]) (hx : fP m.vars.length m' (get e t) = some x) (hy : fP m.vars.length m' (get e u) = some y) (hm : bI m m' = m) :
  cZ P false fn m (.tup [x, y], m) .ret e m' := by
 show dL P false fn m e m' = _
 unfold dL
 rw [h]
 simp [dP, hx, hy, hm]
end
end
section
section
variable {P : Program} {m : Mem}
/-- The one list that grows: not yet, or by the one token. -/
def bP4 (m : Mem) (g : Grow) (m' : Mem) : Prop := (g = .full ∧ m' = m) ∨ ∃ v, g = .tok m.toks.length v ∧ m' = m.tk [v]
theorem bBr : bP4 m .full m := .inl ⟨rfl, rfl⟩
theorem aA8 {v : Nat} : bP4 m (.tok m.toks.length v) (m.tk [v]) := .inr ⟨v, rfl, rfl⟩
end
section
variable {P : Program} {call : CallF} {nt : Nat} {ops : Array Oper} {pu : Bool} {e : Env} {m : Mem} {K : Env → Mem → Prop}
theorem bT5 {l : List Oper} {K' : Env → Mem → Prop} (h : Ops P call nt ops pu l e m K') (hk : ∀ e m, K' e m → K e m) : Ops P call nt ops pu l e m K :=
 let ⟨e', m', h1, h2⟩ := h; ⟨e', m', h1, hk e' m' h2⟩
/-- Guarded by what was not carried out. -/
theorem aBe {o : Oper} {rest : List Oper} {d j g : Nat} {want : Bool} {a : Array Value} (hg : o.guard = some (j, want)) (hj : (ops[j]?).bind (·.dst) = some g) (hb : get e g = .v (.tuple a)) (hd : o.dst = some d) (hlt : d < nt)
  (h : Ops P call nt ops pu rest ((d, .v (.tuple #[])) :: e) m K) : Ops P call nt ops pu (o :: rest) e m K := by
 obtain ⟨e', m', h1, h2⟩ := h
 refine ⟨e', m', ?_, h2⟩
 have hw : wantedAV ops e o = some false := by unfold wantedAV; rw [hg]; simp only [hj, hb]
 have hp : ∀ a, putAV nt o.dst a e = some ((d, a) :: e) := fun a => by unfold putAV; rw [hd]; exact if_pos hlt
 unfold mW
 rw [hw]
 simp only [hp]
 exact h1
end
end
section
/-- Types of plain data. -/
def pA (P : Program) : Nat → TypeId → Bool
 | 0, _ => false
 | d + 1, t =>
  match P.underlying t with
  | some .bool => true
  | some (.int _) => true
  | some .string => true
  | some (.slice e) => pA P d e && decide (0 < P.cellsOf e)
  | some (.array _ e) => pA P d e
  | some (.struct fs) => fs.toList.all fun f => pA P d f.type
  | _ => false
/-- The cells of a value of such a type. -/
def dM (P : Program) : Nat → TypeId → List AV → Prop
 | 0, _, _ => False
 | d + 1, t, as =>
  match P.underlying t with
  | some .bool => ∃ b, as = [.v (.bool b)]
  | some (.int k) => ∃ n, as = [.v (.int k n)] ∧ k.min ≤ n ∧ n ≤ k.max
  | some .string => ∃ s, as = [.v (.string s)] ∧ s.size ≤ 9223372036854775807
  | some (.slice e) => ∃ rows, as = [.lst .no (P.cellsOf e) rows] ∧ rows.length ≤ 9223372036854775807 ∧ ∀ row ∈ rows, dM P d e row
  | some (.array n e) => ∃ parts : List (List AV), as = parts.flatten ∧ parts.length = n ∧ ∀ p ∈ parts, dM P d e p
  | some (.struct fs) => ∃ parts : List (List AV), as = parts.flatten ∧ parts.length = fs.toList.length ∧ ∀ (i : Nat) f p, fs.toList[i]? = some f → parts[i]? = some p → dM P d f.type p
  | _ => False
/-- An argument of such a type. -/
def qU (P : Program) (d : Nat) (t : TypeId) (a : AV) : Prop :=
 match P.underlying t with
 | some (.struct _) => ∃ as, a = .agg as ∧ dM P d t as
 | some (.array _ _) => ∃ as, a = .agg as ∧ dM P d t as
 | _ => dM P d t [a]
section
variable {H : Type} {enc : TypeId × Value → H} {P : Program} {w : World} {held : Bool}
def aGn (w : World) (a : AV) (u : Value) : Prop := Rep (aTl w) ⟨[], []⟩ w a u ∧ kD a = true ∧ one u = true
def mZ (w : World) : List AV → List Value → Prop
 | [], [] => True
 | a :: as, u :: us => aGn w a u ∧ mZ w as us
 | _, _ => False
theorem mZ.app : ∀ {as : List AV} {us : List Value} {bs : List AV} {vs : List Value}, mZ w as us → mZ w bs vs → mZ w (as ++ bs) (us ++ vs)
 | [], [], _, _, _, h2 => h2
 | a :: as, u :: us, _, _, h1, h2 => ⟨h1.1, mZ.app h1.2 h2⟩
 | [], _ :: _, _, _, h1, _ => h1.elim
 | _ :: _, [], _, _, h1, _ => h1.elim
theorem mZ.len : ∀ {as : List AV} {us : List Value}, mZ w as us → us.length = as.length
 | [], [], _ => rfl
 | a :: as, u :: us, h => by simp [mZ.len h.2]
 | [], _ :: _, h => h.elim
 | _ :: _, [], h => h.elim
theorem mZ.at : ∀ {as : List AV} {us : List Value}, mZ w as us → ∀ (i : Nat) a u, as[i]? = some a → us[i]? = some u → aGn w a u
 | [], [], _, i, a, u, h1, _ => by simp at h1
 | a :: as, u :: us, h, 0, a', u', h1, h2 => by simp at h1 h2; subst h1; subst h2; exact h.1
 | a :: as, u :: us, h, i + 1, a', u', h1, h2 => mZ.at h.2 i a' u' (by simpa using h1) (by simpa using h2)
 | [], _ :: _, h, _, _, _, _, _ => h.elim
 | _ :: _, [], h, _, _, _, _, _ => h.elim
theorem mZ.one {a : AV} {u : Value} (h : aGn w a u) : mZ w [a] [u] := ⟨h, trivial⟩
/-- Cells below the heap's end. -/
theorem bTf {a : Addr} {v : Value} (h : w.cell? a = some v) : a.block < w.heap.size := by
 unfold World.cell? at h
 split at h
 ·rename_i he
  exact (Array.getElem?_eq_some_iff.1 he).1
 ·cases h
theorem vZ (hl : laidOutB P = true) : ∀ (d : Nat) (t : TypeId), pA P d t = true → t < P.types.size →
  ∀ fuel cs x, DataW.trod enc P w 0 (fun _ => true) held fuel t cs = some x → cs.length = P.cellsOf t → ∃ as, dM P d t as ∧ mZ w as cs
 | 0, t, hp, _ => by simp [pA] at hp
 | d + 1, t, hp, ht => by
  intro fuel cs x h hlen
  have hp' := hp
  unfold pA at hp'
  unfold dM
  split at hp'
  ·rename_i hu
   obtain ⟨b, rfl, _⟩ := DataW.trod_bool hu h
   exact ⟨_, ⟨b, rfl⟩, mZ.one ⟨.v _, rfl, rfl⟩⟩
  ·rename_i k hu
   obtain ⟨n, rfl, _, hw⟩ := DataW.trod_int hu h
   simp only [Lit.wf, Bool.and_eq_true, decide_eq_true_eq] at hw
   exact ⟨_, ⟨n, rfl, hw⟩, mZ.one ⟨.v _, rfl, rfl⟩⟩
  ·rename_i hu
   obtain ⟨s, rfl, _, hw⟩ := DataW.trod_string hu h
   exact ⟨_, ⟨s, rfl, hw⟩, mZ.one ⟨.v _, rfl, rfl⟩⟩
  ·rename_i e hu
   simp only [Bool.and_eq_true, decide_eq_true_eq] at hp'
   obtain ⟨hpe, hpos⟩ := hp'
   have ih := vZ hl d e hpe (kid_slice hl ht hu)
   rcases Go.Deep.open_slice hu h with ⟨rfl, _⟩ | ⟨a, len, cap, m, n, D, Pl, rfl, _, hle, hcap, hm, _, hel⟩
   ·refine ⟨_, ⟨[], rfl, by simp, by simp⟩, mZ.one ⟨?_, rfl, rfl⟩⟩
    exact .lst .no _ [] none 0 (fun _ _ => undef) (Nat.le_refl _) (fun i row h => by simp at h) (fun _ => rfl) (fun ad h => by cases h) (fun ad i row j x h => by cases h) (fun i row j x h => by simp at h) trivial
   ·simp only [if_true] at hm
    subst hm
    have all : ∀ i, i < m → ∃ row : List AV, ∃ cs', w.cells? 0 (a.add (i * P.cellsOf e)) (P.cellsOf e) = some cs' ∧ dM P d e row ∧ mZ w row cs' := by
     intro i hi
     obtain ⟨cs', h1, h2⟩ := hel i hi
     have hcl : cs'.length = P.cellsOf e := by
      unfold World.cells? at h1
      split at h1
      ·simpa using mapM_some_length h1
      ·cases h1
     obtain ⟨row, h3, h4⟩ := ih n cs' _ h2 hcl
     exact ⟨row, cs', h1, h3, h4⟩
    obtain ⟨rf, hrf⟩ := Go.Deep.choose_lt all
    have cellAt : ∀ i, i < m → ∀ j, j < P.cellsOf e → ∃ v, w.cell? ((a.add (i * P.cellsOf e)).add j) = some v ∧ ∀ b, (rf i)[j]? = some b → aGn w b v := by
     intro i hi j hj
     obtain ⟨cs', h1, h2, h3⟩ := hrf i hi
     unfold World.cells? at h1
     rw [if_pos (Nat.zero_le _)] at h1
     have hl2 : cs'.length = P.cellsOf e := by simpa using mapM_some_length h1
     have hg := mapM_some_get h1 j j (by simp [hj])
     rw [List.getElem?_eq_getElem (by omega)] at hg
     exact ⟨_, hg, fun b hb => h3.at j b _ hb (List.getElem?_eq_getElem (by omega))⟩
    have hspot : 0 < m → a.spot = none := by
     intro h0
     obtain ⟨v, hv, _⟩ := cellAt 0 h0 0 hpos
     simpa [Addr.add] using World.cell?_spot hv
    have cellAt' : ∀ i, i < m → ∀ j, j < P.cellsOf e → ∃ v, w.cell? ⟨a.block, a.off + i * P.cellsOf e + j, none⟩ = some v ∧ ∀ b, (rf i)[j]? = some b → aGn w b v := by
     intro i hi j hj
     obtain ⟨v, hv, hr⟩ := cellAt i hi j hj
     rw [Go.Deep.add_add, eU (hspot (by omega)), ← Nat.add_assoc] at hv
     exact ⟨v, hv, hr⟩
    let rows : List (List AV) := (List.range len).map rf
    have hrl : rows.length = len := by simp [rows]
    have hrow : ∀ (i : Nat) row, rows[i]? = some row → i < len ∧ row = rf i := by
     intro i row hi
     simp only [rows, List.getElem?_map, Option.map_eq_some_iff] at hi
     obtain ⟨i', h1, h2⟩ := hi
     rw [List.getElem?_eq_some_iff] at h1
     obtain ⟨h3, h4⟩ := h1
     simp at h3 h4
     subst h4
     exact ⟨h3, h2.symm⟩
    have hlenr : ∀ i, i < m → (rf i).length = P.cellsOf e := by
     intro i hi
     obtain ⟨cs', h1, h2, h3⟩ := hrf i hi
     have hcl : cs'.length = P.cellsOf e := by
      unfold World.cells? at h1
      rw [if_pos (Nat.zero_le _)] at h1
      simpa using mapM_some_length h1
     rw [← hcl, h3.len]
    refine ⟨_, ⟨rows, rfl, by rw [hrl]; simp [maxLen] at hcap; omega, fun row hr => ?_⟩, mZ.one ⟨?_, rfl, rfl⟩⟩
    ·obtain ⟨i, hi, rfl⟩ := List.mem_map.1 hr
     exact (hrf i (by have := List.mem_range.1 hi; omega)).elim fun _ h => h.2.1
    ·rw [← hrl]
     refine .lst .no _ rows (some a) m (fun i j => (w.cell? ⟨a.block, a.off + i * P.cellsOf e + j, none⟩).getD undef) (by omega) (fun i row hi => ?_) (fun e => by cases e) (fun ad had h0 => by cases had; exact hspot h0) (fun ad i row j x had h1 h2 => ?_) (fun i row j x h1 h2 => ?_) trivial
     ·obtain ⟨h1, rfl⟩ := hrow i row hi
      refine ⟨hlenr i (by omega), ?_⟩
      rw [List.all_eq_true]
      intro b hb
      obtain ⟨j, hj⟩ := List.getElem?_of_mem hb
      have hjl : j < P.cellsOf e := by rw [← hlenr i (by omega)]; exact (List.getElem?_eq_some_iff.1 hj).1
      obtain ⟨v, _, hr⟩ := cellAt' i (by omega) j hjl
      exact (hr b hj).2.1
     ·cases had
      obtain ⟨h3, rfl⟩ := hrow i row h1
      have hjl : j < P.cellsOf e := by rw [← hlenr i (by omega)]; exact (List.getElem?_eq_some_iff.1 h2).1
      obtain ⟨v, hv, hr⟩ := cellAt' i (by omega) j hjl
      refine ⟨(by have := bTf hv; exact this), ?_, ?_⟩
      ·rw [hv]; rfl
      ·rw [hv]; exact (hr x h2).2.2
     ·obtain ⟨h3, rfl⟩ := hrow i row h1
      have hjl : j < P.cellsOf e := by rw [← hlenr i (by omega)]; exact (List.getElem?_eq_some_iff.1 h2).1
      obtain ⟨v, hv, hr⟩ := cellAt' i (by omega) j hjl
      rw [hv]
      exact (hr x h2).1
  ·rename_i n e hu
   obtain ⟨xs, m, _, _, _, hxs, hel⟩ := DataW.trod_array hu h
   obtain ⟨het, hcells⟩ := kid_array hl ht hu
   have ih := vZ hl d e hp' het
   have all : ∀ i, i < n → ∃ p : List AV, dM P d e p ∧ mZ w p ((cs.drop (i * P.cellsOf e)).take (P.cellsOf e)) := by
    intro i hi
    have h1 := hel i hi
    rw [List.getElem?_eq_getElem (by omega)] at h1
    refine ih m _ _ h1 ?_
    have : (i + 1) * P.cellsOf e ≤ n * P.cellsOf e := Nat.mul_le_mul_right _ hi
    rw [Nat.add_mul] at this
    simp
    omega
   obtain ⟨pf, hpf⟩ := Go.Deep.choose_lt all
   refine ⟨_, ⟨(List.range n).map pf, rfl, by simp, fun p hp => ?_⟩, ?_⟩
   ·obtain ⟨i, hi, rfl⟩ := List.mem_map.1 hp
    exact (hpf i (List.mem_range.1 hi)).1
   ·have go : ∀ k, k ≤ n → mZ w ((List.range k).map pf).flatten (cs.take (k * P.cellsOf e)) := by
     intro k
     induction k with
     | zero => intro _; simp [mZ]
     | succ k ih =>
      intro hk
      rw [List.range_succ, List.map_append, List.flatten_append, Nat.add_mul, Nat.one_mul, List.take_add]
      refine (ih (by omega)).app ?_
      simpa using (hpf k (by omega)).2
    have := go n (Nat.le_refl _)
    rwa [List.take_of_length_le (by omega)] at this
  ·rename_i fs hu
   obtain ⟨xs, m, _, _, _, hxs, hel⟩ := DataW.trod_struct hu h
   obtain ⟨hty, htot, hoff⟩ := kid_struct hl ht hu
   rw [List.all_eq_true] at hp'
   have all : ∀ i, i < fs.toList.length → ∃ p : List AV, ∀ f, fs.toList[i]? = some f → dM P d f.type p ∧ mZ w p ((cs.drop f.offset).take (P.cellsOf f.type)) := by
    intro i hi
    have hmem : fs.toList[i] ∈ fs.toList := List.getElem_mem hi
    have h1 := hel i fs.toList[i] (by simp at hi ⊢)
    have hix : i < xs.length := by rw [hxs]; simpa using hi
    rw [List.getElem?_eq_getElem hix] at h1
    have ho := hoff i _ (List.getElem?_eq_getElem hi)
    obtain ⟨p, h2, h3⟩ := vZ hl d _ (hp' _ hmem) (hty _ hmem) m _ _ h1 (by
     have hsum : ((fs.toList.take i).map fun f => P.cellsOf f.type).sum + P.cellsOf fs.toList[i].type ≤ (fs.toList.map fun f => P.cellsOf f.type).sum := by
      have e : fs.toList = fs.toList.take i ++ fs.toList[i] :: fs.toList.drop (i + 1) := by rw [← List.drop_eq_getElem_cons hi, List.take_append_drop]
      generalize fs.toList[i] = y at e ⊢
      generalize fs.toList.take i = l1 at e ⊢
      rw [e]
      simp
     rw [List.length_take, List.length_drop, ho]
     omega)
    exact ⟨p, fun f hf => by rw [List.getElem?_eq_getElem hi] at hf; cases hf; exact ⟨h2, h3⟩⟩
   obtain ⟨pf, hpf⟩ := Go.Deep.choose_lt all
   refine ⟨_, ⟨(List.range fs.toList.length).map pf, rfl, by simp, fun i f p hf hp => ?_⟩, ?_⟩
   ·have hi := (List.getElem?_eq_some_iff.1 hf).1
    simp only [List.getElem?_map, Option.map_eq_some_iff] at hp
    obtain ⟨i', h1, h2⟩ := hp
    rw [List.getElem?_eq_some_iff] at h1
    obtain ⟨h3, h4⟩ := h1
    simp at h4
    subst h4
    subst h2
    exact (hpf i hi f hf).1
   ·have go : ∀ k, k ≤ fs.toList.length → mZ w ((List.range k).map pf).flatten (cs.take ((fs.toList.take k).map fun f => P.cellsOf f.type).sum) := by
     intro k
     induction k with
     | zero => intro _; simp [mZ]
     | succ k ih =>
      intro hk
      have hi : k < fs.toList.length := hk
      have e1 : ((fs.toList.take (k + 1)).map fun f => P.cellsOf f.type).sum = ((fs.toList.take k).map fun f => P.cellsOf f.type).sum + P.cellsOf fs.toList[k].type := by
       rw [List.take_add_one, List.getElem?_eq_getElem hi]
       simp
      rw [List.range_succ, List.map_append, List.flatten_append, e1, List.take_add]
      refine (ih (by omega)).app ?_
      have := (hpf k hi _ (List.getElem?_eq_getElem hi)).2
      rw [hoff k _ (List.getElem?_eq_getElem hi)] at this
      simpa using this
    have := go fs.toList.length (Nat.le_refl _)
    rw [List.take_length, ← htot, ← hlen, List.take_length] at this
    exact this
  ·cases hp'
end
end
section
open Go Go.Proofs Go.ChangeShapes Go.WideShapes Go.ChangeAt Go.RowKit
set_option linter.unusedVariables false
set_option linter.unusedSimpArgs false
def TypedAll (P : Program) (d : Nat) : List TypeId → List AV → Prop
 | [], [] => True
 | t :: ts, a :: as => qU P d t a ∧ TypedAll P d ts as
 | _, _ => False
section
variable {H : Type} {enc : TypeId × Value → H} {P : Program} {W : World}
theorem bM6 (hl : laidOutB P = true) {d : Nat} {t : TypeId} (hp : pA P d t = true) (ht : t < P.types.size) {v : Value} {x : DataW H} {ps : List MemPlace} {base : Nat} (hv : Value.okWide P W .any base t v)
  (h : DataW.Trod enc P W 0 (fun _ => true) true t v x ps) : ∃ a, qU P d t a ∧ Rep (aTl W) ⟨[], []⟩ W a v := by
 obtain ⟨fuel, h⟩ := h
 have hrow := rowFine_of hl ht
 have agg : (∃ cs : Array Value, v = .agg cs ∧ cs.size = P.cellsOf t) → ∃ as, dM P d t as ∧ Rep (aTl W) ⟨[], []⟩ W (.agg as) v := by
  rintro ⟨cs, rfl, hsz⟩
  obtain ⟨as, h1, h2⟩ := vZ hl d t hp ht fuel _ _ h (by simpa [Value.cells] using hsz)
  refine ⟨as, h1, .agg as cs (by have := h2.len; simpa [Value.cells] using this) fun i a u e1 e2 => ?_⟩
  exact (h2.at i a u e1 (by simpa [Value.cells] using e2)).1
 have single : (v.cells.toList = [v] ∧ P.cellsOf t = 1) → ∃ a, dM P d t [a] ∧ Rep (aTl W) ⟨[], []⟩ W a v := by
  rintro ⟨hc, h1⟩
  rw [hc] at h
  obtain ⟨as, h2, h3⟩ := vZ hl d t hp ht fuel _ _ h (by simpa using h1.symm)
  obtain ⟨a, rfl⟩ := List.length_eq_one_iff.1 (h3.len.symm)
  exact ⟨a, h2, (h3.at 0 a v rfl rfl).1⟩
 have okc : ∀ {u : TypeDesc}, P.underlying t = some u → (∀ fs, u ≠ .struct fs) → (∀ n e, u ≠ .array n e) → Cell.okWide P W .any base t v := by
  intro u hu h1 h2
  unfold Value.okWide at hv
  rw [hu] at hv
  split at hv
  ·rename_i e; cases e; exact absurd rfl (h1 _)
  ·rename_i e; cases e; exact absurd rfl (h2 _ _)
  ·exact hv
 unfold qU
 cases d with
 | zero => simp [pA] at hp
 | succ d =>
  have hp' := hp
  unfold pA at hp'
  split at hp'
  ·rename_i hu
   have hc := okc hu (fun _ h => by cases h) (fun _ _ h => by cases h)
   rw [hu]
   refine single ⟨?_, ?_⟩
   ·unfold Cell.okWide Cell.ok at hc
    rw [hu] at hc
    cases v <;> first | rfl | (exfalso; simp at hc)
   ·simp [rowFine, isVar, ht, hu, kindOk] at hrow
    exact hrow
  ·rename_i k hu
   have hc := okc hu (fun _ h => by cases h) (fun _ _ h => by cases h)
   rw [hu]
   refine single ⟨?_, ?_⟩
   ·unfold Cell.okWide Cell.ok at hc
    rw [hu] at hc
    cases v <;> first | rfl | (exfalso; simp at hc)
   ·simp [rowFine, isVar, ht, hu, kindOk] at hrow
    exact hrow
  ·rename_i hu
   have hc := okc hu (fun _ h => by cases h) (fun _ _ h => by cases h)
   rw [hu]
   refine single ⟨?_, ?_⟩
   ·unfold Cell.okWide Cell.ok at hc
    rw [hu] at hc
    cases v <;> first | rfl | (exfalso; simp at hc)
   ·simp [rowFine, isVar, ht, hu, kindOk] at hrow
    exact hrow
  ·rename_i e hu
   have hc := okc hu (fun _ h => by cases h) (fun _ _ h => by cases h)
   rw [hu]
   refine single ⟨?_, ?_⟩
   ·unfold Cell.okWide Cell.ok at hc
    rw [hu] at hc
    cases v <;> first | rfl | (exfalso; simp at hc)
   ·simp [rowFine, isVar, ht, hu, kindOk] at hrow
    exact hrow.2
  ·rename_i n e hu
   rw [hu]
   obtain ⟨as, h1, h2⟩ := agg (by
    unfold Value.okWide at hv
    rw [hu] at hv
    obtain ⟨cs, h1, h2, _⟩ := hv
    exact ⟨cs, h1, h2⟩)
   exact ⟨.agg as, ⟨as, rfl, h1⟩, h2⟩
  ·rename_i fs hu
   rw [hu]
   obtain ⟨as, h1, h2⟩ := agg (by
    unfold Value.okWide at hv
    rw [hu] at hv
    obtain ⟨cs, h1, h2, _⟩ := hv
    exact ⟨cs, h1, h2⟩)
   exact ⟨.agg as, ⟨as, rfl, h1⟩, h2⟩
  ·cases hp'
theorem aR5 (hl : laidOutB P = true) {d base : Nat} : ∀ {ts : List TypeId} {vs : List Value} {ds : List (DataW H)} {ps : List MemPlace}, (∀ t ∈ ts, pA P d t = true ∧ t < P.types.size) →
  (∀ (j : Nat) t v, ts[j]? = some t → vs[j]? = some v → Value.okWide P W .any base t v) → DataW.TrodAll enc P W 0 (fun _ => true) true ts vs ds ps →
  ds.length = ts.length ∧ ∃ as, TypedAll P d ts as ∧ vs.length = as.length ∧ ∀ (i : Nat) a u, as[i]? = some a → vs[i]? = some u → Rep (aTl W) ⟨[], []⟩ W a u
 | [], vs, ds, ps, _, _, h => by
  obtain ⟨rfl, rfl, rfl⟩ := trodAll_nil h
  exact ⟨rfl, [], trivial, rfl, fun i a u h => by simp at h⟩
 | t :: ts, vs, ds, ps, ht, hok, h => by
  obtain ⟨v, vs', d0, ds', p0, q0, rfl, rfl, rfl, h0, h1⟩ := trodAll_cons h
  obtain ⟨hlen, as, ha, hn, hr⟩ := aR5 hl (fun t ht' => ht t (List.mem_cons_of_mem _ ht')) (fun j t v e1 e2 => hok (j + 1) t v (by simpa using e1) (by simpa using e2)) h1
  obtain ⟨hp, hlt⟩ := ht t (List.mem_cons_self ..)
  obtain ⟨a, ha0, hr0⟩ := bM6 hl hp hlt (hok 0 t v rfl rfl) h0
  refine ⟨by simp [hlen], a :: as, ⟨ha0, ha⟩, by simp [hn], fun i b u e1 e2 => ?_⟩
  cases i with
  | zero => simp at e1 e2; subst e1; subst e2; exact hr0
  | succ i => exact hr i b u (by simpa using e1) (by simpa using e2)
theorem aQw (hl : laidOutB P = true) {W' : World} (bel : Below W.heap.size W W') : ∀ {ts : List TypeId} {vs : List Value} {ds : List (DataW H)} {ps : List MemPlace}, (∀ t ∈ ts, P.readableRec t = true ∧ t < P.types.size) →
  DataW.TrodAll enc P W 0 (fun _ => true) true ts vs ds ps → (∀ z ∈ ps, z.block < W.heap.size) → DataW.TrodAll enc P W' 0 (fun b => decide (b < W.heap.size)) true ts vs ds ps
 | [], vs, ds, ps, _, h, _ => by
  obtain ⟨rfl, rfl, rfl⟩ := trodAll_nil h
  exact trodAll_mk0
 | t :: ts, vs, ds, ps, ht, h, hz => by
  obtain ⟨v, vs', d0, ds', p0, q0, rfl, rfl, rfl, h0, h1⟩ := trodAll_cons h
  obtain ⟨hr, hlt⟩ := ht t (List.mem_cons_self ..)
  exact trodAll_cons_mk (Below.trod hl hr hlt h0 bel fun z hz' => hz z (by simp [hz'])) (aQw hl bel (fun t ht' => ht t (List.mem_cons_of_mem _ ht')) h1 fun z hz' => hz z (by simp [hz']))
end
/-- The row of a law that has been walked. -/
theorem law_lifted {C : Checked} {os : Os} {f : FuncId} {fn : Func} {s : ChangeSpec} {conds : List PathCond} {H : Type} {enc : TypeId × Value → H} (own : ownKnob C.prog.godebug = none) (started : os.Started)
  (noInit : C.prog.inits.idxOf? f = none) (hfn : C.prog.funcs[f]? = some fn)
  (witness : ∃ (w : World) (tape : Tape) (i : Input), w.os = os ∧ (w.forCall tape i).Shaped C.prog ∧ i.vars = [] ∧ Input.okWide C.prog (w.forCall tape i) .any w.heap.size f i ∧
   s.pre6 enc C.prog fn conds false (w.forCall tape i).memory i.args ∧ Assume.holds {} C.prog (lone (Frame.enter C.prog f i.args .normal) [] (w.forCall tape i)))
  (hl : laidOutB C.prog = true) (hvars : s.vars = []) (ts : List TypeId) (hts : fn.params = ts.toArray) (d : Nat)
  (hty : ts.all (fun t => pA C.prog d t && decide (t < C.prog.types.size) && C.prog.readableRec t) = true) {tb : TypeId} (hres : fn.resultTypes = #[tb]) (hb : C.prog.underlying tb = some .bool)
  (hs : ∀ (ds : List (DataW H)), ds.length = ts.length → s.fn H ds = { results := [.lit (.bool true)], args := ds })
  {g : List AV → Mem → Option (AV × Mem)} (hf : aO C.prog f g) (hg : ∀ as, TypedAll C.prog d ts as → ∃ m', g as ⟨[], []⟩ = some (.v (.bool true), m')) :
  ReturnsInHanded {} C os f .any (s.pre6 enc C.prog fn conds false) (s.post enc C.prog fn false true false false) := by
 refine returnsInHanded_of_change_sized (C := C) own started noInit hfn witness ?_
 intro W base args ds gs before hval hW hcnd hsz0 _
 have hW' := hW
 obtain ⟨p, q, hA, hV, rfl, hfz, hnd⟩ := hW
 have hlt := hA.lt
 rw [hts] at hA hval
 rw [hvars] at hV
 obtain ⟨rfl, rfl⟩ := trodVars_none hV
 have hty' : ∀ t ∈ ts, (pA C.prog d t = true ∧ t < C.prog.types.size) ∧ C.prog.readableRec t = true := by
  intro t ht
  have := List.all_eq_true.1 hty t ht
  simpa [Bool.and_eq_true] using this
 obtain ⟨hlen, as, ha, hn, hr⟩ := aR5 hl (fun t ht => (hty' t ht).1) (fun j t v e1 e2 => hval j t v (by simpa using e1) (by simpa using e2)) hA
 obtain ⟨m', hg'⟩ := hg as ha
 refine (bKa (vals := args) hf hg' ⟨by simpa using hn, fun i a u h1 h2 => hr i a u h1 (by simpa using h2)⟩).mono fun e W' ⟨he, bel⟩ => ?_
 subst he
 refine ⟨_, rfl, ds, [], _, [], p, [], hW', ?_, ?_, ?_, bel.frame _, fun h => by cases h⟩
 ·rw [List.append_nil, hs ds hlen, hres]
  exact trodAll_mk1 (shut_bool hb _)
 ·rw [List.append_nil, hs ds hlen, hts]
  exact aQw hl bel (fun t ht => ⟨(hty' t ht).2, (hty' t ht).1.2⟩) hA fun z hz => hlt z hz
 ·rw [hvars, List.append_nil, hs ds hlen]
  exact rfl
end
end Go.Proofs.YtmockbddhhmmeaaGreat.Ev
