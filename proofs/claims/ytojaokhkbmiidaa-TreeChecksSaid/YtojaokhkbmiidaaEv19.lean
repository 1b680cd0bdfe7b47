/- A function's run: sound. All functions: sound. -/
import Derived.Test.YtojaokhkbmiidaaEv18
namespace Go.Proofs.Ytojaokhkbmiidaa.Ev
open Go
set_option linter.unusedVariables false
set_option linter.unusedSimpArgs false

/-- An abstract value's meaning stays while cells that nobody writes, variables and tokens stay. -/
theorem Rep.keep {φ φ' : Phi} {m m' : Mem} {w : World} (hi : ∀ b o, φ.im b o → φ'.im b o) (hv : ∀ r cs, m.var r = some cs → φ'.vb r = φ.vb r ∧ m'.var r = some cs)
    (ht : ∀ id v, m.toks[id]? = some v → ∃ v', m'.toks[id]? = some v' ∧ v ≤ v' ∧ (v' = v → φ'.tk id = φ.tk id)) {a : AV} {x : Value} (h : Rep φ m w a x) : Rep φ' m' w a x := by
  induction h with
  | junk x => exact .junk x
  | v x => exact .v x
  | agg cs arr hn _ ih => exact .agg cs arr hn ih
  | tup cs arr hn _ ih => exact .tup cs arr hn ih
  | lst g sz rows a c val hc hr ha hs hcell _ hg ih =>
    refine .lst g sz rows a c val hc hr ha hs (fun ad i row j x e1 e2 e3 => ?_) ih ?_
    · obtain ⟨h1, h2⟩ := hcell ad i row j x e1 e2 e3
      exact ⟨hi _ _ h1, h2⟩
    · cases g with
      | no => exact trivial
      | full => exact hg
      | here => exact hg
      | tok id ver =>
        obtain ⟨v, h1, h2, h3⟩ := hg
        obtain ⟨v', k1, k2, k3⟩ := ht id v h1
        refine ⟨v', k1, Nat.le_trans h2 k2, fun e => ?_⟩
        have := h3 (by omega)
        rw [k3 (by omega)]
        exact this
  | ptr r off cs h =>
    obtain ⟨e, h'⟩ := hv r cs h
    rw [← e]
    exact .ptr r off cs h'
  | eptr cs ad val hs hcell _ ih => exact .eptr cs ad val hs (fun j x e => ⟨hi _ _ (hcell j x e).1, (hcell j x e).2⟩) ih
  | vs r off sz n c cs h hb hn =>
    obtain ⟨e, h'⟩ := hv r cs h
    rw [← e]
    exact .vs r off sz n c cs h' hb hn
  | fn f first caps fv cv h1 h2 _ _ ih1 ih2 => exact .fn f first caps fv cv h1 h2 ih1 ih2

/-- A token more, which takes over what another one held. -/
def tokMem (m : Mem) (i0 v0 : Nat) : Mem := { m with toks := m.toks.set i0 v0 ++ [0] }
def tokPhi (φ : Phi) (m : Mem) (i0 : Nat) (q : Nat × Nat × Nat) : Phi := { φ with tk := fun i => if i = m.toks.length then q else if i = i0 then (0, 0, 0) else φ.tk i }
section
variable {φ : Phi} {m : Mem} {w : World} {i0 v0 b s e : Nat}
theorem tokMem_get {id : Nat} (h : id < m.toks.length) (hne : id ≠ i0) : (tokMem m i0 v0).toks[id]? = m.toks[id]? := by
  show (m.toks.set i0 v0 ++ [0])[id]? = _
  rw [List.getElem?_append_left (by simpa using h), List.getElem?_set_ne (fun e => hne e.symm)]
theorem tokMem_keep (hv0 : ∀ v, m.toks[i0]? = some v → v < v0) {a : AV} {x : Value} (h : Rep φ m w a x) : Rep (tokPhi φ m i0 (b, s, e)) (tokMem m i0 v0) w a x := by
  refine Rep.keep (φ := φ) (m := m) (φ' := tokPhi φ m i0 (b, s, e)) (m' := tokMem m i0 v0) (fun _ _ h => h) (fun r cs h => ⟨rfl, h⟩) (fun id v h => ?_) h
  have hid := (List.getElem?_eq_some_iff.mp h).1
  by_cases hi : id = i0
  · subst hi
    refine ⟨v0, ?_, Nat.le_of_lt (hv0 v h), fun e => ?_⟩
    · show (m.toks.set id v0 ++ [0])[id]? = _
      rw [List.getElem?_append_left (by simpa using hid), List.getElem?_set_self hid]
    · have := hv0 v h; omega
  · refine ⟨v, by rw [tokMem_get hid hi]; exact h, Nat.le_refl _, fun _ => ?_⟩
    show (if id = m.toks.length then _ else _) = _
    rw [if_neg (by omega), if_neg hi]
theorem tokMem_rm (hR : RM φ m w) (hv0 : ∀ v, m.toks[i0]? = some v → v < v0)
    (hb : s < e → (∃ arr T, w.heap[b]? = some (.cells arr T (0, 0)) ∧ e ≤ arr.size ∧ (∀ o, s ≤ o → o < e → ¬ φ.im b o) ∧ (∀ r cs, m.var r = some cs → φ.vb r ≠ b) ∧ (∀ (o : Nat) u, arr[o]? = some u → one u = true)) ∧
      ∀ id s' e', id < m.toks.length → id ≠ i0 → φ.tk id = (b, s', e') → ¬ s' < e') :
    RM (tokPhi φ m i0 (b, s, e)) (tokMem m i0 v0) w := by
  have hlen : (tokMem m i0 v0).toks.length = m.toks.length + 1 := by simp [tokMem]
  have new : ∀ id b' s' e', id < (tokMem m i0 v0).toks.length → (tokPhi φ m i0 (b, s, e)).tk id = (b', s', e') → s' < e' →
      (id = m.toks.length ∧ b' = b ∧ s' = s ∧ e' = e) ∨ (id < m.toks.length ∧ id ≠ i0 ∧ φ.tk id = (b', s', e')) := by
    intro id b' s' e' hid ht hlt
    simp only [tokPhi] at ht
    split at ht
    · rename_i h1
      simp only [Prod.mk.injEq] at ht
      exact .inl ⟨h1, ht.1.symm, ht.2.1.symm, ht.2.2.symm⟩
    · rename_i h1
      split at ht
      · simp only [Prod.mk.injEq] at ht; omega
      · rename_i h2
        exact .inr ⟨by omega, h2, ht⟩
  refine ⟨fun r cs h => ?_, hR.inj, hR.vim, fun id b' s' e' hid ht hlt => ?_, fun id id' b' s1 e1 s2 e2 h1 h2 t1 t2 l1 l2 => ?_, hR.imlt⟩
  · obtain ⟨arr, T, g1, g2, g3⟩ := hR.var r cs h
    exact ⟨arr, T, g1, ⟨g2.1, fun i a u e1 e2 => tokMem_keep hv0 (g2.2 i a u e1 e2)⟩, g3⟩
  · rcases new id b' s' e' hid ht hlt with ⟨_, rfl, rfl, rfl⟩ | ⟨h1, h2, h3⟩
    · exact (hb hlt).1
    · exact hR.tok id b' s' e' h1 h3 hlt
  · rcases new id b' s1 e1 h1 t1 l1 with ⟨i1, rfl, rfl, rfl⟩ | ⟨i1, i2, i3⟩
    · rcases new id' b' s2 e2 h2 t2 l2 with ⟨j1, _⟩ | ⟨j1, j2, j3⟩
      · rw [i1, j1]
      · exact absurd l2 ((hb l1).2 id' s2 e2 j1 j2 j3)
    · rcases new id' b' s2 e2 h2 t2 l2 with ⟨j1, rfl, rfl, rfl⟩ | ⟨j1, j2, j3⟩
      · exact absurd l1 ((hb l2).2 id s1 e1 i1 i2 i3)
      · exact hR.tinj id id' b' s1 e1 s2 e2 i1 j1 i3 j3 l1 l2
theorem tokMem_ext {φ₀ : Phi} {m₀ : Mem} {w₀ : World} (hX : Ext φ₀ m₀ w₀ φ m w) (hi0 : m₀.toks.length ≤ i0) (hb : s < e → Own φ₀ m₀ b ∨ w₀.heap.size ≤ b) : Ext φ₀ m₀ w₀ (tokPhi φ m i0 (b, s, e)) (tokMem m i0 v0) w := by
  have hlen : (tokMem m i0 v0).toks.length = m.toks.length + 1 := by simp [tokMem]
  refine ⟨hX.os, hX.tape, hX.output, hX.size, hX.im, hX.vb, fun id v h => ?_, hX.blk, fun b' hb' => ?_⟩
  · obtain ⟨v', h1, h2, h3⟩ := hX.tk id v h
    have hid := (List.getElem?_eq_some_iff.mp h1).1
    have hid0 := (List.getElem?_eq_some_iff.mp h).1
    refine ⟨v', by rw [tokMem_get hid (by omega)]; exact h1, h2, fun e => ?_⟩
    rw [← h3 e]
    show (if id = m.toks.length then _ else _) = _
    rw [if_neg (by omega), if_neg (by omega)]
  · rcases hb' with ⟨r, cs, hv, he⟩ | ⟨id, s', e', hid, ht, hlt⟩
    · exact hX.own b' (.inl ⟨r, cs, hv, he⟩)
    · simp only [tokPhi] at ht
      split at ht
      · simp only [Prod.mk.injEq] at ht
        obtain ⟨rfl, rfl, rfl⟩ := ht
        exact hb hlt
      · split at ht
        · simp only [Prod.mk.injEq] at ht; omega
        · exact hX.own b' (.inr ⟨id, s', e', by omega, ht, hlt⟩)
end

section
variable {P : Program} {φ₀ φ : Phi} {m₀ m : Mem} {w₀ w : World}

def rangeOf (ad : Option Addr) (s e : Nat) : Nat × Nat × Nat :=
  match ad with
  | none => (0, 0, 0)
  | some ad => (ad.block, ad.off + s, ad.off + e)
/-- A list that is handed on with its growth. -/
theorem grow_sound (hR₀ : RM φ₀ m₀ w₀) (hR : RM φ m w) (hX : Ext φ₀ m₀ w₀ φ m w) {gr : Bool} {a r : AV} {m' : Mem} {x : Value} (h : Rep φ m w a x) (hb : growRes gr m₀ m a = some (r, m')) :
    ∃ φ', RM φ' m' w ∧ Ext φ₀ m₀ w₀ φ' m' w ∧ Rep φ' m' w r x := by
  obtain ⟨f1, f2, f3, f4, f5, f6⟩ := finMem_spec m₀ m
  have f7 := f5 (ext_len hX)
  have hRF := fin_rm hR₀ hR hX
  have hXF := fin_ext hX
  have listF : ∀ {g : Grow} {sz : Nat} {rows : List (List AV)}, Rep φ m w (.lst g sz rows) x → Rep (phiF φ m m₀.vars.length) (finMem m₀ m) w (.lst .no sz rows) x := fun hh => resCell_sound (b := .lst .no _ _) hh rfl
  unfold growRes at hb
  split at hb
  · rename_i sz rows
    simp only [Option.some.injEq, Prod.mk.injEq] at hb
    obtain ⟨rfl, rfl⟩ := hb
    have hF := listF h
    have eq : ({ finMem m₀ m with toks := (finMem m₀ m).toks ++ [0] } : Mem) = tokMem (finMem m₀ m) (finMem m₀ m).toks.length 0 := by
      unfold tokMem
      rw [List.set_eq_of_length_le (Nat.le_refl _)]
    have hv0 : ∀ v, (finMem m₀ m).toks[(finMem m₀ m).toks.length]? = some v → v < 0 := fun v hv => by simp at hv
    rw [eq]
    cases h with
    | lst _ _ _ ad c val hc hr ha hs hcell hrep hg =>
      have hnc : rows.length = c := hg
      generalize hq : rangeOf ad (rows.length * sz) (c * sz) = q
      have hq2 : ¬ q.2.1 < q.2.2 := by
        rw [← hq, hnc]
        cases ad <;> simp [rangeOf]
      refine ⟨tokPhi (phiF φ m m₀.vars.length) (finMem m₀ m) (finMem m₀ m).toks.length (q.1, q.2.1, q.2.2), tokMem_rm hRF hv0 fun hlt => absurd hlt hq2, tokMem_ext hXF f7 fun hlt => absurd hlt hq2, ?_⟩
      have hK := tokMem_keep (b := q.1) (s := q.2.1) (e := q.2.2) hv0 hF
      generalize hxx : Value.slice ad rows.length c = xx at hK hF
      cases hK with
      | lst _ _ _ ad' c' val' hc' hr' ha' hs' hcell' hrep' hg' =>
        cases hxx
        refine .lst _ sz rows ad c val' hc' hr' ha' hs' hcell' hrep' ⟨0, by simp [tokMem], Nat.le_refl _, fun _ => ?_⟩
        cases ad with
        | none => exact hnc
        | some ad =>
          simp only [tokPhi, if_true]
          rw [← hq]
          rfl
  · rename_i id ver sz rows
    split at hb
    · rename_i hc
      obtain ⟨hid, hk⟩ := hc
      simp only [Option.some.injEq, Prod.mk.injEq] at hb
      obtain ⟨rfl, rfl⟩ := hb
      have hF := listF h
      have hidl := (List.getElem?_eq_some_iff.mp hid).1
      have hv0 : ∀ v, (finMem m₀ m).toks[id]? = some v → v < ver + 1 := fun v hv => by
        have h1 := (List.getElem?_eq_some_iff.mp hv).1
        rw [f3 id h1, hid] at hv
        simp only [Option.some.injEq] at hv
        omega
      rw [show ({ finMem m₀ m with toks := (finMem m₀ m).toks.set id (ver + 1) ++ [0] } : Mem) = tokMem (finMem m₀ m) id (ver + 1) from rfl]
      cases h with
      | lst _ _ _ ad c val hc hr ha hs hcell hrep hg =>
        obtain ⟨v, h1, h2, h3⟩ := hg
        rw [hid] at h1
        simp only [Option.some.injEq] at h1
        have h3 := h3 h1.symm
        rcases hq : φ.tk id with ⟨b, s, e⟩
        have hblk := hR.tok id b s e hidl hq
        refine ⟨tokPhi (phiF φ m m₀.vars.length) (finMem m₀ m) id (b, s, e), tokMem_rm hRF hv0 fun hlt => ⟨?_, fun id' s' e' g1 g2 g3 g4 => ?_⟩, tokMem_ext hXF hk fun hlt => ?_, ?_⟩
        · obtain ⟨arr, T, k1, k2, k3, k4, k5⟩ := hblk hlt
          refine ⟨arr, T, k1, k2, fun o o1 o2 hi => ?_, fun r cs hv => k4 r cs (f2 r cs hv).2, k5⟩
          rcases hi with hi | ⟨r', cs', _, i3, i4, _⟩
          · exact k3 o o1 o2 hi
          · exact k4 r' cs' i3 i4.symm
        · exact g2 (hR.tinj id' id b s' e' s e (by omega) hidl g3 hq g4 hlt)
        · exact hX.own b (.inr ⟨id, s, e, hidl, hq, hlt⟩)
        · have hK := tokMem_keep (b := b) (s := s) (e := e) hv0 hF
          generalize hxx : Value.slice ad rows.length c = xx at hK hF
          cases hK with
          | lst _ _ _ ad' c' val' hc' hr' ha' hs' hcell' hrep' hg' =>
            cases hxx
            refine .lst _ sz rows ad c val' hc' hr' ha' hs' hcell' hrep' ⟨0, by simp [tokMem], Nat.le_refl _, fun _ => ?_⟩
            cases ad with
            | none => exact h3
            | some ad =>
              simp only [tokPhi, if_true]
              rw [← hq]
              exact h3
    · cases hb
  · cases hb
  · simp only [Option.map_eq_some_iff, Prod.mk.injEq] at hb
    obtain ⟨r', hr', rfl, rfl⟩ := hb
    exact ⟨_, hRF, hXF, resAV_sound hR h hr'⟩

/-- A result variable's value. -/
def resGo (tmps : Array Value) : ResultVar → Sem Value
  | .tmp t => pure (tmps.getD t undef)
  | .cell a t => do loadVar t (← asAddr (tmps.getD a undef))
theorem result_sound (hR : RM φ m w) {e : Env} {tmps : Array Value} (hE : EnvRep φ m w e tmps) {r : ResultVar} {a : AV} (h : evResult P e m r = some a) :
    ∃ x, (resGo tmps r).run P w = .ok x w ∧ Rep φ m w a x := by
  cases r with
  | tmp t =>
    simp only [evResult, Option.some.injEq] at h
    subst h
    exact ⟨_, rfl, hE t⟩
  | cell p t =>
    simp only [evResult] at h
    obtain ⟨x, h1, h2⟩ := load_sound (P := P) hR (hE p) h
    refine ⟨x, ?_, h2⟩
    generalize hv : tmps.getD p undef = pv at h1
    simp only [resGo, hv]
    cases pv with
    | pointer ad =>
      cases ad with
      | none => simp [Instr.loadAt, Instr.sureAddr] at h1
      | some ad => simpa [Instr.loadAt, Instr.sureAddr, asAddr] using h1
    | _ => simp [Instr.loadAt, Instr.sureAddr] at h1

theorem results_eq (fn : Func) (tmps : Array Value) : results fn tmps = (do
    let vs ← fn.results.mapM (resGo tmps)
    pure (if h : vs.size = 1 then vs[0] else .tuple vs)) := by
  unfold results
  congr 1
theorem ret_sound (hR₀ : RM φ₀ m₀ w₀) {gr : Bool} {fn : Func} {nt : Nat} {e : Env} {a : Act} (hs : St φ₀ m₀ w₀ nt e m a w) {r : AV} {m' : Mem} (h : evRet P gr fn m₀ e m = some (r, m')) :
    ∃ x φ', (results fn a.tmps).run P w = .ok x w ∧ RM φ' m' w ∧ Ext φ₀ m₀ w₀ φ' m' w ∧ Rep φ' m' w r x := by
  obtain ⟨φ, hR, hX, hE, _, _⟩ := hs
  let val : ResultVar → Value := fun rv => match (resGo a.tmps rv).run P w with
    | .ok x _ => x
    | _ => undef
  have hval : ∀ rv b, evResult P e m rv = some b → (resGo a.tmps rv).run P w = .ok (val rv) w ∧ Rep φ m w b (val rv) := by
    intro rv b hb
    obtain ⟨x, h1, h2⟩ := result_sound hR hE hb
    have : val rv = x := by simp [val, h1]
    rw [this]
    exact ⟨h1, h2⟩
  have hrun : (∀ rv ∈ fn.results.toList, (resGo a.tmps rv).run P w = .ok (val rv) w) → (results fn a.tmps).run P w = .ok (if h : (fn.results.map val).size = 1 then (fn.results.map val)[0] else .tuple (fn.results.map val)) w := by
    intro hall
    have h1 := mapM_run (P := P) (w := w) (g := resGo a.tmps) (r := val) hall
    have h2 : (fn.results.mapM (resGo a.tmps)).run P w = .ok (fn.results.map val) w := by
      rw [Array.mapM_eq_mapM_toList, Sem.run_map, h1]
      show Result.ok (fn.results.toList.map val).toArray w = _
      congr 1
      apply Array.ext'
      simp
    rw [results_eq]
    simp only [Sem.run_bind, h2, Result.andThen_ok, Sem.run_pure]
  unfold evRet at h
  split at h
  · rename_i rv hrv
    rw [Option.bind_eq_some_iff] at h
    obtain ⟨b, hb, hg⟩ := h
    obtain ⟨h1, h2⟩ := hval rv b hb
    obtain ⟨φ', g1, g2, g3⟩ := grow_sound hR₀ hR hX h2 hg
    refine ⟨val rv, φ', ?_, g1, g2, g3⟩
    rw [hrun (by rw [hrv]; simpa using h1)]
    have e1 : fn.results = #[rv] := by apply Array.ext'; simpa using hrv
    simp [e1]
  · rename_i rs hrs
    simp only [Option.map_eq_some_iff, Prod.mk.injEq, Option.bind_eq_some_iff] at h
    obtain ⟨vs, ⟨us, hus, hvs⟩, rfl, rfl⟩ := h
    obtain ⟨l1, s1⟩ := mapM_spec hus
    obtain ⟨l2, s2⟩ := mapM_spec hvs
    have hne : ¬ (fn.results.map val).size = 1 := by
      intro h1
      have h2 : fn.results.toList.length = 1 := by simpa using h1
      obtain ⟨q, hq⟩ := List.length_eq_one_iff.mp h2
      exact hrs q hq
    refine ⟨.tuple (fn.results.map val), _, ?_, fin_rm hR₀ hR hX, fin_ext hX, ?_⟩
    · rw [hrun fun rv hrv => ?_, dif_neg hne]
      obtain ⟨i, hi⟩ := List.getElem?_of_mem hrv
      have hil : i < us.length := by rw [l1]; exact (List.getElem?_eq_some_iff.mp hi).1
      obtain ⟨rv', h1, h2⟩ := s1 i _ (List.getElem?_eq_getElem hil)
      rw [hi] at h1
      cases h1
      exact (hval rv _ h2).1
    · refine .tup vs _ (by simp [l2, l1]) fun i b u h1 h2 => ?_
      obtain ⟨c, hc, hcb⟩ := s2 i b h1
      obtain ⟨rv, hrv, hrc⟩ := s1 i c hc
      simp only [Array.getElem?_map, Option.map_eq_some_iff] at h2
      obtain ⟨rv', h3, rfl⟩ := h2
      have : fn.results.toList[i]? = some rv' := by simpa using h3
      rw [this] at hrv
      cases hrv
      exact resAV_sound hR (hval rv c hrc).2 hcb
end

/-! ### all functions -/
theorem entry_rep {φ : Phi} {m : Mem} {w : World} {args : List AV} {vals : Array Value} (h : Reps φ m w args vals) (n : Nat) : EnvRep φ m w (entry args) (vals ++ Array.replicate n undef) := by
  have go : ∀ (l : List AV) (k : Nat) t, get ((List.range' k l.length).zip l) t = if k ≤ t then (l[t - k]?).getD .junk else .junk := by
    intro l
    induction l with
    | nil => intro k t; simp [get]
    | cons a l ih =>
      intro k t
      simp only [List.length_cons, List.range'_succ, List.zip_cons_cons, get, ih]
      by_cases e : k = t
      · subst e; simp
      · by_cases h1 : k ≤ t
        · have h2 : t - k = t - (k + 1) + 1 := by omega
          rw [if_neg e, if_pos (by omega), if_pos h1, h2]
          rfl
        · rw [if_neg e, if_neg (by omega), if_neg h1]
  intro t
  have h1 : get (entry args) t = (args[t]?).getD .junk := by
    unfold entry
    rw [List.range_eq_range', go, if_pos (Nat.zero_le _), Nat.sub_zero]
  rw [h1]
  cases ha : args[t]? with
  | none => exact .junk _
  | some a =>
    have hlt : t < vals.size := by rw [h.1]; exact (List.getElem?_eq_some_iff.mp ha).1
    have e : (vals ++ Array.replicate n undef).getD t undef = vals[t] := by
      rw [Array.getD_eq_getD_getElem?, Array.getElem?_append_left hlt, Array.getElem?_eq_getElem hlt]; rfl
    rw [e]
    exact h.2 t a _ ha (Array.getElem?_eq_getElem hlt)

/-- What one function comes to is so. -/
def FunOk (P : Program) (f : FuncId) (g : List AV → Mem → Option (AV × Mem)) : Prop :=
  ∀ args m r m', g args m = some (r, m') →
    (∃ fn, P.funcs[f]? = some fn ∧ fn.body.isNone = false ∧ (fn.name == "runtime.NumGoroutine") = false) ∧
    ∀ φ w vals, RM φ m w → Reps φ m w args vals →
      Calls P f vals w fun e w' => ∃ x φ', e = .returned x ∧ RM φ' m' w' ∧ Ext φ m w φ' m' w' ∧ Rep φ' m' w' r x
theorem body_ok {P : Program} (hm : P.follows .mixedOrders = true) {C : Ctx} {call : CallF} (hC : CallOk P call) (n : Nat) {f : FuncId} {fn : Func} {c : Code} (hf : P.funcs[f]? = some fn) (hb : fn.body = some c) :
    FunOk P f (evBody P C call n f fn c) := by
  intro args m r m' h
  unfold evBody at h
  split at h
  · rename_i hc
    refine ⟨⟨fn, hf, by rw [hb]; rfl, hc.2⟩, fun φ w vals hR hA => ?_⟩
    have hst : St φ m w fn.ntmps (entry args) m { tmps := vals ++ Array.replicate (fn.ntmps - vals.size) undef, defers := [] } w :=
      ⟨φ, hR, Ext.refl .., entry_rep hA _, by simp; omega, rfl⟩
    have fin : ∀ {e : Env} {m1 : Mem} {a : Act} {w' : World}, evRet P (C.gr f) fn m e m1 = some (r, m') → St φ m w fn.ntmps e m1 a w' →
        a.defers = [] ∧ ∃ v, (results fn a.tmps).run P w' = .ok v w' ∧ ∃ x φ', Ending.returned v = .returned x ∧ RM φ' m' w' ∧ Ext φ m w φ' m' w' ∧ Rep φ' m' w' r x := by
      intro e m1 a w' hret hs
      obtain ⟨x, φ', h1, h2, h3, h4⟩ := ret_sound hR hs hret
      obtain ⟨_, _, _, _, _, hd⟩ := hs
      exact ⟨hd, x, h1, x, φ', rfl, h2, h3, h4⟩
    split at h
    · rename_i e m1 h1
      refine calls_of_wp hf hb (wp_mono (code_sound hm hC _ n c _ _ _ h1 _ _ hst) fun x a w' hp => ?_)
      obtain ⟨rfl, hs⟩ := hp
      exact fin h hs
    · rename_i e m1 h1
      refine calls_of_wp hf hb (wp_mono (code_sound hm hC _ n c _ _ _ h1 _ _ hst) fun x a w' hp => ?_)
      obtain ⟨rfl, hs⟩ := hp
      exact fin h hs
    · cases h
  · cases h
theorem run_ok {P : Program} (hm : P.follows .mixedOrders = true) {C : Ctx} (hx : ∀ f g, C.ext f = some g → FunOk P f g) : ∀ n, CallOk P (run P C n)
  | 0 => fun f args m r m' h => by cases h
  | n + 1 => fun f args m r m' h => by
    unfold run at h
    split at h
    · rename_i g hg
      exact hx f g hg args m r m' h
    · split at h
      · rename_i fn hfn
        split at h
        · rename_i c hc
          exact body_ok hm (run_ok hm hx n) n hfn hc args m r m' h
        · cases h
      · cases h
end Go.Proofs.Ytojaokhkbmiidaa.Ev
