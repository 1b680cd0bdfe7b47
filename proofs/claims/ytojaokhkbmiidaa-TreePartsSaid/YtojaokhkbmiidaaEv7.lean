/- How the world and the abstract memory go on together: a draw, a new variable, a new row, a row that grows in place, a store. -/
import Derived.Test.YtojaokhkbmiidaaEv6
import Derived.Laws.World
import Derived.Laws.Tables
import Derived.Laws.Rows
namespace Go.Proofs.Ytojaokhkbmiidaa.Ev
open Go
set_option linter.unusedVariables false
set_option linter.unusedSimpArgs false
section
variable {P : Program} {φ : Phi} {m : Mem} {w : World}

theorem cell_of_heap {w w' : World} {b : Nat} (h : w'.heap[b]? = w.heap[b]?) (o : Nat) : w'.cell? ⟨b, o, none⟩ = w.cell? ⟨b, o, none⟩ := by
  simp [World.cell?, h]

theorem alloc_size (w : World) (o : Obj) : (w.alloc o).heap.size = w.heap.size + 1 := Array.size_push ..

/-! ### a draw -/
theorem drew_ext (φ : Phi) (m : Mem) (w : World) : Ext φ m w φ m { w with drawn := w.drawn + 1 } :=
  ⟨rfl, rfl, rfl, Nat.le_refl _, fun _ _ h => ⟨h, rfl⟩, fun _ cs h => ⟨rfl, cs, h, rfl⟩, fun _ v h => ⟨v, h, Nat.le_refl _, fun _ => rfl⟩, fun _ _ _ => rfl, fun _ h => .inl h⟩
theorem drew_rm (hR : RM φ m w) : RM φ m { w with drawn := w.drawn + 1 } where
  var r cs h := by
    obtain ⟨arr, T, h1, h2, h3⟩ := hR.var r cs h
    exact ⟨arr, T, h1, h2.mono (drew_ext φ m w), h3⟩
  inj := hR.inj
  vim := hR.vim
  tok := hR.tok
  tinj := hR.tinj
  imlt := hR.imlt

/-! ### a new variable -/
theorem newVar_spec {p : Nat} {cs : List AV} {m' : Mem} (h : newVar m p cs = some m') :
    cs.all (refLe p) = true ∧ m.var p = none ∧ m'.toks = m.toks ∧ (∀ r, m'.var r = if r = p then some cs else m.var r) ∧ m'.vars.length = max m.vars.length (p + 1) := by
  unfold newVar at h
  split at h
  · rename_i hc
    split at h
    · rename_i hp
      simp only [Option.some.injEq] at h
      subst h
      refine ⟨hc, by simp [Mem.var, hp], rfl, fun r => ?_, by simp; omega⟩
      simp only [Mem.var, List.getElem?_append, hp]
      by_cases hr : r = m.vars.length
      · subst hr; simp
      · by_cases hlt : r < m.vars.length
        · simp [hr, hlt]
        · have h2 : r - m.vars.length ≠ 0 := by omega
          obtain ⟨k, hk⟩ : ∃ k, r - m.vars.length = k + 1 := ⟨r - m.vars.length - 1, by omega⟩
          simp [hr, hlt, hk, List.getElem?_eq_none (Nat.le_of_not_lt hlt)]
    · split at h
      · rename_i hv
        simp only [Option.some.injEq] at h
        subst h
        have hlt : p < m.vars.length := (List.getElem?_eq_some_iff.1 hv).1
        refine ⟨hc, by simp [Mem.var, hv], rfl, fun r => ?_, by simp; omega⟩
        simp only [Mem.var]
        by_cases hr : r = p
        · subst hr; simp [hlt]
        · simp [hr, List.getElem?_set_ne (Ne.symm hr)]
      · cases h
  · cases h
theorem newVar_sound (hR : RM φ m w) {p : Nat} {cs : List AV} {m' : Mem} (h : newVar m p cs = some m') {arr : Array Value} (hr : Reps φ m w cs arr) (hok : cs.all okCell = true) (T : TypeId) :
    ∃ φ', RM φ' m' (w.alloc (.cells arr T)) ∧ Ext φ m w φ' m' (w.alloc (.cells arr T)) ∧ φ'.vb p = w.heap.size ∧ m'.var p = some cs := by
  obtain ⟨hle, hnone, htoks, hvar, _⟩ := newVar_spec h
  have hp : m'.var p = some cs := by rw [hvar, if_pos rfl]
  have hold : ∀ r cs', m.var r = some cs' → r ≠ p ∧ m'.var r = some cs' := fun r cs' hv => by
    have : r ≠ p := fun e => by subst e; rw [hnone] at hv; cases hv
    exact ⟨this, by rw [hvar, if_neg this]; exact hv⟩
  have hblk : ∀ b, b < w.heap.size → (w.alloc (.cells arr T)).heap[b]? = w.heap[b]? := fun b hb => heap_alloc_old w _ b hb
  have lt_of : ∀ b o, w.heap[b]? = some o → b < w.heap.size := fun b o h => (Array.getElem?_eq_some_iff.1 h).1
  let φ' : Phi := { φ with vb := fun r => if r = p then w.heap.size else φ.vb r }
  have hext : Ext φ m w φ' m' (w.alloc (.cells arr T)) := {
    os := rfl, tape := rfl, output := rfl, size := by rw [alloc_size]; omega
    im := fun b o hi => ⟨hi, cell_of_heap (hblk b (hR.imlt b o hi)) o⟩
    vb := fun r cs' hv => ⟨by show (if r = p then _ else _) = _; rw [if_neg (hold r cs' hv).1], cs', (hold r cs' hv).2, rfl⟩
    tk := fun id v hv => ⟨v, by rw [htoks]; exact hv, Nat.le_refl _, fun _ => rfl⟩
    blk := fun b hb _ => hblk b hb
    own := fun b hb => by
      rcases hb with ⟨r, cs', hv, e⟩ | ⟨id, s, e', hlt, htk, hse⟩
      · rw [hvar] at hv
        split at hv
        · rename_i hrp
          right
          have : φ'.vb r = w.heap.size := if_pos hrp
          omega
        · rename_i hrp
          exact .inl (.inl ⟨r, cs', hv, by rw [← e]; exact (if_neg hrp).symm⟩)
      · exact .inl (.inr ⟨id, s, e', by rw [htoks] at hlt; exact hlt, htk, hse⟩) }
  have hvbp : φ'.vb p = w.heap.size := if_pos rfl
  have hvbo : ∀ r, r ≠ p → φ'.vb r = φ.vb r := fun r hrp => if_neg hrp
  refine ⟨φ', ?_, hext, hvbp, hp⟩
  exact {
    var := fun r cs' hv => by
      rw [hvar] at hv
      split at hv
      · rename_i hrp
        subst hrp
        simp only [Option.some.injEq] at hv
        subst hv
        exact ⟨arr, T, by rw [hvbp]; exact heap_alloc_new w _, hr.mono hext, hok, hle⟩
      · rename_i hrp
        obtain ⟨arr', T', h1, h2, h3⟩ := hR.var r cs' hv
        exact ⟨arr', T', by rw [hvbo r hrp, hblk _ (lt_of _ _ h1)]; exact h1, h2.mono hext, h3⟩
    inj := fun r r' cs1 cs2 h1 h2 e => by
      rw [hvar] at h1 h2
      split at h1 <;> split at h2
      · omega
      · rename_i e1 e2
        obtain ⟨_, _, hb, _⟩ := hR.var r' cs2 h2
        have := lt_of _ _ hb
        rw [e1, hvbp, hvbo r' e2] at e
        omega
      · rename_i e1 e2
        obtain ⟨_, _, hb, _⟩ := hR.var r cs1 h1
        have := lt_of _ _ hb
        rw [e2, hvbp, hvbo r e1] at e
        omega
      · rename_i e1 e2
        rw [hvbo r e1, hvbo r' e2] at e
        exact hR.inj r r' cs1 cs2 h1 h2 e
    vim := fun r cs' o hv => by
      rw [hvar] at hv
      split at hv
      · rename_i hrp
        intro hi
        have := hR.imlt _ _ hi
        rw [hrp, hvbp] at this
        omega
      · rename_i hrp
        rw [hvbo r hrp]
        exact hR.vim r cs' o hv
    tok := fun id b s e hlt htk hse => by
      rw [htoks] at hlt
      obtain ⟨arr', T', h1, h2, h3, h4, h5⟩ := hR.tok id b s e hlt htk hse
      refine ⟨arr', T', by rw [hblk _ (lt_of _ _ h1)]; exact h1, h2, h3, fun r cs' hv => ?_, h5⟩
      rw [hvar] at hv
      split at hv
      · rename_i hrp
        have := lt_of _ _ h1
        rw [hrp, hvbp]
        omega
      · rename_i hrp
        rw [hvbo r hrp]
        exact h4 r cs' hv
    tinj := fun id id' b s e s' e' h1 h2 => by rw [htoks] at h1 h2; exact hR.tinj id id' b s e s' e' h1 h2
    imlt := fun b o hi => Nat.lt_of_lt_of_le (hR.imlt b o hi) (by rw [alloc_size]; omega) }

/-! ### a new row, whose first cells nobody writes any more -/
/-- Tokens go on: one of them anew. -/
structure TokStep (m m' : Mem) (id : Nat) : Prop where
  vars : m'.vars = m.vars
  lt : id < m'.toks.length
  len : m'.toks.length ≤ m.toks.length + 1 ∧ m.toks.length ≤ m'.toks.length
  new : m.toks.length < m'.toks.length → id = m.toks.length
  other : ∀ i, i ≠ id → m'.toks[i]? = m.toks[i]?
  up : ∀ v v', m.toks[id]? = some v → m'.toks[id]? = some v' → v < v'
theorem TokStep.var {m m' : Mem} {id : Nat} (h : TokStep m m' id) (r : Nat) : m'.var r = m.var r := by simp [Mem.var, h.vars]
theorem TokStep.old {m m' : Mem} {id : Nat} (h : TokStep m m' id) {i : Nat} (hi : i < m'.toks.length) (hne : i ≠ id) : i < m.toks.length := by
  rcases Nat.lt_or_ge m.toks.length m'.toks.length with h1 | h1
  · have := h.new h1; have := h.len; omega
  · omega
theorem tokStep_new (m : Mem) : TokStep m { m with toks := m.toks ++ [0] } m.toks.length where
  vars := rfl
  lt := by simp
  len := by simp
  new := fun _ => rfl
  other i hi := by
    simp only [List.getElem?_append]
    by_cases h : i < m.toks.length
    · simp [h]
    · obtain ⟨k, hk⟩ : ∃ k, i - m.toks.length = k + 1 := ⟨i - m.toks.length - 1, by omega⟩
      simp [h, hk, List.getElem?_eq_none (Nat.le_of_not_lt h)]
  up v v' h := by simp at h
theorem tokStep_up {m : Mem} {id ver : Nat} (h : m.toks[id]? = some ver) : TokStep m { m with toks := m.toks.set id (ver + 1) } id where
  vars := rfl
  lt := by simpa using (List.getElem?_eq_some_iff.1 h).1
  len := by simp
  new := by simp
  other i hi := by simp [List.getElem?_set_ne (Ne.symm hi)]
  up v v' h1 h2 := by
    have hlt := (List.getElem?_eq_some_iff.1 h).1
    rw [h] at h1
    simp [hlt] at h1 h2
    omega
theorem tok_ext_tk {φ' : Phi} {m m' : Mem} {id : Nat} (h : TokStep m m' id) (ho : ∀ i, i ≠ id → φ'.tk i = φ.tk i) (i v : Nat) (hv : m.toks[i]? = some v) :
    ∃ v', m'.toks[i]? = some v' ∧ v ≤ v' ∧ (v' = v → φ'.tk i = φ.tk i) := by
  by_cases hi : i = id
  · subst hi
    have hlt := h.lt
    refine ⟨m'.toks[i], List.getElem?_eq_getElem hlt, ?_, fun e => ?_⟩
    · exact Nat.le_of_lt (h.up v _ hv (List.getElem?_eq_getElem hlt))
    · have := h.up v _ hv (List.getElem?_eq_getElem hlt); omega
  · exact ⟨v, by rw [h.other i hi]; exact hv, Nat.le_refl _, fun _ => ho i hi⟩
theorem alloc_row_tok (hR : RM φ m w) {m' : Mem} {id : Nat} (ht : TokStep m m' id) {arr : Array Value} (T : TypeId) (K : Nat) (hone : ∀ (o : Nat) u, arr[o]? = some u → one u = true) :
    let φ' : Phi := { vb := φ.vb, im := fun b o => φ.im b o ∨ (b = w.heap.size ∧ o < K), tk := fun i => if i = id then (w.heap.size, K, arr.size) else φ.tk i }
    RM φ' m' (w.alloc (.cells arr T)) ∧ Ext φ m w φ' m' (w.alloc (.cells arr T)) := by
  intro φ'
  have hblk : ∀ b, b < w.heap.size → (w.alloc (.cells arr T)).heap[b]? = w.heap[b]? := fun b hb => heap_alloc_old w _ b hb
  have lt_of : ∀ b o, w.heap[b]? = some o → b < w.heap.size := fun b o h => (Array.getElem?_eq_some_iff.1 h).1
  have htk : ∀ i, i ≠ id → φ'.tk i = φ.tk i := fun i hi => if_neg hi
  have htk' : φ'.tk id = (w.heap.size, K, arr.size) := if_pos rfl
  have hext : Ext φ m w φ' m' (w.alloc (.cells arr T)) := {
    os := rfl, tape := rfl, output := rfl, size := by rw [alloc_size]; omega
    im := fun b o hi => ⟨.inl hi, cell_of_heap (hblk b (hR.imlt b o hi)) o⟩
    vb := fun r cs' hv => ⟨rfl, cs', by rw [ht.var]; exact hv, rfl⟩
    tk := fun i v hv => tok_ext_tk ht htk i v hv
    blk := fun b hb _ => hblk b hb
    own := fun b hb => by
      rcases hb with ⟨r, cs', hv, e⟩ | ⟨i, s, e', hlt, hk, hse⟩
      · exact .inl (.inl ⟨r, cs', by rw [← ht.var]; exact hv, e⟩)
      · by_cases hi : i = id
        · subst hi
          rw [htk'] at hk
          cases hk
          exact .inr (Nat.le_refl _)
        · rw [htk i hi] at hk
          exact .inl (.inr ⟨i, s, e', ht.old hlt hi, hk, hse⟩) }
  refine ⟨?_, hext⟩
  exact {
    var := fun r cs' hv => by
      rw [ht.var] at hv
      obtain ⟨arr', T', h1, h2, h3⟩ := hR.var r cs' hv
      exact ⟨arr', T', by show (w.alloc _).heap[φ.vb r]? = _; rw [hblk _ (lt_of _ _ h1)]; exact h1, h2.mono hext, h3⟩
    inj := fun r r' cs1 cs2 h1 h2 e => by rw [ht.var] at h1 h2; exact hR.inj r r' cs1 cs2 h1 h2 e
    vim := fun r cs' o hv hi => by
      rw [ht.var] at hv
      rcases hi with hi | ⟨hb, _⟩
      · exact hR.vim r cs' o hv hi
      · obtain ⟨_, _, h1, _⟩ := hR.var r cs' hv
        have := lt_of _ _ h1
        have : φ'.vb r = φ.vb r := rfl
        omega
    tok := fun i b s e hlt hk hse => by
      by_cases hi : i = id
      · subst hi
        rw [htk'] at hk
        cases hk
        refine ⟨arr, T, heap_alloc_new w _, Nat.le_refl _, fun o h1 h2 hi => ?_, fun r cs' hv => ?_, hone⟩
        · rcases hi with hi | ⟨_, hi⟩
          · have := hR.imlt _ _ hi; omega
          · omega
        · rw [ht.var] at hv
          obtain ⟨_, _, h1, _⟩ := hR.var r cs' hv
          have := lt_of _ _ h1
          have : φ'.vb r = φ.vb r := rfl
          omega
      · rw [htk i hi] at hk
        obtain ⟨arr', T', h1, h2, h3, h4, h5⟩ := hR.tok i b s e (ht.old hlt hi) hk hse
        refine ⟨arr', T', by rw [hblk _ (lt_of _ _ h1)]; exact h1, h2, fun o o1 o2 hi' => ?_, fun r cs' hv => h4 r cs' (by rw [← ht.var]; exact hv), h5⟩
        rcases hi' with hi' | ⟨hb, _⟩
        · exact h3 o o1 o2 hi'
        · have := lt_of _ _ h1; omega
    tinj := fun i i' b s e s' e' h1 h2 k1 k2 hs hs' => by
      by_cases hi : i = id <;> by_cases hi' : i' = id
      · omega
      · rw [hi, htk'] at k1
        rw [htk i' hi'] at k2
        cases k1
        obtain ⟨_, _, hb, _⟩ := hR.tok i' _ _ _ (ht.old h2 hi') k2 hs'
        have := lt_of _ _ hb; omega
      · rw [hi', htk'] at k2
        rw [htk i hi] at k1
        cases k2
        obtain ⟨_, _, hb, _⟩ := hR.tok i _ _ _ (ht.old h1 hi) k1 hs
        have := lt_of _ _ hb; omega
      · rw [htk i hi] at k1
        rw [htk i' hi'] at k2
        exact hR.tinj i i' b s e s' e' (ht.old h1 hi) (ht.old h2 hi') k1 k2 hs hs'
    imlt := fun b o hi => by
      rcases hi with hi | ⟨hb, _⟩
      · exact Nat.lt_of_lt_of_le (hR.imlt b o hi) (by rw [alloc_size]; omega)
      · rw [alloc_size]; omega }
/-- A row that stays as it is. -/
theorem alloc_row (hR : RM φ m w) (arr : Array Value) (T : TypeId) :
    let φ' : Phi := { φ with im := fun b o => φ.im b o ∨ b = w.heap.size }
    RM φ' m (w.alloc (.cells arr T)) ∧ Ext φ m w φ' m (w.alloc (.cells arr T)) := by
  intro φ'
  have hblk : ∀ b, b < w.heap.size → (w.alloc (.cells arr T)).heap[b]? = w.heap[b]? := fun b hb => heap_alloc_old w _ b hb
  have lt_of : ∀ b o, w.heap[b]? = some o → b < w.heap.size := fun b o h => (Array.getElem?_eq_some_iff.1 h).1
  have hext : Ext φ m w φ' m (w.alloc (.cells arr T)) := {
    os := rfl, tape := rfl, output := rfl, size := by rw [alloc_size]; omega
    im := fun b o hi => ⟨.inl hi, cell_of_heap (hblk b (hR.imlt b o hi)) o⟩
    vb := fun r cs' hv => ⟨rfl, cs', hv, rfl⟩
    tk := fun i v hv => ⟨v, hv, Nat.le_refl _, fun _ => rfl⟩
    blk := fun b hb _ => hblk b hb
    own := fun b hb => .inl hb }
  refine ⟨?_, hext⟩
  exact {
    var := fun r cs' hv => by
      obtain ⟨arr', T', h1, h2, h3⟩ := hR.var r cs' hv
      exact ⟨arr', T', by show (w.alloc _).heap[φ.vb r]? = _; rw [hblk _ (lt_of _ _ h1)]; exact h1, h2.mono hext, h3⟩
    inj := hR.inj
    vim := fun r cs' o hv hi => by
      rcases hi with hi | hb
      · exact hR.vim r cs' o hv hi
      · obtain ⟨_, _, h1, _⟩ := hR.var r cs' hv
        have := lt_of _ _ h1
        have : φ'.vb r = φ.vb r := rfl
        omega
    tok := fun i b s e hlt hk hse => by
      obtain ⟨arr', T', h1, h2, h3, h4, h5⟩ := hR.tok i b s e hlt hk hse
      refine ⟨arr', T', by rw [hblk _ (lt_of _ _ h1)]; exact h1, h2, fun o o1 o2 hi' => ?_, h4, h5⟩
      rcases hi' with hi' | hb
      · exact h3 o o1 o2 hi'
      · have := lt_of _ _ h1; omega
    tinj := hR.tinj
    imlt := fun b o hi => by
      rcases hi with hi | hb
      · exact Nat.lt_of_lt_of_le (hR.imlt b o hi) (by rw [alloc_size]; omega)
      · rw [alloc_size]; omega }
end
end Go.Proofs.Ytojaokhkbmiidaa.Ev
