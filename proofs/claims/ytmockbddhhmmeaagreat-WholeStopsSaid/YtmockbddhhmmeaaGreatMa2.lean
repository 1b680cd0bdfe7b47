/- How the world and the abstract memory go on together: a draw, a new variable, a new row, a row that grows in place, a store. -/
import Derived.Test.YtmockbddhhmmeaaGreatMa1
import Derived.Laws.World
import Derived.Laws.Tables
import Derived.Laws.Rows
namespace Go.Proofs.YtmockbddhhmmeaaGreat.Ev
open Go Go.Proofs
set_option maxRecDepth 10000
set_option maxHeartbeats 8000000
set_option linter.unusedVariables false
set_option linter.unusedSimpArgs false
section
section
variable {P : Program} {φ : Phi} {m : Mem} {w : World}

theorem iN {w w' : World} {b : Nat} (h : w'.heap[b]? = w.heap[b]?) (o : Nat) : w'.cell? ⟨b, o, none⟩ = w.cell? ⟨b, o, none⟩ := by
 simp [World.cell?, h]

theorem gN (w : World) (o : Obj) : (w.alloc o).heap.size = w.heap.size + 1 := Array.size_push ..

/-! ### a draw -/
theorem iR (φ : Phi) (m : Mem) (w : World) : Ext φ m w φ m { w with drawn := w.drawn + 1 } :=
 ⟨rfl, rfl, rfl, Nat.le_refl _, fun _ _ h => ⟨h, rfl⟩, fun _ cs h => ⟨rfl, cs, h, rfl⟩, fun _ v h => ⟨v, h, Nat.le_refl _, fun _ => rfl⟩, fun _ _ _ => rfl, fun _ h => .inl h, fun _ _ h => .inl h⟩
theorem oH (hR : RM φ m w) : RM φ m { w with drawn := w.drawn + 1 } where
 var r cs h := by
  obtain ⟨arr, T, h1, h2, h3⟩ := hR.var r cs h
  exact ⟨arr, T, h1, h2.mono (iR φ m w), h3⟩
 inj := hR.inj
 vim := hR.vim
 tok := hR.tok
 tinj := hR.tinj
 imlt := hR.imlt

/-! ### a new variable -/
theorem aYb {p : Nat} {cs : List AV} {m' : Mem} (h : newVar m p cs = some m') :
  cs.all (refLe p) = true ∧ m.var p = none ∧ m'.toks = m.toks ∧ (∀ r, m'.var r = if r = p then some cs else m.var r) ∧ m'.vars.length = max m.vars.length (p + 1) := by
 unfold newVar at h
 split at h
 ·rename_i hc
  split at h
  ·rename_i hp
   simp only [Option.some.injEq] at h
   subst h
   refine ⟨hc, by simp [Mem.var, hp], rfl, fun r => ?_, by simp; omega⟩
   simp only [Mem.var, List.getElem?_append, hp]
   by_cases hr : r = m.vars.length
   ·subst hr; simp
   ·by_cases hlt : r < m.vars.length
    ·simp [hr, hlt]
    ·have h2 : r - m.vars.length ≠ 0 := by omega
     obtain ⟨k, hk⟩ : ∃ k, r - m.vars.length = k + 1 := ⟨r - m.vars.length - 1, by omega⟩
     simp [hr, hlt, hk, List.getElem?_eq_none (Nat.le_of_not_lt hlt)]
  ·split at h
   ·rename_i hv
    simp only [Option.some.injEq] at h
    subst h
    have hlt : p < m.vars.length := (List.getElem?_eq_some_iff.1 hv).1
    refine ⟨hc, by simp [Mem.var, hv], rfl, fun r => ?_, by simp; omega⟩
    simp only [Mem.var]
    by_cases hr : r = p
    ·subst hr; simp [hlt]
    ·simp [hr, List.getElem?_set_ne (Ne.symm hr)]
   ·cases h
 ·cases h
theorem xV (hR : RM φ m w) {p : Nat} {cs : List AV} {m' : Mem} (h : newVar m p cs = some m') {arr : Array Value} (hr : Reps φ m w cs arr) (hok : cs.all okCell = true) (T : TypeId) :
  ∃ φ', RM φ' m' (w.alloc (.cells arr T)) ∧ Ext φ m w φ' m' (w.alloc (.cells arr T)) ∧ φ'.vb p = w.heap.size ∧ m'.var p = some cs := by
 obtain ⟨hle, hnone, htoks, hvar, _⟩ := aYb h
 have hp : m'.var p = some cs := by rw [hvar, if_pos rfl]
 have hold : ∀ r cs', m.var r = some cs' → r ≠ p ∧ m'.var r = some cs' := fun r cs' hv => by
  have : r ≠ p := fun e => by subst e; rw [hnone] at hv; cases hv
  exact ⟨this, by rw [hvar, if_neg this]; exact hv⟩
 have hblk : ∀ b, b < w.heap.size → (w.alloc (.cells arr T)).heap[b]? = w.heap[b]? := fun b hb => heap_alloc_old w _ b hb
 have lt_of : ∀ b o, w.heap[b]? = some o → b < w.heap.size := fun b o h => (Array.getElem?_eq_some_iff.1 h).1
 let φ' : Phi := { φ with vb := fun r => if r = p then w.heap.size else φ.vb r }
 have hext : Ext φ m w φ' m' (w.alloc (.cells arr T)) := {
  os := rfl, tape := rfl, output := rfl, size := by rw [gN]; omega
  im := fun b o hi => ⟨hi, iN (hblk b (hR.imlt b o hi)) o⟩
  vb := fun r cs' hv => ⟨by show (if r = p then _ else _) = _; rw [if_neg (hold r cs' hv).1], cs', (hold r cs' hv).2, rfl⟩
  tk := fun id v hv => ⟨v, by rw [htoks]; exact hv, Nat.le_refl _, fun _ => rfl⟩
  blk := fun b hb _ => hblk b hb
  own := fun b hb => by
   rcases hb with ⟨r, cs', hv, e⟩ | ⟨id, s, e', hlt, htk, hse⟩
   ·rw [hvar] at hv
    split at hv
    ·rename_i hrp
     right
     have : φ'.vb r = w.heap.size := if_pos hrp
     omega
    ·rename_i hrp
     exact .inl (.inl ⟨r, cs', hv, by rw [← e]; exact (if_neg hrp).symm⟩)
   ·exact .inl (.inr ⟨id, s, e', by rw [htoks] at hlt; exact hlt, htk, hse⟩)
  imn := fun b o hi => .inl hi }
 have hvbp : φ'.vb p = w.heap.size := if_pos rfl
 have hvbo : ∀ r, r ≠ p → φ'.vb r = φ.vb r := fun r hrp => if_neg hrp
 refine ⟨φ', ?_, hext, hvbp, hp⟩
 exact {
  var := fun r cs' hv => by
   rw [hvar] at hv
   split at hv
   ·rename_i hrp
    subst hrp
    simp only [Option.some.injEq] at hv
    subst hv
    exact ⟨arr, T, by rw [hvbp]; exact heap_alloc_new w _, hr.mono hext, hok, hle⟩
   ·rename_i hrp
    obtain ⟨arr', T', h1, h2, h3⟩ := hR.var r cs' hv
    exact ⟨arr', T', by rw [hvbo r hrp, hblk _ (lt_of _ _ h1)]; exact h1, h2.mono hext, h3⟩
  inj := fun r r' cs1 cs2 h1 h2 e => by
   rw [hvar] at h1 h2
   split at h1 <;> split at h2
   ·omega
   ·rename_i e1 e2
    obtain ⟨_, _, hb, _⟩ := hR.var r' cs2 h2
    have := lt_of _ _ hb
    rw [e1, hvbp, hvbo r' e2] at e
    omega
   ·rename_i e1 e2
    obtain ⟨_, _, hb, _⟩ := hR.var r cs1 h1
    have := lt_of _ _ hb
    rw [e2, hvbp, hvbo r e1] at e
    omega
   ·rename_i e1 e2
    rw [hvbo r e1, hvbo r' e2] at e
    exact hR.inj r r' cs1 cs2 h1 h2 e
  vim := fun r cs' o hv => by
   rw [hvar] at hv
   split at hv
   ·rename_i hrp
    intro hi
    have := hR.imlt _ _ hi
    rw [hrp, hvbp] at this
    omega
   ·rename_i hrp
    rw [hvbo r hrp]
    exact hR.vim r cs' o hv
  tok := fun id b s e hlt htk hse => by
   rw [htoks] at hlt
   obtain ⟨arr', T', h1, h2, h3, h4, h5⟩ := hR.tok id b s e hlt htk hse
   refine ⟨arr', T', by rw [hblk _ (lt_of _ _ h1)]; exact h1, h2, h3, fun r cs' hv => ?_, h5⟩
   rw [hvar] at hv
   split at hv
   ·rename_i hrp
    have := lt_of _ _ h1
    rw [hrp, hvbp]
    omega
   ·rename_i hrp
    rw [hvbo r hrp]
    exact h4 r cs' hv
  tinj := fun id id' b s e s' e' h1 h2 => by rw [htoks] at h1 h2; exact hR.tinj id id' b s e s' e' h1 h2
  imlt := fun b o hi => Nat.lt_of_lt_of_le (hR.imlt b o hi) (by rw [gN]; omega) }

/-! ### a new row, whose first cells nobody writes any more -/
/-- Tokens go on: one of them anew. -/
structure TokStep (m m' : Mem) (id : Nat) : Prop where
 vars : m'.vars = m.vars
 lt : id < m'.toks.length
 len : m'.toks.length ≤ m.toks.length + 1 ∧ m.toks.length ≤ m'.toks.length
 new : m.toks.length < m'.toks.length → id = m.toks.length
 other : ∀ i, i ≠ id → m'.toks[i]? = m.toks[i]?
 up : ∀ v v', m.toks[id]? = some v → m'.toks[id]? = some v' → v < v'
theorem TokStep.var {m m' : Mem} {id : Nat} (h : TokStep m m' id) (r : Nat) : m'.var r = m.var r := by simp [Mem.var, h.vars]
theorem TokStep.old {m m' : Mem} {id : Nat} (h : TokStep m m' id) {i : Nat} (hi : i < m'.toks.length) (hne : i ≠ id) : i < m.toks.length := by
 rcases Nat.lt_or_ge m.toks.length m'.toks.length with h1 | h1
 ·have := h.new h1; have := h.len; omega
 ·omega
theorem aZ4 (m : Mem) : TokStep m { m with toks := m.toks ++ [0] } m.toks.length where
 vars := rfl
 lt := by simp
 len := by simp
 new := fun _ => rfl
 other i hi := by
  simp only [List.getElem?_append]
  by_cases h : i < m.toks.length
  ·simp [h]
  ·obtain ⟨k, hk⟩ : ∃ k, i - m.toks.length = k + 1 := ⟨i - m.toks.length - 1, by omega⟩
   simp [h, hk, List.getElem?_eq_none (Nat.le_of_not_lt h)]
 up v v' h := by simp at h
theorem bC6 {m : Mem} {id ver : Nat} (h : m.toks[id]? = some ver) : TokStep m { m with toks := m.toks.set id (ver + 1) } id where
 vars := rfl
 lt := by simpa using (List.getElem?_eq_some_iff.1 h).1
 len := by simp
 new := by simp
 other i hi := by simp [List.getElem?_set_ne (Ne.symm hi)]
 up v v' h1 h2 := by
  have hlt := (List.getElem?_eq_some_iff.1 h).1
  rw [h] at h1
  simp [hlt] at h1 h2
  omega
theorem aDe {φ' : Phi} {m m' : Mem} {id : Nat} (h : TokStep m m' id) (ho : ∀ i, i ≠ id → φ'.tk i = φ.tk i) (i v : Nat) (hv : m.toks[i]? = some v) :
  ∃ v', m'.toks[i]? = some v' ∧ v ≤ v' ∧ (v' = v → φ'.tk i = φ.tk i) := by
 by_cases hi : i = id
 ·subst hi
  have hlt := h.lt
  refine ⟨m'.toks[i], List.getElem?_eq_getElem hlt, ?_, fun e => ?_⟩
  ·exact Nat.le_of_lt (h.up v _ hv (List.getElem?_eq_getElem hlt))
  ·have := h.up v _ hv (List.getElem?_eq_getElem hlt); omega
 ·exact ⟨v, by rw [h.other i hi]; exact hv, Nat.le_refl _, fun _ => ho i hi⟩
theorem aPs (hR : RM φ m w) {m' : Mem} {id : Nat} (ht : TokStep m m' id) {arr : Array Value} (T : TypeId) (K : Nat) (hone : ∀ (o : Nat) u, arr[o]? = some u → one u = true) :
  let φ' : Phi := { vb := φ.vb, im := fun b o => φ.im b o ∨ (b = w.heap.size ∧ o < K), tk := fun i => if i = id then (w.heap.size, K, arr.size) else φ.tk i }
  RM φ' m' (w.alloc (.cells arr T)) ∧ Ext φ m w φ' m' (w.alloc (.cells arr T)) := by
 intro φ'
 have hblk : ∀ b, b < w.heap.size → (w.alloc (.cells arr T)).heap[b]? = w.heap[b]? := fun b hb => heap_alloc_old w _ b hb
 have lt_of : ∀ b o, w.heap[b]? = some o → b < w.heap.size := fun b o h => (Array.getElem?_eq_some_iff.1 h).1
 have htk : ∀ i, i ≠ id → φ'.tk i = φ.tk i := fun i hi => if_neg hi
 have htk' : φ'.tk id = (w.heap.size, K, arr.size) := if_pos rfl
 have hext : Ext φ m w φ' m' (w.alloc (.cells arr T)) := {
  os := rfl, tape := rfl, output := rfl, size := by rw [gN]; omega
  im := fun b o hi => ⟨.inl hi, iN (hblk b (hR.imlt b o hi)) o⟩
  vb := fun r cs' hv => ⟨rfl, cs', by rw [ht.var]; exact hv, rfl⟩
  tk := fun i v hv => aDe ht htk i v hv
  blk := fun b hb _ => hblk b hb
  own := fun b hb => by
   rcases hb with ⟨r, cs', hv, e⟩ | ⟨i, s, e', hlt, hk, hse⟩
   ·exact .inl (.inl ⟨r, cs', by rw [← ht.var]; exact hv, e⟩)
   ·by_cases hi : i = id
    ·subst hi
     rw [htk'] at hk
     cases hk
     exact .inr (Nat.le_refl _)
    ·rw [htk i hi] at hk
     exact .inl (.inr ⟨i, s, e', ht.old hlt hi, hk, hse⟩)
  imn := fun b o hi => hi.elim .inl fun h => .inr (.inr (Nat.le_of_eq h.1.symm)) }
 refine ⟨?_, hext⟩
 exact {
  var := fun r cs' hv => by
   rw [ht.var] at hv
   obtain ⟨arr', T', h1, h2, h3⟩ := hR.var r cs' hv
   exact ⟨arr', T', by show (w.alloc _).heap[φ.vb r]? = _; rw [hblk _ (lt_of _ _ h1)]; exact h1, h2.mono hext, h3⟩
  inj := fun r r' cs1 cs2 h1 h2 e => by rw [ht.var] at h1 h2; exact hR.inj r r' cs1 cs2 h1 h2 e
  vim := fun r cs' o hv hi => by
   rw [ht.var] at hv
   rcases hi with hi | ⟨hb, _⟩
   ·exact hR.vim r cs' o hv hi
   ·obtain ⟨_, _, h1, _⟩ := hR.var r cs' hv
    have := lt_of _ _ h1
    have : φ'.vb r = φ.vb r := rfl
    omega
  tok := fun i b s e hlt hk hse => by
   by_cases hi : i = id
   ·subst hi
    rw [htk'] at hk
    cases hk
    refine ⟨arr, T, heap_alloc_new w _, Nat.le_refl _, fun o h1 h2 hi => ?_, fun r cs' hv => ?_, hone⟩
    ·rcases hi with hi | ⟨_, hi⟩
     ·have := hR.imlt _ _ hi; omega
     ·omega
    ·rw [ht.var] at hv
     obtain ⟨_, _, h1, _⟩ := hR.var r cs' hv
     have := lt_of _ _ h1
     have : φ'.vb r = φ.vb r := rfl
     omega
   ·rw [htk i hi] at hk
    obtain ⟨arr', T', h1, h2, h3, h4, h5⟩ := hR.tok i b s e (ht.old hlt hi) hk hse
    refine ⟨arr', T', by rw [hblk _ (lt_of _ _ h1)]; exact h1, h2, fun o o1 o2 hi' => ?_, fun r cs' hv => h4 r cs' (by rw [← ht.var]; exact hv), h5⟩
    rcases hi' with hi' | ⟨hb, _⟩
    ·exact h3 o o1 o2 hi'
    ·have := lt_of _ _ h1; omega
  tinj := fun i i' b s e s' e' h1 h2 k1 k2 hs hs' => by
   by_cases hi : i = id <;> by_cases hi' : i' = id
   ·omega
   ·rw [hi, htk'] at k1
    rw [htk i' hi'] at k2
    cases k1
    obtain ⟨_, _, hb, _⟩ := hR.tok i' _ _ _ (ht.old h2 hi') k2 hs'
    have := lt_of _ _ hb; omega
   ·rw [hi', htk'] at k2
    rw [htk i hi] at k1
    cases k2
    obtain ⟨_, _, hb, _⟩ := hR.tok i _ _ _ (ht.old h1 hi) k1 hs
    have := lt_of _ _ hb; omega
   ·rw [htk i hi] at k1
    rw [htk i' hi'] at k2
    exact hR.tinj i i' b s e s' e' (ht.old h1 hi) (ht.old h2 hi') k1 k2 hs hs'
  imlt := fun b o hi => by
   rcases hi with hi | ⟨hb, _⟩
   ·exact Nat.lt_of_lt_of_le (hR.imlt b o hi) (by rw [gN]; omega)
   ·rw [gN]; omega }
/-- A row that stays as it is. -/
theorem bJ3 (hR : RM φ m w) (arr : Array Value) (T : TypeId) :
  let φ' : Phi := { φ with im := fun b o => φ.im b o ∨ b = w.heap.size }
  RM φ' m (w.alloc (.cells arr T)) ∧ Ext φ m w φ' m (w.alloc (.cells arr T)) := by
 intro φ'
 have hblk : ∀ b, b < w.heap.size → (w.alloc (.cells arr T)).heap[b]? = w.heap[b]? := fun b hb => heap_alloc_old w _ b hb
 have lt_of : ∀ b o, w.heap[b]? = some o → b < w.heap.size := fun b o h => (Array.getElem?_eq_some_iff.1 h).1
 have hext : Ext φ m w φ' m (w.alloc (.cells arr T)) := {
  os := rfl, tape := rfl, output := rfl, size := by rw [gN]; omega
  im := fun b o hi => ⟨.inl hi, iN (hblk b (hR.imlt b o hi)) o⟩
  vb := fun r cs' hv => ⟨rfl, cs', hv, rfl⟩
  tk := fun i v hv => ⟨v, hv, Nat.le_refl _, fun _ => rfl⟩
  blk := fun b hb _ => hblk b hb
  own := fun b hb => .inl hb
  imn := fun b o hi => hi.elim .inl fun h => .inr (.inr (Nat.le_of_eq h.symm)) }
 refine ⟨?_, hext⟩
 exact {
  var := fun r cs' hv => by
   obtain ⟨arr', T', h1, h2, h3⟩ := hR.var r cs' hv
   exact ⟨arr', T', by show (w.alloc _).heap[φ.vb r]? = _; rw [hblk _ (lt_of _ _ h1)]; exact h1, h2.mono hext, h3⟩
  inj := hR.inj
  vim := fun r cs' o hv hi => by
   rcases hi with hi | hb
   ·exact hR.vim r cs' o hv hi
   ·obtain ⟨_, _, h1, _⟩ := hR.var r cs' hv
    have := lt_of _ _ h1
    have : φ'.vb r = φ.vb r := rfl
    omega
  tok := fun i b s e hlt hk hse => by
   obtain ⟨arr', T', h1, h2, h3, h4, h5⟩ := hR.tok i b s e hlt hk hse
   refine ⟨arr', T', by rw [hblk _ (lt_of _ _ h1)]; exact h1, h2, fun o o1 o2 hi' => ?_, h4, h5⟩
   rcases hi' with hi' | hb
   ·exact h3 o o1 o2 hi'
   ·have := lt_of _ _ h1; omega
  tinj := hR.tinj
  imlt := fun b o hi => by
   rcases hi with hi | hb
   ·exact Nat.lt_of_lt_of_le (hR.imlt b o hi) (by rw [gN]; omega)
   ·rw [gN]; omega }
end
end
section
section
variable {P : Program} {φ : Phi} {m : Mem} {w : World}

theorem aE4 (w : World) (g : Nat) (cs : Array Value) {b : Nat} (h : b ≠ g) : (w.setRow g cs).heap[b]? = w.heap[b]? := by
 simp only [World.setRow, Array.getElem?_modify]
 rw [if_neg (Ne.symm h)]
theorem dR {old : List AV} {off : Nat} {cs : List AV} (h : off + cs.length ≤ old.length) : (cB old off cs).length = old.length := by
 simp [cB]; omega
theorem getElem?_splice {α : Type} {old : List α} {off : Nat} {cs : List α} (h : off + cs.length ≤ old.length) (i : Nat) :
  (old.take off ++ cs ++ old.drop (off + cs.length))[i]? = if off ≤ i ∧ i < off + cs.length then cs[i - off]? else old[i]? := by
 have hl : (old.take off).length = off := by simp; omega
 rw [List.append_assoc]
 by_cases h1 : i < off
 ·rw [List.getElem?_append_left (by omega), if_neg (by omega), List.getElem?_take, if_pos h1]
 ·rw [List.getElem?_append_right (by omega), hl]
  by_cases h2 : i < off + cs.length
  ·rw [List.getElem?_append_left (by omega), if_pos ⟨by omega, h2⟩]
  ·rw [List.getElem?_append_right (by omega), if_neg (by omega), List.getElem?_drop]
   congr 1
   omega
/-- A store into a variable. -/
theorem bAz (hR : RM φ m w) {r off : Nat} {old cs : List AV} (hv : m.var r = some old) (hfit : off + cs.length ≤ old.length) (hok : cs.all okCell = true) (hle : cs.all (refLe r) = true)
  {vs : List Value} (hvs : Reps φ m w cs vs.toArray) {arr : Array Value} {T : TypeId} (hb : w.heap[φ.vb r]? = some (.cells arr T (0, 0))) (harr : Reps φ m w old arr)
  {w' : World} (hw : w' = w.setRow (φ.vb r) (arr.toList.take off ++ vs ++ arr.toList.drop (off + vs.length)).toArray) :
  RM φ { m with vars := m.vars.set r (some (cB old off cs)) } w' ∧ Ext φ m w φ { m with vars := m.vars.set r (some (cB old off cs)) } w' := by
 have hrlt : r < m.vars.length := by
  rcases Nat.lt_or_ge r m.vars.length with h | h
  ·exact h
  ·simp [Mem.var, List.getElem?_eq_none h] at hv
 have hvar : ∀ q, Mem.var { m with vars := m.vars.set r (some (cB old off cs)) } q = if q = r then some (cB old off cs) else m.var q := fun q => by
  simp only [Mem.var]
  by_cases hq : q = r
  ·subst hq; simp [hrlt]
  ·simp [hq, List.getElem?_set_ne (Ne.symm hq)]
 have hvl : vs.length = cs.length := by have := hvs.1; simpa using this
 have hoth : ∀ b, b ≠ φ.vb r → w'.heap[b]? = w.heap[b]? := fun b hne => by rw [hw]; exact aE4 w _ _ hne
 have hself : w'.heap[φ.vb r]? = some (.cells (arr.toList.take off ++ vs ++ arr.toList.drop (off + vs.length)).toArray T (0, 0)) := by rw [hw]; exact setRow_heap w _ _ _ _ _ hb
 have hext : Ext φ m w φ { m with vars := m.vars.set r (some (cB old off cs)) } w' := {
  os := by rw [hw]; rfl
  tape := by rw [hw]; rfl
  output := by rw [hw]; rfl
  size := by rw [hw, size_setRow]; exact Nat.le_refl _
  im := fun b o hi => ⟨hi, iN (hoth b (fun e => hR.vim r old o hv (by rw [← e]; exact hi))) o⟩
  vb := fun q cs' hq => ⟨rfl, by
   rw [hvar]
   split
   ·rename_i e
    subst e
    rw [hv] at hq
    cases hq
    exact ⟨_, rfl, dR hfit⟩
   ·exact ⟨cs', hq, rfl⟩⟩
  tk := fun id v h => ⟨v, h, Nat.le_refl _, fun _ => rfl⟩
  blk := fun b hlt hno => hoth b (fun e => hno (.inl ⟨r, old, hv, e.symm⟩))
  own := fun b ho => by
   left
   rcases ho with ⟨q, cs', hq, e⟩ | h
   ·rw [hvar] at hq
    split at hq
    ·rename_i e2
     subst e2
     exact .inl ⟨q, old, hv, e⟩
    ·exact .inl ⟨q, cs', hq, e⟩
   ·exact .inr h
  imn := fun b o hi => .inl hi }
 refine ⟨?_, hext⟩
 exact {
  var := fun q cs' hq => by
   rw [hvar] at hq
   split at hq
   ·rename_i e
    subst e
    simp only [Option.some.injEq] at hq
    subst hq
    obtain ⟨arr0, T0, hb0, _, hok0, hle0⟩ := hR.var q old hv
    refine ⟨_, T, hself, ⟨?_, fun i a u h1 h2 => ?_⟩, ?_, ?_⟩
    ·have := harr.1
     rw [dR hfit]
     simp
     omega
    ·unfold cB at h1
     rw [getElem?_splice hfit] at h1
     rw [List.getElem?_toArray, getElem?_splice (by have := harr.1; simp; omega)] at h2
     rw [hvl] at h2
     split at h1
     ·rename_i hc
      rw [if_pos hc] at h2
      exact (hvs.2 _ a u h1 (by simpa using h2)).mono hext
     ·rename_i hc
      rw [if_neg hc] at h2
      exact (harr.2 i a u h1 (by simpa using h2)).mono hext
    ·rw [List.all_eq_true] at hok hok0 ⊢
     intro x hx
     simp only [cB, List.mem_append] at hx
     rcases hx with (hx | hx) | hx
     ·exact hok0 x (List.mem_of_mem_take hx)
     ·exact hok x hx
     ·exact hok0 x (List.mem_of_mem_drop hx)
    ·rw [List.all_eq_true] at hle hle0 ⊢
     intro x hx
     simp only [cB, List.mem_append] at hx
     rcases hx with (hx | hx) | hx
     ·exact hle0 x (List.mem_of_mem_take hx)
     ·exact hle x hx
     ·exact hle0 x (List.mem_of_mem_drop hx)
   ·rename_i e
    obtain ⟨arr', T', h1, h2, h3⟩ := hR.var q cs' hq
    exact ⟨arr', T', by rw [hoth _ (fun e2 => e (hR.inj q r cs' old hq hv e2))]; exact h1, h2.mono hext, h3⟩
  inj := fun q q' c1 c2 h1 h2 e => by
   rw [hvar] at h1 h2
   split at h1 <;> split at h2
   ·omega
   ·rename_i e1 e2; subst e1; exact hR.inj _ _ _ _ hv h2 e
   ·rename_i e1 e2; subst e2; exact hR.inj _ _ _ _ h1 hv e
   ·exact hR.inj _ _ _ _ h1 h2 e
  vim := fun q c1 o h1 => by
   rw [hvar] at h1
   split at h1
   ·rename_i e1; subst e1; exact hR.vim _ _ o hv
   ·exact hR.vim _ _ o h1
  tok := fun id b s e hlt htk hse => by
   obtain ⟨arr', T', h1, h2, h3, h4, h5⟩ := hR.tok id b s e hlt htk hse
   refine ⟨arr', T', by rw [hoth _ (fun e2 => h4 r old hv e2.symm)]; exact h1, h2, h3, fun q c1 hq => ?_, h5⟩
   rw [hvar] at hq
   split at hq
   ·rename_i e1; subst e1; exact h4 _ _ hv
   ·exact h4 _ _ hq
  tinj := hR.tinj
  imlt := fun b o hi => by rw [hw, size_setRow]; exact hR.imlt b o hi }
theorem zK (x : Value) : one x = x.oneCell' := by cases x <;> rfl

/-- A row that grows in place. -/
theorem bIj (hR : RM φ m w) {m' : Mem} {id : Nat} (ht : TokStep m m' id) {b s e : Nat} (hlt : id < m.toks.length) (htk : φ.tk id = (b, s, e)) (hse : s < e)
  {vs : List Value} (hfit : s + vs.length ≤ e) (hone : ∀ v ∈ vs, one v = true) :
  ∃ arr T, w.heap[b]? = some (.cells arr T (0, 0)) ∧ e ≤ arr.size ∧
   let w' := w.setRow b (arr.toList.take s ++ vs ++ arr.toList.drop (s + vs.length)).toArray
   let φ' : Phi := { vb := φ.vb, im := fun b' o => φ.im b' o ∨ (b' = b ∧ s ≤ o ∧ o < s + vs.length), tk := fun i => if i = id then (b, s + vs.length, e) else φ.tk i }
   RM φ' m' w' ∧ Ext φ m w φ' m' w' ∧ (∀ (k : Nat) v, vs[k]? = some v → w'.cell? ⟨b, s + k, none⟩ = some v) := by
 obtain ⟨arr, T, hb, hsz, him, hvb, h1⟩ := hR.tok id b s e hlt htk hse
 refine ⟨arr, T, hb, hsz, ?_⟩
 intro w' φ'
 have hlen : s + vs.length ≤ arr.toList.length := by simp; omega
 have hoth : ∀ b', b' ≠ b → w'.heap[b']? = w.heap[b']? := fun b' hne => aE4 w _ _ hne
 have hself : w'.heap[b]? = some (.cells (arr.toList.take s ++ vs ++ arr.toList.drop (s + vs.length)).toArray T (0, 0)) := setRow_heap w _ _ _ _ _ hb
 have hcell : ∀ o, w'.cell? ⟨b, o, none⟩ = if s ≤ o ∧ o < s + vs.length then vs[o - s]? else w.cell? ⟨b, o, none⟩ := fun o => by
  simp only [World.cell?, hself, hb]
  rw [if_neg (by simp), List.getElem?_toArray, getElem?_splice hlen]
  simp
 have htk' : ∀ i, i ≠ id → φ'.tk i = φ.tk i := fun i hi => if_neg hi
 have htki : φ'.tk id = (b, s + vs.length, e) := if_pos rfl
 have hext : Ext φ m w φ' m' w' := {
  os := rfl, tape := rfl, output := rfl, size := by show _ ≤ (w.setRow b _).heap.size; rw [size_setRow]; exact Nat.le_refl _
  im := fun b' o hi => ⟨.inl hi, by
   by_cases hbb : b' = b
   ·subst hbb
    rw [hcell, if_neg (fun hc => him o hc.1 (by omega) hi)]
   ·exact iN (hoth b' hbb) o⟩
  vb := fun r cs' hv => ⟨rfl, cs', by rw [ht.var]; exact hv, rfl⟩
  tk := fun i v hv => aDe ht htk' i v hv
  blk := fun b' hb' hno => hoth b' (fun e2 => hno (.inr ⟨id, s, e, hlt, by rw [htk, e2], hse⟩))
  own := fun b' ho => by
   left
   rcases ho with ⟨r, cs', hv, e2⟩ | ⟨i, s2, e2, hi, hk, hs2⟩
   ·exact .inl ⟨r, cs', by rw [← ht.var]; exact hv, e2⟩
   ·by_cases hid : i = id
    ·subst hid
     rw [htki] at hk
     cases hk
     exact .inr ⟨i, s, e, hlt, htk, hse⟩
    ·rw [htk' i hid] at hk
     exact .inr ⟨i, s2, e2, ht.old hi hid, hk, hs2⟩
  imn := fun b' o hi => hi.elim .inl fun h => .inr (.inl (.inr ⟨id, s, e, hlt, by rw [htk, h.1], hse⟩)) }
 refine ⟨?_, hext, fun k v hk => ?_⟩
 ·exact {
   var := fun r cs' hv => by
    rw [ht.var] at hv
    obtain ⟨arr', T', g1, g2, g3⟩ := hR.var r cs' hv
    exact ⟨arr', T', by show w'.heap[φ.vb r]? = _; rw [hoth _ (hvb r cs' hv)]; exact g1, g2.mono hext, g3⟩
   inj := fun r r' c1 c2 g1 g2 e2 => by rw [ht.var] at g1 g2; exact hR.inj r r' c1 c2 g1 g2 e2
   vim := fun r cs' o hv hi => by
    rw [ht.var] at hv
    rcases hi with hi | ⟨e2, _⟩
    ·exact hR.vim r cs' o hv hi
    ·exact hvb r cs' hv e2
   tok := fun i b2 s2 e2 hi hk hs2 => by
    by_cases hid : i = id
    ·subst hid
     rw [htki] at hk
     cases hk
     refine ⟨_, T, hself, by simp; omega, fun o o1 o2 hi' => ?_, fun r cs' hv => hvb r cs' (by rw [← ht.var]; exact hv), fun o u hu => ?_⟩
     ·rcases hi' with hi' | ⟨_, _, hi'⟩
      ·exact him o (by omega) o2 hi'
      ·omega
     ·rw [List.getElem?_toArray, getElem?_splice hlen] at hu
      split at hu
      ·exact hone u (List.mem_of_getElem? hu)
      ·exact h1 o u (by simpa using hu)
    ·rw [htk' i hid] at hk
     have hne : b2 ≠ b := fun e3 => hid (hR.tinj i id b2 s2 e2 s e (ht.old hi hid) hlt hk (by rw [htk, e3]) hs2 hse)
     obtain ⟨arr', T', g1, g2, g3, g4, g5⟩ := hR.tok i b2 s2 e2 (ht.old hi hid) hk hs2
     refine ⟨arr', T', by rw [hoth _ hne]; exact g1, g2, fun o o1 o2 hi' => ?_, fun r cs' hv => g4 r cs' (by rw [← ht.var]; exact hv), g5⟩
     rcases hi' with hi' | ⟨e3, _⟩
     ·exact g3 o o1 o2 hi'
     ·exact hne e3
   tinj := fun i i' b2 s2 e2 s3 e3 g1 g2 k1 k2 hs2 hs3 => by
    by_cases hi : i = id <;> by_cases hi' : i' = id
    ·omega
    ·rw [hi, htki] at k1
     rw [htk' i' hi'] at k2
     cases k1
     have := hR.tinj id i' b s e s3 e3 hlt (ht.old g2 hi') htk k2 hse hs3
     omega
    ·rw [hi', htki] at k2
     rw [htk' i hi] at k1
     cases k2
     have := hR.tinj i id b s2 e2 s e (ht.old g1 hi) hlt k1 htk hs2 hse
     omega
    ·rw [htk' i hi] at k1
     rw [htk' i' hi'] at k2
     exact hR.tinj i i' b2 s2 e2 s3 e3 (ht.old g1 hi) (ht.old g2 hi') k1 k2 hs2 hs3
   imlt := fun b' o hi => by
    show b' < (w.setRow b _).heap.size
    rw [size_setRow]
    rcases hi with hi | ⟨e2, _⟩
    ·exact hR.imlt b' o hi
    ·rw [e2]; exact (Array.getElem?_eq_some_iff.1 hb).1 }
 ·have hkl : k < vs.length := (List.getElem?_eq_some_iff.1 hk).1
  rw [hcell, if_pos ⟨by omega, by omega⟩]
  rw [show s + k - s = k by omega]
  exact hk
/-- A token goes on while nothing is written. -/
theorem bRq (hR : RM φ m w) {m' : Mem} {id : Nat} (ht : TokStep m m' id) (b x y : Nat) (h : x = y ∨ (id < m.toks.length ∧ φ.tk id = (b, x, y))) :
  let φ' : Phi := { φ with tk := fun i => if i = id then (b, x, y) else φ.tk i }
  RM φ' m' w ∧ Ext φ m w φ' m' w := by
 intro φ'
 have htk' : ∀ i, i ≠ id → φ'.tk i = φ.tk i := fun i hi => if_neg hi
 have htki : φ'.tk id = (b, x, y) := if_pos rfl
 have back : ∀ i b2 s2 e2, i < m'.toks.length → φ'.tk i = (b2, s2, e2) → s2 < e2 → i < m.toks.length ∧ φ.tk i = (b2, s2, e2) := fun i b2 s2 e2 hi hk hs => by
  by_cases hid : i = id
  ·subst hid
   rw [htki] at hk
   cases hk
   rcases h with h | h
   ·omega
   ·exact h
  ·rw [htk' i hid] at hk
   exact ⟨ht.old hi hid, hk⟩
 have hext : Ext φ m w φ' m' w := {
  os := rfl, tape := rfl, output := rfl, size := Nat.le_refl _
  im := fun b' o hi => ⟨hi, rfl⟩
  vb := fun r cs' hv => ⟨rfl, cs', by rw [ht.var]; exact hv, rfl⟩
  tk := fun i v hv => aDe ht htk' i v hv
  blk := fun b' hb' hno => rfl
  own := fun b' ho => by
   left
   rcases ho with ⟨r, cs', hv, e2⟩ | ⟨i, s2, e2, hi, hk, hs2⟩
   ·exact .inl ⟨r, cs', by rw [← ht.var]; exact hv, e2⟩
   ·exact .inr ⟨i, s2, e2, (back i b' s2 e2 hi hk hs2).1, (back i b' s2 e2 hi hk hs2).2, hs2⟩
  imn := fun b' o hi => .inl hi }
 refine ⟨?_, hext⟩
 exact {
  var := fun r cs' hv => by
   rw [ht.var] at hv
   obtain ⟨arr', T', g1, g2, g3⟩ := hR.var r cs' hv
   exact ⟨arr', T', g1, g2.mono hext, g3⟩
  inj := fun r r' c1 c2 g1 g2 e2 => by rw [ht.var] at g1 g2; exact hR.inj r r' c1 c2 g1 g2 e2
  vim := fun r cs' o hv hi => by rw [ht.var] at hv; exact hR.vim r cs' o hv hi
  tok := fun i b2 s2 e2 hi hk hs2 => by
   obtain ⟨k1, k2⟩ := back i b2 s2 e2 hi hk hs2
   obtain ⟨arr', T', g1, g2, g3, g4, g5⟩ := hR.tok i b2 s2 e2 k1 k2 hs2
   exact ⟨arr', T', g1, g2, g3, fun r cs' hv => g4 r cs' (by rw [← ht.var]; exact hv), g5⟩
  tinj := fun i i' b2 s2 e2 s3 e3 g1 g2 k1 k2 hs2 hs3 =>
   hR.tinj i i' b2 s2 e2 s3 e3 (back i b2 s2 e2 g1 k1 hs2).1 (back i' b2 s3 e3 g2 k2 hs3).1 (back i b2 s2 e2 g1 k1 hs2).2 (back i' b2 s3 e3 g2 k2 hs3).2 hs2 hs3
  imlt := hR.imlt }
end
end
section
section
variable {P : Program} {φ : Phi} {m : Mem} {w : World}

/-! ### cells of a value -/
theorem aDh {a : AV} {x : Value} (h : Rep φ m w a x) (hok : okCell a = true) : one x = true := by
 cases h <;> simp_all [okCell, one]
theorem aF5 {a : AV} {x : Value} {cs : List AV} (h : Rep φ m w a x) (hc : cellsOf a = some cs) : Reps φ m w cs x.cells ∧ cs.all okCell = true := by
 unfold cellsOf at hc
 split at hc
 ·rename_i hok
  simp only [Option.some.injEq] at hc
  subst hc
  refine ⟨?_, hok⟩
  have single : ∀ a x, Rep φ m w a x → one x = true → Reps φ m w [a] x.cells := fun a x h ho => by
   have e : x.cells = #[x] := by cases x <;> simp_all [one, Value.cells]
   rw [e]
   refine ⟨rfl, fun i b u h1 h2 => ?_⟩
   cases i with
   | zero => simp at h1 h2; subst h1; subst h2; exact h
   | succ i => simp at h1
  cases h with
  | agg cs arr hn hr => exact ⟨hn, hr⟩
  | junk x => simp [aEc, okCell] at hok
  | v x => exact single _ _ (.v x) (by simpa [aEc, okCell] using hok)
  | tup cs arr hn hr => simp [aEc, okCell] at hok
  | lst g sz rows a c val h1 h2 h3 h4 h5 h6 h7 => exact single _ _ (.lst g sz rows a c val h1 h2 h3 h4 h5 h6 h7) rfl
  | ptr r off cs h => exact single _ _ (.ptr r off cs h) rfl
  | eptr cs ad val h1 h2 h3 => simp [aEc, okCell] at hok
  | vs r off sz n c cs h1 h2 h3 => exact single _ _ (.vs r off sz n c cs h1 h2 h3) rfl
  | fn f a b c d h1 h2 h3 h4 => exact single _ _ (.fn f a b c d h1 h2 h3 h4) rfl
 ·cases hc
theorem sM {a b : AV} {x : Value} (h : Rep φ m w a x) (hb : gF a = some b) : Rep φ m w b x ∧ one x = true := by
 unfold gF at hb
 split at hb
 ·split at hb
  ·rename_i ho
   simp only [Option.some.injEq] at hb
   subst hb
   cases h
   exact ⟨.v _, ho⟩
  ·cases hb
 ·simp only [Option.some.injEq] at hb
  subst hb
  cases h with
  | lst g sz rows a c val h1 h2 h3 h4 h5 h6 h7 => exact ⟨.lst .no _ _ a c val h1 h2 h3 h4 h5 h6 trivial, rfl⟩
 ·cases hb
theorem jS {α β : Type} {f : α → Option β} : ∀ {l : List α} {r : List β}, l.mapM f = some r → r.length = l.length ∧ ∀ (i : Nat) b, r[i]? = some b → ∃ a, l[i]? = some a ∧ f a = some b
 | [], r, h => by simp at h; subst h; exact ⟨rfl, fun i b h => by simp at h⟩
 | a :: l, r, h => by
  simp only [List.mapM_cons, Option.bind_eq_bind, Option.bind_eq_some_iff] at h
  obtain ⟨b, hb, r', hr', h⟩ := h
  simp only [Option.pure_def, Option.some.injEq] at h
  subst h
  obtain ⟨h1, h2⟩ := jS hr'
  refine ⟨by simp [h1], fun i c hc => ?_⟩
  cases i with
  | zero => simp at hc; subst hc; exact ⟨a, rfl, hb⟩
  | succ i => exact h2 i c (by simpa using hc)
theorem bJn {a : AV} {x : Value} (h : Rep φ m w a x) (hne : ∀ cs, a = .agg cs ∨ ∃ b, gF a = some b) : Reps φ m w (aEc a) x.cells := by
 rcases hne [] with e | ⟨b, hb⟩
 ·subst e
  cases h with
  | agg cs arr hn hr => exact ⟨hn, hr⟩
 ·have ho := (sM h hb).2
  have e : x.cells = #[x] := by cases x <;> simp_all [one, Value.cells]
  rw [e]
  have ef : aEc a = [a] := by cases a <;> simp_all [gF, aEc]
  rw [ef]
  refine ⟨rfl, fun i b u h1 h2 => ?_⟩
  cases i with
  | zero => simp at h1 h2; subst h1; subst h2; exact h
  | succ i => simp at h1
theorem aIs {a : AV} {row : List AV} (hr : aJm a = some row) : row.all kD = true := by
 rw [List.all_eq_true]
 intro b hb
 obtain ⟨i, hi⟩ := List.getElem?_of_mem hb
 obtain ⟨c, hc, h⟩ := (jS hr).2 i b hi
 unfold gF at h
 split at h
 ·split at h
  ·cases h; rfl
  ·cases h
 ·cases h; rfl
 ·cases h
theorem bLs {a : AV} {x : Value} {row : List AV} (h : Rep φ m w a x) (hr : aJm a = some row) : Reps φ m w row x.cells ∧ ∀ (i : Nat) u, x.cells[i]? = some u → one u = true := by
 unfold aJm at hr
 obtain ⟨h1, h2⟩ := jS hr
 have hf : Reps φ m w (aEc a) x.cells := by
  cases h with
  | agg cs arr hn hr2 => exact ⟨hn, hr2⟩
  | _ =>
   refine bJn (by constructor <;> assumption) (fun _ => .inr ?_)
   simp only [aEc, List.mapM_cons, List.mapM_nil] at hr
   cases hc : gF _ with
   | none => simp [hc] at hr
   | some b => exact ⟨b, rfl⟩
 refine ⟨⟨by rw [h1]; exact hf.1, fun i b u e1 e2 => ?_⟩, fun i u e2 => ?_⟩
 ·obtain ⟨c, hc, hb⟩ := h2 i b e1
  exact (sM (hf.2 i c u hc e2) hb).1
 ·have hlt : i < row.length := by
   rw [h1, ← hf.1]
   exact (Array.getElem?_eq_some_iff.1 e2).1
  obtain ⟨c, hc, hb⟩ := h2 i _ (List.getElem?_eq_getElem hlt)
  exact (sM (hf.2 i c u hc e2) hb).2

/-! ### the model's own filling -/
theorem aG5 (off : Nat) : ∀ (l : List Value) (k : Nat) (cells : Array Value),
  ((l.zipIdx k).foldl (fun cs (p : Value × Nat) => cs.setIfInBounds (off + p.2) p.1) cells).size = cells.size ∧
  ∀ i : Nat, ((l.zipIdx k).foldl (fun cs (p : Value × Nat) => cs.setIfInBounds (off + p.2) p.1) cells)[i]? =
   if off + k ≤ i ∧ i < off + k + l.length ∧ i < cells.size then l[i - (off + k)]? else cells[i]?
 | [], k, cells => by simp; intro i h1 h2; omega
 | v :: l, k, cells => by
  obtain ⟨h1, h2⟩ := aG5 off l (k + 1) (cells.setIfInBounds (off + k) v)
  simp only [List.zipIdx_cons, List.foldl_cons]
  refine ⟨by rw [h1]; simp, fun i => ?_⟩
  rw [h2]
  simp only [Array.size_setIfInBounds, List.length_cons]
  by_cases c1 : off + (k + 1) ≤ i ∧ i < off + (k + 1) + l.length ∧ i < cells.size
  ·rw [if_pos c1, if_pos ⟨by omega, by omega, c1.2.2⟩]
   obtain ⟨q, hq⟩ : ∃ q, i - (off + k) = q + 1 := ⟨i - (off + k) - 1, by omega⟩
   rw [hq]
   simp
   congr 1
   omega
  ·rw [if_neg c1]
   by_cases c2 : i = off + k
   ·subst c2
    by_cases c3 : off + k < cells.size
    ·rw [if_pos ⟨by omega, by omega, c3⟩]
     simp [c3]
    ·rw [if_neg (by omega)]
     simp [Array.getElem?_eq_none (Nat.le_of_not_lt c3)]
     omega
   ·rw [if_neg (by omega), Array.getElem?_setIfInBounds_ne (Ne.symm c2)]
theorem bOx {cells : List AV} {arr : Array Value} (h : Reps φ m w cells arr) {cs : List AV} {v : Value} (hc : Reps φ m w cs v.cells) {off : Nat} (hfit : off + cs.length ≤ cells.length) :
  Reps φ m w (cB cells off cs) (v.cells.zipIdx.foldl (fun cs (p : Value × Nat) => cs.setIfInBounds (off + p.2) p.1) arr) := by
 have e : v.cells.zipIdx.foldl (fun cs (p : Value × Nat) => cs.setIfInBounds (off + p.2) p.1) arr = (v.cells.toList.zipIdx 0).foldl (fun cs (p : Value × Nat) => cs.setIfInBounds (off + p.2) p.1) arr := by
  rw [← Array.foldl_toList, Array.toList_zipIdx]
 rw [e]
 obtain ⟨h1, h2⟩ := aG5 off v.cells.toList 0 arr
 refine ⟨by rw [h1, dR hfit]; exact h.1, fun i a u e1 e2 => ?_⟩
 rw [h2] at e2
 unfold cB at e1
 rw [getElem?_splice hfit] at e1
 have hl : v.cells.toList.length = cs.length := by simpa using hc.1
 split at e1
 ·rename_i c
  rw [if_pos ⟨by omega, by omega, by rw [h.1]; omega⟩] at e2
  exact hc.2 _ a u e1 (by simpa using e2)
 ·rename_i c
  split at e2
  ·omega
  ·exact h.2 i a u e1 e2
/-- Values beside their abstract values, at the same numbers. -/
def lT (φ : Phi) (m : Mem) (w : World) (ps : List (Nat × AV)) (vs : List (Nat × Value)) : Prop :=
 vs.length = ps.length ∧ ∀ (i : Nat) p v, ps[i]? = some p → vs[i]? = some v → v.1 = p.1 ∧ Rep φ m w p.2 v.2
theorem lT.tail {p v ps vs} (h : lT φ m w (p :: ps) (v :: vs)) : v.1 = p.1 ∧ Rep φ m w p.2 v.2 ∧ lT φ m w ps vs :=
 ⟨(h.2 0 p v rfl rfl).1, (h.2 0 p v rfl rfl).2, by simpa using h.1, fun i p v h1 h2 => h.2 (i + 1) p v (by simpa using h1) (by simpa using h2)⟩
theorem aCx {place : Nat → Option (Nat × Nat)} : ∀ (ps : List (Nat × AV)) (vs : List (Nat × Value)) (cells r : List AV) (arr : Array Value), lT φ m w ps vs → Reps φ m w cells arr → iB place cells ps = some r →
  ∃ arr', Instr.fill place arr vs = some arr' ∧ Reps φ m w r arr'
 | [], [], cells, r, arr, _, hc, h => by simp only [iB, Option.some.injEq] at h; subst h; exact ⟨arr, rfl, hc⟩
 | (i, x) :: ps, v :: vs, cells, r, arr, hp, hc, h => by
  obtain ⟨h1, h2, h3⟩ := hp.tail
  simp only [iB] at h
  split at h
  ·rename_i off k cs hpl hcs
   split at h
   ·rename_i hf
    obtain ⟨e1, e2⟩ := hf
    obtain ⟨hcv, _⟩ := aF5 h2 hcs
    obtain ⟨arr', hr, hrr⟩ := aCx ps vs _ r _ h3 (bOx hc hcv (off := off) (by omega)) h
    obtain ⟨vi, vx⟩ := v
    simp only at h1
    subst h1
    refine ⟨arr', ?_, hrr⟩
    simp only [Instr.fill, hpl]
    have g1 : vx.cells.size = k := by rw [hcv.1]; exact e1
    have g2 : off + vx.cells.size ≤ arr.size := by rw [hc.1, hcv.1]; omega
    rw [if_neg (by simp [g1]; omega)]
    exact hr
   ·cases h
  ·cases h
 | [], _ :: _, _, _, _, hp, _, _ => by have := hp.1; simp at this
 | _ :: _, [], _, _, _, hp, _, _ => by have := hp.1; simp at this
end
end
section
section
variable {P : Program} {φ : Phi} {m : Mem} {w : World}

/-! ### a list's cells, as one row -/
def rC (φ : Phi) (m : Mem) (w : World) (sz : Nat) (rows : List (List AV)) (f : Nat → Value) : Prop :=
 (∀ (i : Nat) row, rows[i]? = some row → row.length = sz ∧ row.all kD = true) ∧
 ∀ (i : Nat) row (j : Nat) x, rows[i]? = some row → row[j]? = some x → Rep φ m w x (f (i * sz + j)) ∧ one (f (i * sz + j)) = true
def wM (φ : Phi) (w : World) (ad : Addr) (n : Nat) (f : Nat → Value) : Prop :=
 ∀ k, k < n → φ.im ad.block (ad.off + k) ∧ w.cell? ⟨ad.block, ad.off + k, none⟩ = some (f k)
theorem rC.mono {φ' m' w' sz rows f} (h : rC φ m w sz rows f) (hx : Ext φ m w φ' m' w') : rC φ' m' w' sz rows f :=
 ⟨h.1, fun i row j x h1 h2 => ⟨(h.2 i row j x h1 h2).1.mono hx, (h.2 i row j x h1 h2).2⟩⟩
theorem wM.mono {φ' m' w' ad n f} (h : wM φ w ad n f) (hx : Ext φ m w φ' m' w') : wM φ' w' ad n f :=
 fun k hk => ⟨(hx.im _ _ (h k hk).1).1, (hx.im _ _ (h k hk).1).2.trans (h k hk).2⟩
theorem aBb {g : Grow} {sz : Nat} {rows : List (List AV)} {v : Value} (h : Rep φ m w (.lst g sz rows) v) :
  ∃ a c f, v = .slice a rows.length c ∧ rows.length ≤ c ∧ (a = none → c = 0) ∧ (∀ ad, a = some ad → 0 < c → ad.spot = none) ∧ rC φ m w sz rows f ∧ (∀ ad, a = some ad → wM φ w ad (rows.length * sz) f) ∧ aAk φ m g a rows.length c sz := by
 cases h with
 | lst _ _ _ a c val hc hr ha hs hcell hrep hg =>
  refine ⟨a, c, fun k => val (k / sz) (k % sz), rfl, hc, ha, hs, ⟨hr, fun i row j x h1 h2 => ?_⟩, fun ad had k hk => ?_, hg⟩
  ·have hj : j < sz := by rw [← (hr i row h1).1]; exact (List.getElem?_eq_some_iff.1 h2).1
   have e1 : (i * sz + j) / sz = i := by rw [Nat.mul_comm, Nat.mul_add_div (by omega)]; simp [Nat.div_eq_of_lt hj]
   have e2 : (i * sz + j) % sz = j := by rw [Nat.mul_comm, Nat.mul_add_mod]; exact Nat.mod_eq_of_lt hj
   simp only [e1, e2]
   refine ⟨hrep i row j x h1 h2, ?_⟩
   cases a with
   | none => have := ha rfl; have := (List.getElem?_eq_some_iff.1 h1).1; omega
   | some ad => exact (hcell ad i row j x rfl h1 h2).2.2
  ·have hsz : 0 < sz := Nat.pos_of_ne_zero (fun e => by subst e; simp at hk)
   have hi : k / sz < rows.length := by rw [Nat.div_lt_iff_lt_mul hsz]; exact hk
   have hrow := List.getElem?_eq_getElem hi
   have hl := (hr _ _ hrow).1
   have hj : k % sz < (rows[k / sz]).length := by rw [hl]; exact Nat.mod_lt _ hsz
   obtain ⟨g1, g2, _⟩ := hcell ad (k / sz) _ (k % sz) _ had hrow (List.getElem?_eq_getElem hj)
   have e : ad.off + k / sz * sz + k % sz = ad.off + k := by have := Nat.div_add_mod k sz; rw [Nat.mul_comm] at this; omega
   rw [e] at g1 g2
   exact ⟨g1, g2⟩
theorem aVa {g : Grow} {sz : Nat} {rows : List (List AV)} {a : Option Addr} {c n : Nat} {f : Nat → Value} (hn : n = rows.length) (hc : rows.length ≤ c) (ha : a = none → c = 0) (hs : ∀ ad, a = some ad → 0 < c → ad.spot = none)
  (hr : rC φ m w sz rows f) (hcell : ∀ ad, a = some ad → wM φ w ad (rows.length * sz) f) (hg : aAk φ m g a rows.length c sz) : Rep φ m w (.lst g sz rows) (.slice a n c) := by
 subst hn
 refine .lst g sz rows a c (fun i j => f (i * sz + j)) hc hr.1 ha hs (fun ad i row j x had h1 h2 => ?_) (fun i row j x h1 h2 => (hr.2 i row j x h1 h2).1) hg
 have hi := (List.getElem?_eq_some_iff.1 h1).1
 have hj : j < sz := by rw [← (hr.1 i row h1).1]; exact (List.getElem?_eq_some_iff.1 h2).1
 have hk : i * sz + j < rows.length * sz := by
  have : (i + 1) * sz ≤ rows.length * sz := Nat.mul_le_mul_right _ hi
  rw [Nat.add_mul] at this
  omega
 obtain ⟨g1, g2⟩ := hcell ad had _ hk
 rw [Nat.add_assoc]
 exact ⟨g1, g2, (hr.2 i row j x h1 h2).2⟩
theorem aCf {sz : Nat} {xs ys : List (List AV)} {f g : Nat → Value} (hx : rC φ m w sz xs f) (hy : rC φ m w sz ys g) :
  rC φ m w sz (xs ++ ys) (fun k => if k < xs.length * sz then f k else g (k - xs.length * sz)) := by
 have inx : ∀ (i : Nat) row (j : Nat) x, xs[i]? = some row → row[j]? = some x → i * sz + j < xs.length * sz := fun i row j x h1 h2 => by
  have hi := (List.getElem?_eq_some_iff.1 h1).1
  have hj : j < sz := by rw [← (hx.1 i row h1).1]; exact (List.getElem?_eq_some_iff.1 h2).1
  have : (i + 1) * sz ≤ xs.length * sz := Nat.mul_le_mul_right _ hi
  rw [Nat.add_mul] at this
  omega
 refine ⟨fun i row h1 => ?_, fun i row j x h1 h2 => ?_⟩
 ·rw [List.getElem?_append] at h1
  split at h1
  ·exact hx.1 i row h1
  ·exact hy.1 _ row h1
 ·rw [List.getElem?_append] at h1
  dsimp only
  split at h1
  ·rw [if_pos (inx i row j x h1 h2)]
   exact hx.2 i row j x h1 h2
  ·rename_i hi
   have e : i * sz + j - xs.length * sz = (i - xs.length) * sz + j := by rw [Nat.sub_mul]; have : xs.length * sz ≤ i * sz := Nat.mul_le_mul_right _ (by omega); omega
   have : xs.length * sz ≤ i * sz := Nat.mul_le_mul_right _ (by omega)
   rw [if_neg (by omega), e]
   exact hy.2 _ row j x h1 h2

/-! ### literals -/
theorem aHz (k : Nat) : ∀ (ps : List (Nat × AV)) (vs : List (Nat × Value)) (j : Nat) (rows : List (List AV)) (arr : Array Value), lT φ m w ps vs → mI k j ps = some rows → (j + ps.length) * k ≤ arr.size →
  ∃ arr', Instr.fill (fun i => some (i * k, k)) arr vs = some arr' ∧ arr'.size = arr.size ∧ (∀ q, q < j * k → arr'[q]? = arr[q]?) ∧ rows.length = ps.length ∧
   ∀ (i : Nat) row, rows[i]? = some row → (row.length = k ∧ row.all kD = true) ∧ ∀ (q : Nat) x, row[q]? = some x → ∃ u, arr'[(j + i) * k + q]? = some u ∧ Rep φ m w x u ∧ one u = true
 | [], [], j, rows, arr, _, h, _ => by
  simp only [mI, Option.some.injEq] at h
  subst h
  exact ⟨arr, rfl, rfl, fun _ _ => rfl, rfl, fun i row h => by simp at h⟩
 | (i, x) :: ps, (vi, vx) :: vs, j, rows, arr, hp, h, hsz => by
  obtain ⟨h1, h2, h3⟩ := hp.tail
  simp only [mI] at h
  split at h
  ·rename_i row hrow
   split at h
   ·rename_i hc
    obtain ⟨rfl, hk⟩ := hc
    simp only at h1
    subst h1
    cases hrest : mI k (vi + 1) ps with
    | none => simp [hrest] at h
    | some rows' =>
     simp only [hrest, Option.map_some, Option.some.injEq] at h
     subst h
     obtain ⟨hreps, hone⟩ := bLs h2 hrow
     have hvk : vx.cells.size = k := by rw [hreps.1]; exact hk
     have hm : (vi + (ps.length + 1)) * k = vi * k + k + ps.length * k := by rw [Nat.add_mul, Nat.add_mul]; omega
     simp only [List.length_cons] at hsz
     have e : vx.cells.zipIdx.foldl (fun cs (p : Value × Nat) => cs.setIfInBounds (vi * k + p.2) p.1) arr = (vx.cells.toList.zipIdx 0).foldl (fun cs (p : Value × Nat) => cs.setIfInBounds (vi * k + p.2) p.1) arr := by
      rw [← Array.foldl_toList, Array.toList_zipIdx]
     obtain ⟨s1, s2⟩ := aG5 (vi * k) vx.cells.toList 0 arr
     rw [← e] at s1 s2
     obtain ⟨arr', r1, r2, r3, r4, r5⟩ := aHz k ps vs (vi + 1) rows' _ h3 hrest (by rw [s1, Nat.add_mul, Nat.add_mul]; omega)
     refine ⟨arr', ?_, by rw [r2, s1], fun q hq => ?_, by simp [r4], fun i row' hi => ?_⟩
     ·simp only [Instr.fill]
      rw [if_neg (by simp [hvk]; omega)]
      exact r1
     ·rw [r3 q (by rw [Nat.add_mul]; omega), s2, if_neg (by omega)]
     ·cases i with
      | zero =>
       simp at hi
       subst hi
       refine ⟨⟨hk, aIs hrow⟩, fun q x' hx => ?_⟩
       have hq : q < k := by rw [← hk]; exact (List.getElem?_eq_some_iff.1 hx).1
       have hqv : q < vx.cells.size := by omega
       refine ⟨vx.cells[q], ?_, hreps.2 q x' _ hx (Array.getElem?_eq_getElem hqv), hone q _ (Array.getElem?_eq_getElem hqv)⟩
       rw [Nat.add_zero, r3 _ (by rw [Nat.add_mul]; omega), s2]
       simp only [Nat.add_zero, Array.length_toList]
       rw [if_pos ⟨by omega, by omega, by omega⟩, show vi * k + q - vi * k = q by omega]
       simp [hqv]
      | succ i =>
       obtain ⟨g1, g2⟩ := r5 i row' (by simpa using hi)
       refine ⟨g1, fun q x' hx => ?_⟩
       obtain ⟨u, u1, u2⟩ := g2 q x' hx
       exact ⟨u, by rw [show vi + (i + 1) = vi + 1 + i by omega]; exact u1, u2⟩
   ·cases h
  ·cases h
 | [], _ :: _, _, _, _, hp, _, _ => by have := hp.1; simp at this
 | _ :: _, [], _, _, _, hp, _, _ => by have := hp.1; simp at this
theorem aG6 (hR : RM φ m w) {t : TypeId} {n : Nat} {ps : List (Nat × AV)} {vs : Array (Nat × Value)} {a : AV} (hp : lT φ m w ps vs.toList) (h : bG P t n ps = some a) :
  ∃ y w' φ', (Instr.buildSlice t n vs).run P w = .ok y w' ∧ RM φ' m w' ∧ Ext φ m w φ' m w' ∧ Rep φ' m w' a y := by
 unfold bG at h
 split at h
 ·rename_i e he
  split at h
  ·rename_i k z hk hz
   split at h
   ·rename_i rows hrows
    split at h
    ·rename_i hc
     obtain ⟨hn, hlim, hzk⟩ := hc
     simp only [Option.some.injEq] at h
     subst h
     obtain ⟨zv, hzr, hzreps⟩ := mC (P := P) (φ := φ) (m := m) (w := w) hz
     have hps : rows.length = ps.length := by
      have : ∀ (ps : List (Nat × AV)) j rows, mI k j ps = some rows → rows.length = ps.length := by
       intro ps
       induction ps with
       | nil => intro j rows h; simp only [mI, Option.some.injEq] at h; subst h; rfl
       | cons p ps ih =>
        intro j rows h
        simp only [mI] at h
        split at h
        ·split at h
         ·cases hr : mI k (j + 1) ps with
          | none => simp [hr] at h
          | some r => simp only [hr, Option.map_some, Option.some.injEq] at h; subst h; simp [ih _ _ hr]
         ·cases h
        ·cases h
      exact this _ _ _ hrows
     -- the row that is filled
     have main : ∀ z0 : Array Value, ∃ arr', Instr.fill (fun i => some (i * k, k)) ((Array.range (n * k)).map (z0[· % z0.size]!)) vs.toList = some arr' ∧
       ∃ φ', RM φ' m (w.alloc (.cells arr' e)) ∧ Ext φ m w φ' m (w.alloc (.cells arr' e)) ∧ Rep φ' m (w.alloc (.cells arr' e)) (.lst .full k rows) (.slice (some ⟨w.heap.size, 0, none⟩) n n) := by
      intro z0
      obtain ⟨arr', r1, r2, _, _, r5⟩ := aHz (φ := φ) (m := m) (w := w) k ps vs.toList 0 rows ((Array.range (n * k)).map (z0[· % z0.size]!)) hp hrows (by rw [show ps.length = n by omega]; simp)
      obtain ⟨hR', hE'⟩ := bJ3 hR arr' e
      refine ⟨arr', r1, _, hR', hE', ?_⟩
      refine aVa (f := fun q => arr'.getD q undef) hn.symm (by omega) (fun e => by cases e) (fun ad e _ => by cases e; rfl) ⟨fun i row hi => (r5 i row hi).1, fun i row j x h1 h2 => ?_⟩ (fun ad had => ?_) (show rows.length = n from hn)
      ·obtain ⟨u, u1, u2, u3⟩ := (r5 i row h1).2 j x h2
       rw [Nat.zero_add] at u1
       have : arr'.getD (i * k + j) undef = u := by rw [Array.getD_eq_getD_getElem?, u1]; rfl
       dsimp only
       rw [this]
       exact ⟨u2.mono hE', u3⟩
      ·cases had
       intro q hq
       refine ⟨.inr rfl, ?_⟩
       have hq' : q < arr'.size := by rw [r2]; simp; rw [← hn]; exact hq
       simp only [World.cell?, heap_alloc_new]
       simp [Array.getD, hq']
     have hlim' : ¬ (n * k > 2 ^ 24) := by omega
     by_cases h0 : n * k = 0
     ·obtain ⟨arr', f1, φ', g1, g2, g3⟩ := main #[]
      refine ⟨_, _, φ', ?_, g1, g2, g3⟩
      simp only [Instr.buildSlice, Sem.run_bind, aN (bH he), Result.andThen_ok, bL hk, Sem.run_ite, if_neg hlim', if_pos h0, Sem.run_pure, f1]
      simp [newRow, World.alloc, -World.alloc_eq]
     ·obtain ⟨arr', f1, φ', g1, g2, g3⟩ := main zv.cells
      refine ⟨_, _, φ', ?_, g1, g2, g3⟩
      simp only [Instr.buildSlice, Sem.run_bind, aN (bH he), Result.andThen_ok, bL hk, Sem.run_ite, if_neg hlim', if_neg h0, hzr, Sem.run_pure, f1]
      simp [newRow, World.alloc, -World.alloc_eq]
    ·cases h
   ·cases h
  ·cases h
 ·cases h
end
end
section
section
variable {P : Program} {φ : Phi} {m : Mem} {w : World}

/-- What the model reads of a list's first cells. -/
theorem vM {a : Option Addr} {n c sz : Nat} {f : Nat → Value} {w' : World} (ha : a = none → n = 0) (hs : ∀ ad, a = some ad → 0 < n → ad.spot = none) (hc : ∀ ad, a = some ad → wM φ w ad (n * sz) f)
  (hw : ∀ ad, a = some ad → ∀ k, k < n * sz → w'.cell? ⟨ad.block, ad.off + k, none⟩ = w.cell? ⟨ad.block, ad.off + k, none⟩) :
  (Builtin.firstCells sz n (.slice a n c)).run P w' = .ok ((List.range (n * sz)).map f).toArray w' := by
 cases a with
 | none =>
  have := ha rfl
  subst this
  simp [Builtin.firstCells]
 | some ad =>
  have h2 := hc ad rfl
  simp only [Builtin.firstCells]
  exact run_loadCells (P := P) w' ad (n * sz) f (fun j hj => by
   have hn0 : 0 < n := Nat.pos_of_ne_zero (fun e => by subst e; simp at hj)
   rw [eU (hs ad rfl hn0), hw ad rfl j hj]
   exact (h2 j hj).2)
theorem pE {t t2 ty e e2 : TypeId} {sz : Nat} (ht : P.underlying t = some (.slice e)) (ht2 : P.underlying t2 = some (.slice e2)) (hs : cA P e = some sz)
  {a a2 : Option Addr} {n c n2 c2 : Nat} {news : Array Value} (hf : (Builtin.firstCells sz n2 (.slice a2 n2 c2)).run P w = .ok news w) (hroom : n + n2 ≤ c) :
  (Builtin.append_ #[t, t2] ty #[.slice a n c, .slice a2 n2 c2]).run P w =
   match a with
   | some ad => ((storeCells (ad.add (n * sz)) news.toList).run P w).andThen fun _ w' => .ok (.slice (some ad) (n + n2) c) w'
   | none => .ok (.slice none (n + n2) c) w := by
 cases a with
 | none => simp [Builtin.append_, aN ht, aN ht2, bL hs, Builtin.lenOf, hroom, hf]
 | some ad => simp [Builtin.append_, aN ht, aN ht2, bL hs, Builtin.lenOf, hroom, hf]
theorem iU {t t2 ty e e2 : TypeId} {i : TypeInfo} {z : Value} (ht : P.underlying t = some (.slice e)) (ht2 : P.underlying t2 = some (.slice e2)) (hi : P.info? e = some i) (hz : i.zero = some z)
  {a a2 : Option Addr} {n c n2 c2 : Nat} {olds news : Array Value} (ho : (Builtin.firstCells i.size n (.slice a n c)).run P w.drew = .ok olds w.drew)
  (hf : (Builtin.firstCells i.size n2 (.slice a2 n2 c2)).run P w.drew = .ok news w.drew) (hg : c < n + n2) (h63 : ((n + n2 : Nat) : Int) ≤ 9223372036854775807)
  (hfit : Builtin.nextslicecap (n + n2) c * i.bytes ≤ 281474976710656) :
  (Builtin.append_ #[t, t2] ty #[.slice a n c, .slice a2 n2 c2]).run P w =
   .ok (.slice (some ⟨w.heap.size, 0, none⟩) (n + n2) (grownCap w (n + n2) c e))
    (w.drew.alloc (.cells (olds ++ news ++ Builtin.zeroCells z.cells (grownCap w (n + n2) c e - (n + n2))) e)) := by
 have hn : ¬ (n + n2 ≤ c) := by omega
 have h63' : ¬ (9223372036854775807 < ((n : Int) + (n2 : Int))) := by omega
 have h48' : ¬ (281474976710656 < Builtin.nextslicecap (n + n2) c * i.bytes) := by omega
 simp [Builtin.append_, aN ht, aN ht2, sizeOf, typeInfo, zeroValue, hi, hz, Builtin.lenOf, hn, h63', h48', Question.forced, hf, ho, newRow, grownCap]
theorem lN (w : World) (need old : Nat) (e : TypeId) : need ≤ grownCap w need old e := by
 simp only [grownCap, Question.cut]
 omega

theorem aMj {k : Nat} {x : AV} {v : Value} {g : Grow} {xs : List (List AV)} (h : Rep φ m w x v) (hl : tS k x = some (g, xs)) :
  ∃ a c f, v = .slice a xs.length c ∧ xs.length ≤ c ∧ (a = none → c = 0) ∧ (∀ ad, a = some ad → 0 < c → ad.spot = none) ∧ rC φ m w k xs f ∧ (∀ ad, a = some ad → wM φ w ad (xs.length * k) f) ∧ aAk φ m g a xs.length c k := by
 unfold tS at hl
 split at hl
 ·split at hl
  ·rename_i hs
   subst hs
   simp only [Option.some.injEq, Prod.mk.injEq] at hl
   obtain ⟨rfl, rfl⟩ := hl
   exact aBb h
  ·cases hl
 ·simp only [Option.some.injEq, Prod.mk.injEq] at hl
  obtain ⟨rfl, rfl⟩ := hl
  cases h
  exact ⟨none, 0, fun _ => undef, rfl, Nat.le_refl _, fun _ => rfl, (fun ad h => by cases h), ⟨(fun i row h => by simp at h), (fun i row j x h => by simp at h)⟩, (fun ad h => by cases h), rfl⟩
 ·cases hl

theorem aTe (hR : RM φ m w) {t t2 : TypeId} (ty : TypeId) {x y a : AV} {xv yv : Value} {m' : Mem} (hx : Rep φ m w x xv) (hy : Rep φ m w y yv) (h : kE P t t2 m x y = some (a, m')) :
  ∃ v w' φ', (Builtin.append_ #[t, t2] ty #[xv, yv]).run P w = .ok v w' ∧ RM φ' m' w' ∧ Ext φ m w φ' m' w' ∧ Rep φ' m' w' a v := by
 unfold kE at h
 split at h
 ·rename_i e he
  split at h
  ·rename_i k b z hk hb hz
   split at h
   ·rename_i g xs g2 ys hxs hys
    split at h
    ·rename_i hc
     obtain ⟨hlim, hb4, hzk, hk0, hzok, he2⟩ := hc
     obtain ⟨ax, cx, f, rfl, hcx, hax, sx, rx, cellx, hgx⟩ := aMj hx hxs
     obtain ⟨ay, cy, f2, rfl, hcy, hay, sy, ry, celly, _⟩ := aMj hy hys
     -- which token it is then
     obtain ⟨id, ver, ht, rfl, hid, hver⟩ : ∃ id ver, TokStep m m' id ∧ a = .lst (.tok id ver) k (xs ++ ys) ∧ m'.toks[id]? = some ver ∧
       (xs.length = cx ∨ (id < m.toks.length ∧ ∀ ad, ax = some ad → φ.tk id = (ad.block, ad.off + xs.length * k, ad.off + cx * k))) := by
      split at h
      ·cases h
      ·cases h
      ·simp only [Option.some.injEq, Prod.mk.injEq] at h
       obtain ⟨rfl, rfl⟩ := h
       exact ⟨_, 0, aZ4 m, rfl, by simp, .inl hgx⟩
      ·rename_i id ver
       split at h
       ·rename_i hv
        simp only [Option.some.injEq, Prod.mk.injEq] at h
        obtain ⟨rfl, rfl⟩ := h
        have hlt := (List.getElem?_eq_some_iff.1 hv).1
        refine ⟨id, ver + 1, bC6 hv, rfl, by simp [hlt], ?_⟩
        obtain ⟨v, hv', _, hreg⟩ := hgx
        rw [hv] at hv'
        cases hv'
        have hreg := hreg rfl
        cases hax' : ax with
        | none => rw [hax'] at hreg; exact .inl hreg
        | some ad =>
         rw [hax'] at hreg
         exact .inr ⟨hlt, fun ad' e => by cases e; exact hreg⟩
       ·cases h
     have hgrow : ∀ (φ' : Phi) (A : Option Addr) n c, (∀ ad, A = some ad → φ'.tk id = (ad.block, ad.off + n * k, ad.off + c * k)) → (A = none → n = c) → aAk φ' m' (.tok id ver) A n c k := by
      intro φ' A n c h1 h2
      refine ⟨ver, hid, Nat.le_refl _, fun _ => ?_⟩
      cases A with
      | none => exact h2 rfl
      | some ad => exact h1 ad rfl
     have hu := bH he
     have hu2 := bH he2
     have hlen : (xs ++ ys).length = xs.length + ys.length := by simp
     have fy : ∀ w' : World, (∀ b o, w'.cell? ⟨b, o, none⟩ = w.cell? ⟨b, o, none⟩) → (Builtin.firstCells k ys.length (.slice ay ys.length cy)).run P w' = .ok ((List.range (ys.length * k)).map f2).toArray w' :=
      fun w' hw => vM (φ := φ) (w := w) (fun e => by have := hay e; omega) (fun ad e h0 => sy ad e (by omega)) celly (fun ad _ j _ => hw _ _)
     have fx : ∀ w' : World, (∀ b o, w'.cell? ⟨b, o, none⟩ = w.cell? ⟨b, o, none⟩) → (Builtin.firstCells k xs.length (.slice ax xs.length cx)).run P w' = .ok ((List.range (xs.length * k)).map f).toArray w' :=
      fun w' hw => vM (φ := φ) (w := w) (fun e => by have := hax e; omega) (fun ad e h0 => sx ad e (by omega)) cellx (fun ad _ j _ => hw _ _)
     have idx : ∀ {zs : List (List AV)} {fz : Nat → Value}, rC φ m w k zs fz → ∀ q, q < zs.length * k → one (fz q) = true := by
      intro zs fz hzs q hq
      have hi : q / k < zs.length := by rw [Nat.div_lt_iff_lt_mul hk0]; exact hq
      have hrow := List.getElem?_eq_getElem hi
      have hj : q % k < (zs[q / k]).length := by rw [(hzs.1 _ _ hrow).1]; exact Nat.mod_lt _ hk0
      have := (hzs.2 _ _ _ _ hrow (List.getElem?_eq_getElem hj)).2
      rwa [Nat.div_add_mod' q k] at this
     by_cases hroom : xs.length + ys.length ≤ cx
     ·-- there is room
      have hrun := pE (P := P) (w := w) (ty := ty) (t := t) hu hu2 hk (a := ax) (n := xs.length) (c := cx) (a2 := ay) (c2 := cy) (fy w (fun _ _ => rfl)) hroom
      by_cases hy0 : ys.length = 0
      ·-- nothing is written
       have hys0 : ys = [] := List.eq_nil_of_length_eq_zero hy0
       subst hys0
       have hst : (Builtin.append_ #[t, t2] ty #[.slice ax xs.length cx, .slice ay ([] : List (List AV)).length cy]).run P w = .ok (.slice ax xs.length cx) w := by
        rw [hrun]
        cases ax with
        | none => rfl
        | some ad => simp [storeCells]
       obtain ⟨B, X, Y, hB⟩ : ∃ B X Y, (X = Y ∨ (id < m.toks.length ∧ φ.tk id = (B, X, Y))) ∧ ∀ ad, ax = some ad → (B, X, Y) = (ad.block, ad.off + xs.length * k, ad.off + cx * k) := by
        cases ax with
        | none => exact ⟨0, 0, 0, .inl rfl, fun ad e => by cases e⟩
        | some ad =>
         refine ⟨ad.block, ad.off + xs.length * k, ad.off + cx * k, ?_, fun ad' e => by cases e; rfl⟩
         rcases hver with h1 | ⟨h1, h2⟩
         ·exact .inl (by rw [h1])
         ·exact .inr ⟨h1, h2 ad rfl⟩
       obtain ⟨hR', hE'⟩ := bRq hR ht B X Y hB.1
       refine ⟨_, w, _, hst, hR', hE', ?_⟩
       rw [List.append_nil]
       exact aVa rfl hcx hax sx (rx.mono hE') (fun ad e => (cellx ad e).mono hE') (hgrow _ ax xs.length cx (fun ad e => by rw [← hB.2 ad e]; exact if_pos rfl) (fun e => by have := hax e; omega))
      ·-- the new elements are written behind the old ones
       cases hax' : ax with
       | none => have := hax hax'; omega
       | some ad =>
        rw [hax'] at hrun hver cellx sx
        have hreg : id < m.toks.length ∧ φ.tk id = (ad.block, ad.off + xs.length * k, ad.off + cx * k) := by
         rcases hver with h1 | ⟨h1, h2⟩
         ·omega
         ·exact ⟨h1, h2 ad rfl⟩
        have hmul : (xs.length + ys.length) * k ≤ cx * k := Nat.mul_le_mul_right _ hroom
        rw [Nat.add_mul] at hmul
        have hpos : 0 < ys.length * k := Nat.mul_pos (by omega) hk0
        let vs : List Value := (List.range (ys.length * k)).map f2
        have hvl : vs.length = ys.length * k := by simp [vs]
        obtain ⟨arr, T, hb1, hsz, hR', hE', hnew⟩ := bIj hR ht hreg.1 hreg.2 (by omega) (vs := vs) (by rw [hvl]; omega) (fun v hv => by
         obtain ⟨q, hq, rfl⟩ := List.mem_map.1 hv
         exact idx ry q (List.mem_range.1 hq))
        have had := sx ad rfl (by omega)
        have hstore := run_storeCells_at P ad.block (ad.off + xs.length * k) T vs 0 arr w hb1 (by rw [hvl]; omega) (fun v hv => by
         obtain ⟨q, hq, rfl⟩ := List.mem_map.1 hv
         rw [← zK]
         exact idx ry q (List.mem_range.1 hq))
        refine ⟨.slice (some ad) (xs.length + ys.length) cx, _, _, ?_, hR', hE', ?_⟩
        ·rw [hrun]
         simp only
         rw [eU had]
         simp only [Nat.add_zero] at hstore
         rw [show List.map f2 (List.range (ys.length * k)) = vs from rfl, hstore]
         rfl
        ·refine aVa hlen.symm (by rw [hlen]; exact hroom) (fun e => by cases e) (fun ad' e _ => by cases e; exact had) (aCf (rx.mono hE') (ry.mono hE')) (fun ad' e => ?_) (hgrow _ _ _ _ (fun ad' e => ?_) (fun e => by cases e))
         ·cases e
          intro q hq
          rw [hlen, Nat.add_mul] at hq
          by_cases hq1 : q < xs.length * k
          ·have h9 := ((cellx ad rfl).mono hE') q hq1
           exact ⟨h9.1, h9.2.trans (by show some (f q) = some (if q < xs.length * k then f q else _); rw [if_pos hq1])⟩
          ·refine ⟨.inr ⟨rfl, by omega, by rw [hvl]; omega⟩, ?_⟩
           have hq2 : q - xs.length * k < ys.length * k := by omega
           have := hnew (q - xs.length * k) (f2 (q - xs.length * k)) (by simp [vs, hq2])
           rw [show ad.off + xs.length * k + (q - xs.length * k) = ad.off + q by omega] at this
           exact this.trans (by show some (f2 (q - xs.length * k)) = some (if q < xs.length * k then f q else f2 (q - xs.length * k)); rw [if_neg hq1])
         ·cases e
          rw [hlen, Nat.add_mul]
          have : (if id = id then (ad.block, ad.off + xs.length * k + vs.length, ad.off + cx * k) else φ.tk id) = (ad.block, ad.off + (xs.length * k + ys.length * k), ad.off + cx * k) := by
           rw [if_pos rfl, hvl, Nat.add_assoc]
          exact this
     ·-- a new row
      obtain ⟨zv, hzr, hzreps⟩ := mC (P := P) (φ := φ) (m := m) (w := w) hz
      cases hinfo : P.info? e with
      | none => simp [cA, hinfo] at hk
      | some i =>
       have hik : i.size = k := by simpa [cA, hinfo] using hk
       have hib : i.bytes = b := by simpa [lA, hinfo] using hb
       have hiz : i.zero = some zv := by
        cases hq : i.zero with
        | none => simp [zeroCells, hinfo, hq] at hz
        | some q => simp [zeroValue, typeInfo, hinfo, hq] at hzr; rw [hzr]
       have hneed : (xs.length + ys.length) * i.bytes ≤ 140737488355328 := by
        rw [hib]
        calc (xs.length + ys.length) * b ≤ 4294967296 * 4096 := Nat.mul_le_mul hlim hb4
         _ ≤ 140737488355328 := by decide
       have hfit := growslice_fits (need := xs.length + ys.length) (old := cx) (bytes := i.bytes) (by omega) hneed
       have hrun := iU (P := P) (w := w) (ty := ty) (t := t) (t2 := t2) hu hu2 hinfo hiz (a := ax) (n := xs.length) (c := cx) (a2 := ay) (n2 := ys.length) (c2 := cy)
        (by rw [hik]; exact fx w.drew (fun _ _ => rfl)) (by rw [hik]; exact fy w.drew (fun _ _ => rfl)) (by omega) (by unfold lim at hlim; omega) hfit
       have hcap := lN w (xs.length + ys.length) cx e
       generalize hC : grownCap w (xs.length + ys.length) cx e = C at hrun hcap
       let arr : Array Value := ((List.range (xs.length * k)).map f).toArray ++ ((List.range (ys.length * k)).map f2).toArray ++ Builtin.zeroCells zv.cells (C - (xs.length + ys.length))
       have hzs : zv.cells.size = k := by rw [hzreps.1]; exact hzk
       have hasz : arr.size = C * k := by
        simp only [arr, Builtin.zeroCells, Array.size_append, List.size_toArray, List.length_map, List.length_range, Array.size_map, Array.size_range, hzs]
        rw [← Nat.add_mul, ← Nat.add_mul]
        congr 1
        omega
       have hget : ∀ q, q < xs.length * k + ys.length * k → arr[q]? = some (if q < xs.length * k then f q else f2 (q - xs.length * k)) := by
        intro q hq
        simp only [arr]
        rw [Array.getElem?_append_left (by simp; omega), Array.getElem?_append]
        simp only [List.size_toArray, List.length_map, List.length_range]
        split
        ·rename_i h1; simp [h1]
        ·rename_i h1
         have : q - xs.length * k < ys.length * k := by omega
         simp [this]
       have hone : ∀ (o : Nat) u, arr[o]? = some u → one u = true := by
        intro o u ho
        by_cases h1 : o < xs.length * k + ys.length * k
        ·rw [hget o h1] at ho
         simp only [Option.some.injEq] at ho
         subst ho
         split
         ·rename_i h2; exact idx rx o h2
         ·exact idx ry _ (by omega)
        ·simp only [arr] at ho
         rw [Array.getElem?_append_right (by simp; omega)] at ho
         simp only [Builtin.zeroCells, Array.getElem?_map, Option.map_eq_some_iff] at ho
         obtain ⟨q, hq, rfl⟩ := ho
         have hm : q % zv.cells.size < zv.cells.size := Nat.mod_lt _ (by rw [hzs]; exact hk0)
         rw [getElem!_pos zv.cells _ hm]
         have hz' : q % zv.cells.size < z.length := by rw [← hzreps.1]; exact hm
         exact aDh (hzreps.2 _ _ _ (List.getElem?_eq_getElem hz') (Array.getElem?_eq_getElem hm)) (List.all_eq_true.1 hzok _ (List.getElem_mem hz'))
       have hRd := oH hR
       obtain ⟨hR', hE'⟩ := aPs (w := w.drew) hRd ht (arr := arr) e ((xs.length + ys.length) * k) hone
       have hE := (iR φ m w).trans hE'
       refine ⟨_, _, _, hrun, hR', hE, ?_⟩
       refine aVa hlen.symm (by rw [hlen]; exact hcap) (fun e => by cases e) (fun ad' e _ => by cases e; rfl) (aCf (rx.mono hE) (ry.mono hE)) (fun ad' e => ?_) (hgrow _ _ _ _ (fun ad' e => ?_) (fun e => by cases e))
       ·cases e
        intro q hq
        refine ⟨.inr ⟨rfl, by rw [hlen] at hq; simpa using hq⟩, ?_⟩
        rw [hlen, Nat.add_mul] at hq
        have := hget q hq
        have hh : ((w.drew).alloc (.cells arr e)).heap[w.heap.size]? = some (.cells arr e (0, 0)) := heap_alloc_new w.drew _
        simp only [World.cell?]
        show (match ((w.drew).alloc (.cells arr e)).heap[w.heap.size]? with | some (.cells c _ _) => if (none : Option Nat).isSome then none else c[0 + q]? | _ => none) = _
        rw [hh]
        simpa using this
       ·cases e
        rw [hlen]
        have : (if id = id then (w.drew.heap.size, (xs.length + ys.length) * k, arr.size) else φ.tk id) = (w.heap.size, 0 + (xs.length + ys.length) * k, 0 + C * k) := by
         rw [if_pos rfl, hasz]
         simp
        exact this
    ·cases h
   ·cases h
  ·cases h
 ·cases h
end
end
section
section
variable {P : Program} {φ : Phi} {m : Mem} {w : World}

theorem aGd {α β : Type} {g : α → Sem β} {r : α → β} : ∀ {fs : List α}, (∀ f ∈ fs, (g f).run P w = .ok (r f) w) → (fs.mapM g).run P w = .ok (fs.map r) w
 | [], _ => rfl
 | f :: fs, h => by
  have h1 := h f (by simp)
  have h2 := aGd (fs := fs) (fun x hx => h x (by simp [hx]))
  simp [List.mapM_cons, h1, h2]
theorem bB {n : Int} (h0 : -9223372036854775808 ≤ n) (h1 : n ≤ 9223372036854775807) : IntKind.i64.wrap n = n := by
 simp [IntKind.wrap, IntKind.bits, IntKind.signed]
 omega
theorem aX8 (hR : RM φ m w) {t : TypeId} {ps : List (Nat × AV)} {vs : Array (Nat × Value)} {a : AV} (hp : lT φ m w ps vs.toList) (h : cN P t ps = some a) :
  ∃ y, (Instr.build t vs).run P w = .ok y w ∧ Rep φ m w a y := by
 unfold cN at h
 split at h
 ·rename_i fs z hu hz
  obtain ⟨zv, hzr, hzreps⟩ := mC (P := P) (φ := φ) (m := m) (w := w) hz
  split at h
  ·rename_i hall
   cases hf : iB (fun i => (fs[i]?).bind fun f => (cA P f.type).map fun k => (f.offset, k)) z ps with
   | none => simp [hf] at h
   | some r =>
    simp only [hf, Option.map_some, Option.some.injEq] at h
    subst h
    obtain ⟨arr', r1, r2⟩ := aCx ps vs.toList z r zv.cells hp hzreps hf
    refine ⟨.agg arr', ?_, .agg _ _ r2.1 r2.2⟩
    have hm' : (fs.mapM (m := Sem) fun (f : Field) => do pure (f.offset, ← sizeOf f.type)).run P w = .ok (fs.map fun (f : Field) => (f.offset, (cA P f.type).getD 0)) w := by
     rw [Array.mapM_eq_mapM_toList]
     have hm := aGd (P := P) (w := w) (g := fun (f : Field) => do pure (f.offset, ← sizeOf f.type)) (r := fun (f : Field) => (f.offset, (cA P f.type).getD 0)) (fs := fs.toList) (fun f hf => by
      obtain ⟨k, hk⟩ := Option.isSome_iff_exists.1 (List.all_eq_true.1 hall f hf)
      simp [bL hk, hk])
     rw [Sem.run_map, hm]
     simp only [Result.andThen_ok]
     congr 1
     apply Array.ext'
     simp
    have hplace : (fun (i : Nat) => (fs.map fun (f : Field) => (f.offset, (cA P f.type).getD 0))[i]?) = fun (i : Nat) => (fs[i]?).bind fun (f : Field) => (cA P f.type).map fun k => (f.offset, k) := by
     funext i
     rw [Array.getElem?_map]
     cases hi : fs[i]? with
     | none => rfl
     | some f =>
      have hmem : f ∈ fs.toList := by
       have := Array.mem_of_getElem? hi
       exact Array.mem_toList_iff.2 this
      obtain ⟨k, hk⟩ := Option.isSome_iff_exists.1 (List.all_eq_true.1 hall f hmem)
      simp [hk]
    simp only [Instr.build, Sem.run_bind, hzr, Result.andThen_ok, aN hu, hm']
    rw [hplace, r1]
    rfl
  ·cases h
 ·rename_i n e z hu hz
  obtain ⟨zv, hzr, hzreps⟩ := mC (P := P) (φ := φ) (m := m) (w := w) hz
  split at h
  ·rename_i k hk
   cases hf : iB (fun i => some (i * k, k)) z ps with
   | none => simp [hf] at h
   | some r =>
    simp only [hf, Option.map_some, Option.some.injEq] at h
    subst h
    obtain ⟨arr', r1, r2⟩ := aCx ps vs.toList z r zv.cells hp hzreps hf
    refine ⟨.agg arr', ?_, .agg _ _ r2.1 r2.2⟩
    simp only [Instr.build, Sem.run_bind, hzr, Result.andThen_ok, aN hu, bL hk, r1]
    rfl
  ·cases h
 ·cases h

/-! ### variables -/
theorem aI7 (hR : RM φ m w) {t : TypeId} {z : List AV} {m' : Mem} {p : Nat} (hz : zeroCells P t = some z) (hok : z.all okCell = true) (h : newVar m p z = some m') :
  ∃ w' φ', (Instr.alloc t true (.tuple #[])).run P w = .ok (.pointer (some ⟨w.heap.size, 0, none⟩)) w' ∧ RM φ' m' w' ∧ Ext φ m w φ' m' w' ∧ Rep φ' m' w' (.ptr p 0) (.pointer (some ⟨w.heap.size, 0, none⟩)) := by
 obtain ⟨zv, hzr, hzreps⟩ := mC (P := P) (φ := φ) (m := m) (w := w) hz
 obtain ⟨φ', h1, h2, h3, h4⟩ := xV hR h hzreps hok t
 refine ⟨_, φ', ?_, h1, h2, ?_⟩
 ·simp [Instr.alloc, hzr, newVar, newRow, Go.newVar, World.alloc, -World.alloc_eq]
 ·rw [← h3]; exact .ptr p 0 z h4
theorem bI6 (hR : RM φ m w) {t : TypeId} {x : AV} {xv : Value} {cs : List AV} {m' : Mem} {p : Nat} (hx : Rep φ m w x xv) (hc : cellsOf x = some cs) (h : newVar m p cs = some m') :
  ∃ w' φ', (Instr.box t xv).run P w = .ok (.pointer (some ⟨w.heap.size, 0, none⟩)) w' ∧ RM φ' m' w' ∧ Ext φ m w φ' m' w' ∧ Rep φ' m' w' (.ptr p 0) (.pointer (some ⟨w.heap.size, 0, none⟩)) := by
 obtain ⟨hreps, hok⟩ := aF5 hx hc
 obtain ⟨φ', h1, h2, h3, h4⟩ := xV hR h hreps hok t
 refine ⟨_, φ', ?_, h1, h2, ?_⟩
 ·simp [Instr.box, newRow, Go.newVar, World.alloc, -World.alloc_eq]
 ·rw [← h3]; exact .ptr p 0 cs h4
theorem aXk (hR : RM φ m w) {t : TypeId} {p x : AV} {pv xv : Value} {m' : Mem} (hp : Rep φ m w p pv) (hx : Rep φ m w x xv) (h : aR P m t p x = some m') :
  ∃ w', (Instr.storeAt t pv xv).run P w = .ok () w' ∧ RM φ m' w' ∧ Ext φ m w φ m' w' := by
 unfold aR at h
 split at h
 ·rename_i r off cs k hcs hk
  split at h
  ·rename_i old hv
   split at h
   ·rename_i hc
    obtain ⟨h1, h2, h3⟩ := hc
    simp only [Option.some.injEq] at h
    subst h
    obtain ⟨hreps, hok⟩ := aF5 hx hcs
    cases hp with
    | ptr _ _ cs' hv' =>
     obtain ⟨arr, T, hb, harr, _, _⟩ := hR.var r old hv
     have hfit : off + cs.length ≤ old.length := by omega
     obtain ⟨g1, g2⟩ := bAz hR hv hfit hok h3 (vs := xv.cells.toList) (by simpa using hreps) hb harr rfl
     refine ⟨_, ?_, g1, g2⟩
     have hvs : xv.cells.size = k := by rw [hreps.1]; exact h1
     have hst := run_storeCells_at P (φ.vb r) off T xv.cells.toList 0 arr w hb (by rw [harr.1]; simp [hvs]; omega) (fun v hv => by
      obtain ⟨i, hi, rfl⟩ := List.getElem_of_mem hv
      rw [← zK]
      have hi' : i < cs.length := by rw [← hreps.1]; simpa using hi
      exact aDh (hreps.2 i cs[i] _ (List.getElem?_eq_getElem hi') (by simp at hi ⊢)) (List.all_eq_true.1 hok _ (List.getElem_mem hi')))
     simp only [Nat.add_zero] at hst
     simp only [Instr.storeAt, Instr.sureAddr, Sem.run_bind, Sem.run_pure, Result.andThen_ok, storeVar, bL hk, Sem.run_ite, hvs]
     simpa using hst
   ·cases h
  ·cases h
 ·cases h
theorem aKb (hR : RM φ m w) {t : TypeId} {n c : AV} {nv cv : Value} {cs : List AV} {sz k : Nat} {m' : Mem} {p : Nat} (hn : Rep φ m w n nv) (hc : Rep φ m w c cv)
  (h : gE P t n c = some (cs, sz, k)) (hm : newVar m p cs = some m') :
  ∃ v w' φ', (Instr.makeSlice t nv cv).run P w = .ok v w' ∧ RM φ' m' w' ∧ Ext φ m w φ' m' w' ∧ Rep φ' m' w' (.vs p 0 sz k k) v := by
 unfold gE at h
 split at h
 ·rename_i e kn n kc c he
  cases hn; cases hc
  split at h
  ·rename_i b z hk hb hz
   split at h
   ·rename_i hcond
    obtain ⟨hokz, rfl, h0, hbig, h63⟩ := hcond
    simp only [Option.some.injEq, Prod.mk.injEq] at h
    obtain ⟨rfl, rfl, rfl⟩ := h
    obtain ⟨zv, hzr, hzreps⟩ := mC (P := P) (φ := φ) (m := m) (w := w) hz
    have hzs : zv.cells.size = 1 := hzreps.1
    have hz0 : zv.cells[0]? = some (zv.cells[0]'(by omega)) := Array.getElem?_eq_getElem (by omega)
    have hzrep := hzreps.2 0 z _ rfl hz0
    let arr : Array Value := (Array.range n.toNat).map fun i => (if n.toNat = 0 then #[] else zv.cells)[i % (if n.toNat = 0 then #[] else zv.cells).size]!
    have hreps : Reps φ m w (List.replicate n.toNat z) arr := by
     refine ⟨by simp [arr], fun i a u h1 h2 => ?_⟩
     rw [List.getElem?_replicate] at h1
     split at h1
     ·rename_i hi
      simp only [Option.some.injEq] at h1
      subst h1
      have hne : n.toNat ≠ 0 := by omega
      simp only [arr, if_neg hne, Array.getElem?_map, Option.map_eq_some_iff] at h2
      obtain ⟨q, _, rfl⟩ := h2
      rw [hzs, Nat.mod_one, getElem!_pos zv.cells 0 (by omega)]
      exact hzrep
     ·cases h1
    have hok : (List.replicate n.toNat z).all okCell = true := by
     rw [List.all_eq_true]
     intro q hq
     rw [List.eq_of_mem_replicate hq]
     exact hokz
    obtain ⟨φ', g1, g2, g3, g4⟩ := xV hR hm hreps hok e
    refine ⟨.slice (some ⟨w.heap.size, 0, none⟩) n.toNat n.toNat, _, φ', ?_, g1, g2, ?_⟩
    ·have hwrap : IntKind.i64.wrap n = n := bB (by omega) h63
     cases hinfo : P.info? e with
     | none => simp [cA, hinfo] at hk
     | some i =>
      have hib : i.bytes = b := by simpa [lA, hinfo] using hb
      have hbig' : ¬ ((2 : Int) ^ 48 < (b : Int) * n) := by rw [Int.mul_comm, show (2 : Int) ^ 48 = 281474976710656 by decide]; omega
      have hn0 : ¬ n < 0 := by omega
      simp only [Instr.makeSlice, Sem.run_bind, aN (bH he), Result.andThen_ok, asInt, asIntOf, Sem.run_pure, typeInfo, run_program, hinfo, hib, hwrap, run_askRoom, bL hk]
      simp only [hn0, hbig', decide_false, Bool.or_false, Bool.false_or, Int.lt_irrefl, gt_iff_lt, Bool.false_eq_true, if_false, Sem.run_pure, Result.andThen_ok, Sem.run_bind, run_askRoom, bL hk]
      by_cases hq : n.toNat = 0
      ·simp [hq, newRow, arr, World.alloc, -World.alloc_eq]
      ·simp [hq, hzr, newRow, arr, World.alloc, -World.alloc_eq]
    ·rw [← g3]; exact .vs p 0 1 _ _ _ g4 (by simp) (Nat.le_refl _)
   ·cases h
  ·cases h
 ·cases h

/-! ### bytes as a text -/
theorem aRv : ∀ (cs : List AV) (vs : List Value) (l : List UInt8) (acc : ByteArray), iI cs = some l → vs.length = cs.length → (∀ (i : Nat) a u, cs[i]? = some a → vs[i]? = some u → Rep φ m w a u) →
  (forIn (m := Sem) vs acc fun c s => match c with
   | .int .u8 n => pure (.yield (s.push (UInt8.ofNat n.toNat)))
   | _ => do
    stuck "bytesToString: byte expected"
    pure (.yield s)).run P w = .ok ⟨acc.data ++ l.toArray⟩ w
 | [], [], l, acc, h, _, _ => by simp only [iI, Option.some.injEq] at h; subst h; simp
 | a :: cs, u :: vs, l, acc, h, hl, hr => by
  have h0 := hr 0 a u rfl rfl
  unfold iI at h
  split at h
  ·rename_i e; cases e
  ·rename_i n cs' e
   cases e
   cases h0
   cases hb : iI cs with
   | none => simp [hb] at h
   | some l' =>
    simp only [hb, Option.map_some, Option.some.injEq] at h
    subst h
    have ih := aRv cs vs l' (acc.push (UInt8.ofNat n.toNat)) hb (by simpa using hl) (fun i a u h1 h2 => hr (i + 1) a u (by simpa using h1) (by simpa using h2))
    rw [List.forIn_cons]
    simp only [Sem.run_bind, Sem.run_pure, Result.andThen_ok, ih]
    congr 1
    simp [ByteArray.push]
  ·cases h
 | [], _ :: _, _, _, _, hl, _ => by simp at hl
 | _ :: _, [], _, _, _, hl, _ => by simp at hl
theorem aPr (hR : RM φ m w) {src dst : TypeId} {x a : AV} {xv : Value} (hx : Rep φ m w x xv) (h : aB0 P m src dst x = some a) :
  ∃ y, (convert src dst xv).run P w = .ok y w ∧ Rep φ m w a y := by
 unfold aB0 at h
 split at h
 ·cases hx
  split at h
  ·rename_i d k hs hd
   simp only [Option.some.injEq] at h
   subst h
   refine ⟨_, ?_, .v _⟩
   simp only [convert, Sem.run_bind, aN hs, aN (aSt hd), Result.andThen_ok]
   cases d <;> rfl
  ·cases h
 ·cases hx
  split at h
  ·rename_i d hs
   split at h
   ·rename_i hd
    simp only [Option.some.injEq] at h
    subst h
    refine ⟨_, ?_, .v _⟩
    simp only [convert, Sem.run_bind, aN hs, aN (uE hd), Result.andThen_ok]
    cases d <;> rfl
   ·cases h
  ·cases h
 ·rename_i r off n c
  split at h
  ·rename_i e cs he hv
   split at h
   ·rename_i hc
    obtain ⟨hd, hu8, hfit⟩ := hc
    cases hb : iI ((cs.drop off).take n) with
    | none => simp [hb] at h
    | some l =>
     simp only [hb, Option.map_some, Option.some.injEq] at h
     subst h
     cases hx with
     | vs _ _ _ _ _ cs' hv' hb' hn' =>
      obtain ⟨arr, hrun, hreps⟩ := aC1 (P := P) (aI8 hR hv off) (k := n) (by simp; omega)
      refine ⟨.string ⟨l.toArray⟩, ?_, .v _⟩
      have hloop := aRv (P := P) (φ := φ) (m := m) (w := w) _ arr.toList l ByteArray.empty hb (by have := hreps.1; simpa using this) (fun i a u h1 h2 => hreps.2 i a u h1 (by simpa using h2))
      have e0 : (ByteArray.empty.data ++ l.toArray) = l.toArray := by show (#[] : Array UInt8) ++ l.toArray = l.toArray; simp
      rw [e0] at hloop
      simp only [convert, Sem.run_bind, aN (bH he), aN (uE hd), Result.andThen_ok, aN (aSt hu8), Conv.bytesToString, hrun]
      rw [← Array.forIn_toList]
      exact (congrArg (fun r => Result.andThen r fun a w' => Sem.run P (pure (Value.string a)) w') hloop).trans rfl
   ·cases h
  ·cases h
 ·cases h
end
end
end Go.Proofs.YtmockbddhhmmeaaGreat.Ev
