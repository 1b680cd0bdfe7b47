/- A store, a row that grows in place, and the rows of lists: how they stand in a world. -/
import Derived.Test.YtojaokhkbmiidaaEv7
namespace Go.Proofs.Ytojaokhkbmiidaa.Ev
open Go
set_option linter.unusedVariables false
set_option linter.unusedSimpArgs false
section
variable {P : Program} {φ : Phi} {m : Mem} {w : World}

theorem setRow_other (w : World) (g : Nat) (cs : Array Value) {b : Nat} (h : b ≠ g) : (w.setRow g cs).heap[b]? = w.heap[b]? := by
  simp only [World.setRow, Array.getElem?_modify]
  rw [if_neg (Ne.symm h)]
theorem setRow_os (w : World) (g : Nat) (cs : Array Value) : (w.setRow g cs).os = w.os ∧ (w.setRow g cs).tape = w.tape ∧ (w.setRow g cs).output = w.output := ⟨rfl, rfl, rfl⟩
theorem splice_length {old : List AV} {off : Nat} {cs : List AV} (h : off + cs.length ≤ old.length) : (splice old off cs).length = old.length := by
  simp [splice]; omega
theorem getElem?_splice {α : Type} {old : List α} {off : Nat} {cs : List α} (h : off + cs.length ≤ old.length) (i : Nat) :
    (old.take off ++ cs ++ old.drop (off + cs.length))[i]? = if off ≤ i ∧ i < off + cs.length then cs[i - off]? else old[i]? := by
  have hl : (old.take off).length = off := by simp; omega
  rw [List.append_assoc]
  by_cases h1 : i < off
  · rw [List.getElem?_append_left (by omega), if_neg (by omega), List.getElem?_take, if_pos h1]
  · rw [List.getElem?_append_right (by omega), hl]
    by_cases h2 : i < off + cs.length
    · rw [List.getElem?_append_left (by omega), if_pos ⟨by omega, h2⟩]
    · rw [List.getElem?_append_right (by omega), if_neg (by omega), List.getElem?_drop]
      congr 1
      omega
/-- A store into a variable. -/
theorem store_step (hR : RM φ m w) {r off : Nat} {old cs : List AV} (hv : m.var r = some old) (hfit : off + cs.length ≤ old.length) (hok : cs.all okCell = true) (hle : cs.all (refLe r) = true)
    {vs : List Value} (hvs : Reps φ m w cs vs.toArray) {arr : Array Value} {T : TypeId} (hb : w.heap[φ.vb r]? = some (.cells arr T (0, 0))) (harr : Reps φ m w old arr)
    {w' : World} (hw : w' = w.setRow (φ.vb r) (arr.toList.take off ++ vs ++ arr.toList.drop (off + vs.length)).toArray) :
    RM φ { m with vars := m.vars.set r (some (splice old off cs)) } w' ∧ Ext φ m w φ { m with vars := m.vars.set r (some (splice old off cs)) } w' := by
  have hrlt : r < m.vars.length := by
    rcases Nat.lt_or_ge r m.vars.length with h | h
    · exact h
    · simp [Mem.var, List.getElem?_eq_none h] at hv
  have hvar : ∀ q, Mem.var { m with vars := m.vars.set r (some (splice old off cs)) } q = if q = r then some (splice old off cs) else m.var q := fun q => by
    simp only [Mem.var]
    by_cases hq : q = r
    · subst hq; simp [hrlt]
    · simp [hq, List.getElem?_set_ne (Ne.symm hq)]
  have hvl : vs.length = cs.length := by have := hvs.1; simpa using this
  have hoth : ∀ b, b ≠ φ.vb r → w'.heap[b]? = w.heap[b]? := fun b hne => by rw [hw]; exact setRow_other w _ _ hne
  have hself : w'.heap[φ.vb r]? = some (.cells (arr.toList.take off ++ vs ++ arr.toList.drop (off + vs.length)).toArray T (0, 0)) := by rw [hw]; exact setRow_heap w _ _ _ _ _ hb
  have hext : Ext φ m w φ { m with vars := m.vars.set r (some (splice old off cs)) } w' := {
    os := by rw [hw]; rfl
    tape := by rw [hw]; rfl
    output := by rw [hw]; rfl
    size := by rw [hw, size_setRow]; exact Nat.le_refl _
    im := fun b o hi => ⟨hi, cell_of_heap (hoth b (fun e => hR.vim r old o hv (by rw [← e]; exact hi))) o⟩
    vb := fun q cs' hq => ⟨rfl, by
      rw [hvar]
      split
      · rename_i e
        subst e
        rw [hv] at hq
        cases hq
        exact ⟨_, rfl, splice_length hfit⟩
      · exact ⟨cs', hq, rfl⟩⟩
    tk := fun id v h => ⟨v, h, Nat.le_refl _, fun _ => rfl⟩
    blk := fun b hlt hno => hoth b (fun e => hno (.inl ⟨r, old, hv, e.symm⟩))
    own := fun b ho => by
      left
      rcases ho with ⟨q, cs', hq, e⟩ | h
      · rw [hvar] at hq
        split at hq
        · rename_i e2
          subst e2
          exact .inl ⟨q, old, hv, e⟩
        · exact .inl ⟨q, cs', hq, e⟩
      · exact .inr h }
  refine ⟨?_, hext⟩
  exact {
    var := fun q cs' hq => by
      rw [hvar] at hq
      split at hq
      · rename_i e
        subst e
        simp only [Option.some.injEq] at hq
        subst hq
        obtain ⟨arr0, T0, hb0, _, hok0, hle0⟩ := hR.var q old hv
        refine ⟨_, T, hself, ⟨?_, fun i a u h1 h2 => ?_⟩, ?_, ?_⟩
        · have := harr.1
          rw [splice_length hfit]
          simp
          omega
        · unfold splice at h1
          rw [getElem?_splice hfit] at h1
          rw [List.getElem?_toArray, getElem?_splice (by have := harr.1; simp; omega)] at h2
          rw [hvl] at h2
          split at h1
          · rename_i hc
            rw [if_pos hc] at h2
            exact (hvs.2 _ a u h1 (by simpa using h2)).mono hext
          · rename_i hc
            rw [if_neg hc] at h2
            exact (harr.2 i a u h1 (by simpa using h2)).mono hext
        · rw [List.all_eq_true] at hok hok0 ⊢
          intro x hx
          simp only [splice, List.mem_append] at hx
          rcases hx with (hx | hx) | hx
          · exact hok0 x (List.mem_of_mem_take hx)
          · exact hok x hx
          · exact hok0 x (List.mem_of_mem_drop hx)
        · rw [List.all_eq_true] at hle hle0 ⊢
          intro x hx
          simp only [splice, List.mem_append] at hx
          rcases hx with (hx | hx) | hx
          · exact hle0 x (List.mem_of_mem_take hx)
          · exact hle x hx
          · exact hle0 x (List.mem_of_mem_drop hx)
      · rename_i e
        obtain ⟨arr', T', h1, h2, h3⟩ := hR.var q cs' hq
        exact ⟨arr', T', by rw [hoth _ (fun e2 => e (hR.inj q r cs' old hq hv e2))]; exact h1, h2.mono hext, h3⟩
    inj := fun q q' c1 c2 h1 h2 e => by
      rw [hvar] at h1 h2
      split at h1 <;> split at h2
      · omega
      · rename_i e1 e2; subst e1; exact hR.inj _ _ _ _ hv h2 e
      · rename_i e1 e2; subst e2; exact hR.inj _ _ _ _ h1 hv e
      · exact hR.inj _ _ _ _ h1 h2 e
    vim := fun q c1 o h1 => by
      rw [hvar] at h1
      split at h1
      · rename_i e1; subst e1; exact hR.vim _ _ o hv
      · exact hR.vim _ _ o h1
    tok := fun id b s e hlt htk hse => by
      obtain ⟨arr', T', h1, h2, h3, h4, h5⟩ := hR.tok id b s e hlt htk hse
      refine ⟨arr', T', by rw [hoth _ (fun e2 => h4 r old hv e2.symm)]; exact h1, h2, h3, fun q c1 hq => ?_, h5⟩
      rw [hvar] at hq
      split at hq
      · rename_i e1; subst e1; exact h4 _ _ hv
      · exact h4 _ _ hq
    tinj := hR.tinj
    imlt := fun b o hi => by rw [hw, size_setRow]; exact hR.imlt b o hi }
theorem one_eq (x : Value) : one x = x.oneCell' := by cases x <;> rfl

/-- A row that grows in place. -/
theorem grow_step (hR : RM φ m w) {m' : Mem} {id : Nat} (ht : TokStep m m' id) {b s e : Nat} (hlt : id < m.toks.length) (htk : φ.tk id = (b, s, e)) (hse : s < e)
    {vs : List Value} (hfit : s + vs.length ≤ e) (hone : ∀ v ∈ vs, one v = true) :
    ∃ arr T, w.heap[b]? = some (.cells arr T (0, 0)) ∧ e ≤ arr.size ∧
      let w' := w.setRow b (arr.toList.take s ++ vs ++ arr.toList.drop (s + vs.length)).toArray
      let φ' : Phi := { vb := φ.vb, im := fun b' o => φ.im b' o ∨ (b' = b ∧ s ≤ o ∧ o < s + vs.length), tk := fun i => if i = id then (b, s + vs.length, e) else φ.tk i }
      RM φ' m' w' ∧ Ext φ m w φ' m' w' ∧ (∀ (k : Nat) v, vs[k]? = some v → w'.cell? ⟨b, s + k, none⟩ = some v) := by
  obtain ⟨arr, T, hb, hsz, him, hvb, h1⟩ := hR.tok id b s e hlt htk hse
  refine ⟨arr, T, hb, hsz, ?_⟩
  intro w' φ'
  have hlen : s + vs.length ≤ arr.toList.length := by simp; omega
  have hoth : ∀ b', b' ≠ b → w'.heap[b']? = w.heap[b']? := fun b' hne => setRow_other w _ _ hne
  have hself : w'.heap[b]? = some (.cells (arr.toList.take s ++ vs ++ arr.toList.drop (s + vs.length)).toArray T (0, 0)) := setRow_heap w _ _ _ _ _ hb
  have hcell : ∀ o, w'.cell? ⟨b, o, none⟩ = if s ≤ o ∧ o < s + vs.length then vs[o - s]? else w.cell? ⟨b, o, none⟩ := fun o => by
    simp only [World.cell?, hself, hb]
    rw [if_neg (by simp), List.getElem?_toArray, getElem?_splice hlen]
    simp
  have htk' : ∀ i, i ≠ id → φ'.tk i = φ.tk i := fun i hi => if_neg hi
  have htki : φ'.tk id = (b, s + vs.length, e) := if_pos rfl
  have hext : Ext φ m w φ' m' w' := {
    os := rfl, tape := rfl, output := rfl, size := by show _ ≤ (w.setRow b _).heap.size; rw [size_setRow]; exact Nat.le_refl _
    im := fun b' o hi => ⟨.inl hi, by
      by_cases hbb : b' = b
      · subst hbb
        rw [hcell, if_neg (fun hc => him o hc.1 (by omega) hi)]
      · exact cell_of_heap (hoth b' hbb) o⟩
    vb := fun r cs' hv => ⟨rfl, cs', by rw [ht.var]; exact hv, rfl⟩
    tk := fun i v hv => tok_ext_tk ht htk' i v hv
    blk := fun b' hb' hno => hoth b' (fun e2 => hno (.inr ⟨id, s, e, hlt, by rw [htk, e2], hse⟩))
    own := fun b' ho => by
      left
      rcases ho with ⟨r, cs', hv, e2⟩ | ⟨i, s2, e2, hi, hk, hs2⟩
      · exact .inl ⟨r, cs', by rw [← ht.var]; exact hv, e2⟩
      · by_cases hid : i = id
        · subst hid
          rw [htki] at hk
          cases hk
          exact .inr ⟨i, s, e, hlt, htk, hse⟩
        · rw [htk' i hid] at hk
          exact .inr ⟨i, s2, e2, ht.old hi hid, hk, hs2⟩ }
  refine ⟨?_, hext, fun k v hk => ?_⟩
  · exact {
      var := fun r cs' hv => by
        rw [ht.var] at hv
        obtain ⟨arr', T', g1, g2, g3⟩ := hR.var r cs' hv
        exact ⟨arr', T', by show w'.heap[φ.vb r]? = _; rw [hoth _ (hvb r cs' hv)]; exact g1, g2.mono hext, g3⟩
      inj := fun r r' c1 c2 g1 g2 e2 => by rw [ht.var] at g1 g2; exact hR.inj r r' c1 c2 g1 g2 e2
      vim := fun r cs' o hv hi => by
        rw [ht.var] at hv
        rcases hi with hi | ⟨e2, _⟩
        · exact hR.vim r cs' o hv hi
        · exact hvb r cs' hv e2
      tok := fun i b2 s2 e2 hi hk hs2 => by
        by_cases hid : i = id
        · subst hid
          rw [htki] at hk
          cases hk
          refine ⟨_, T, hself, by simp; omega, fun o o1 o2 hi' => ?_, fun r cs' hv => hvb r cs' (by rw [← ht.var]; exact hv), fun o u hu => ?_⟩
          · rcases hi' with hi' | ⟨_, _, hi'⟩
            · exact him o (by omega) o2 hi'
            · omega
          · rw [List.getElem?_toArray, getElem?_splice hlen] at hu
            split at hu
            · exact hone u (List.mem_of_getElem? hu)
            · exact h1 o u (by simpa using hu)
        · rw [htk' i hid] at hk
          have hne : b2 ≠ b := fun e3 => hid (hR.tinj i id b2 s2 e2 s e (ht.old hi hid) hlt hk (by rw [htk, e3]) hs2 hse)
          obtain ⟨arr', T', g1, g2, g3, g4, g5⟩ := hR.tok i b2 s2 e2 (ht.old hi hid) hk hs2
          refine ⟨arr', T', by rw [hoth _ hne]; exact g1, g2, fun o o1 o2 hi' => ?_, fun r cs' hv => g4 r cs' (by rw [← ht.var]; exact hv), g5⟩
          rcases hi' with hi' | ⟨e3, _⟩
          · exact g3 o o1 o2 hi'
          · exact hne e3
      tinj := fun i i' b2 s2 e2 s3 e3 g1 g2 k1 k2 hs2 hs3 => by
        by_cases hi : i = id <;> by_cases hi' : i' = id
        · omega
        · rw [hi, htki] at k1
          rw [htk' i' hi'] at k2
          cases k1
          have := hR.tinj id i' b s e s3 e3 hlt (ht.old g2 hi') htk k2 hse hs3
          omega
        · rw [hi', htki] at k2
          rw [htk' i hi] at k1
          cases k2
          have := hR.tinj i id b s2 e2 s e (ht.old g1 hi) hlt k1 htk hs2 hse
          omega
        · rw [htk' i hi] at k1
          rw [htk' i' hi'] at k2
          exact hR.tinj i i' b2 s2 e2 s3 e3 (ht.old g1 hi) (ht.old g2 hi') k1 k2 hs2 hs3
      imlt := fun b' o hi => by
        show b' < (w.setRow b _).heap.size
        rw [size_setRow]
        rcases hi with hi | ⟨e2, _⟩
        · exact hR.imlt b' o hi
        · rw [e2]; exact (Array.getElem?_eq_some_iff.1 hb).1 }
  · have hkl : k < vs.length := (List.getElem?_eq_some_iff.1 hk).1
    rw [hcell, if_pos ⟨by omega, by omega⟩]
    rw [show s + k - s = k by omega]
    exact hk
/-- A token goes on while nothing is written. -/
theorem tok_step (hR : RM φ m w) {m' : Mem} {id : Nat} (ht : TokStep m m' id) (b x y : Nat) (h : x = y ∨ (id < m.toks.length ∧ φ.tk id = (b, x, y))) :
    let φ' : Phi := { φ with tk := fun i => if i = id then (b, x, y) else φ.tk i }
    RM φ' m' w ∧ Ext φ m w φ' m' w := by
  intro φ'
  have htk' : ∀ i, i ≠ id → φ'.tk i = φ.tk i := fun i hi => if_neg hi
  have htki : φ'.tk id = (b, x, y) := if_pos rfl
  have back : ∀ i b2 s2 e2, i < m'.toks.length → φ'.tk i = (b2, s2, e2) → s2 < e2 → i < m.toks.length ∧ φ.tk i = (b2, s2, e2) := fun i b2 s2 e2 hi hk hs => by
    by_cases hid : i = id
    · subst hid
      rw [htki] at hk
      cases hk
      rcases h with h | h
      · omega
      · exact h
    · rw [htk' i hid] at hk
      exact ⟨ht.old hi hid, hk⟩
  have hext : Ext φ m w φ' m' w := {
    os := rfl, tape := rfl, output := rfl, size := Nat.le_refl _
    im := fun b' o hi => ⟨hi, rfl⟩
    vb := fun r cs' hv => ⟨rfl, cs', by rw [ht.var]; exact hv, rfl⟩
    tk := fun i v hv => tok_ext_tk ht htk' i v hv
    blk := fun b' hb' hno => rfl
    own := fun b' ho => by
      left
      rcases ho with ⟨r, cs', hv, e2⟩ | ⟨i, s2, e2, hi, hk, hs2⟩
      · exact .inl ⟨r, cs', by rw [← ht.var]; exact hv, e2⟩
      · exact .inr ⟨i, s2, e2, (back i b' s2 e2 hi hk hs2).1, (back i b' s2 e2 hi hk hs2).2, hs2⟩ }
  refine ⟨?_, hext⟩
  exact {
    var := fun r cs' hv => by
      rw [ht.var] at hv
      obtain ⟨arr', T', g1, g2, g3⟩ := hR.var r cs' hv
      exact ⟨arr', T', g1, g2.mono hext, g3⟩
    inj := fun r r' c1 c2 g1 g2 e2 => by rw [ht.var] at g1 g2; exact hR.inj r r' c1 c2 g1 g2 e2
    vim := fun r cs' o hv hi => by rw [ht.var] at hv; exact hR.vim r cs' o hv hi
    tok := fun i b2 s2 e2 hi hk hs2 => by
      obtain ⟨k1, k2⟩ := back i b2 s2 e2 hi hk hs2
      obtain ⟨arr', T', g1, g2, g3, g4, g5⟩ := hR.tok i b2 s2 e2 k1 k2 hs2
      exact ⟨arr', T', g1, g2, g3, fun r cs' hv => g4 r cs' (by rw [← ht.var]; exact hv), g5⟩
    tinj := fun i i' b2 s2 e2 s3 e3 g1 g2 k1 k2 hs2 hs3 =>
      hR.tinj i i' b2 s2 e2 s3 e3 (back i b2 s2 e2 g1 k1 hs2).1 (back i' b2 s3 e3 g2 k2 hs3).1 (back i b2 s2 e2 g1 k1 hs2).2 (back i' b2 s3 e3 g2 k2 hs3).2 hs2 hs3
    imlt := hR.imlt }
end
end Go.Proofs.Ytojaokhkbmiidaa.Ev
