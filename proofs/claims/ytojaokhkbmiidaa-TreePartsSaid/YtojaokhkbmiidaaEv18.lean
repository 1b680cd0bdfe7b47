/- Behind a call: the callee's own memory goes; its results stay. -/
import Derived.Test.YtojaokhkbmiidaaEv17
namespace Go.Proofs.Ytojaokhkbmiidaa.Ev
open Go
set_option linter.unusedVariables false
set_option linter.unusedSimpArgs false

/-- What an abstract value leads to: variables below n, tokens below k. -/
inductive Low (n k : Nat) : AV → Prop
  | junk : Low n k .junk
  | v (x : Value) : Low n k (.v x)
  | agg (cs : List AV) (h : ∀ (i : Nat) c, cs[i]? = some c → Low n k c) : Low n k (.agg cs)
  | tup (cs : List AV) (h : ∀ (i : Nat) c, cs[i]? = some c → Low n k c) : Low n k (.tup cs)
  | lst (g : Grow) (sz : Nat) (rows : List (List AV)) (h : ∀ id ver, g = .tok id ver → id < k) : Low n k (.lst g sz rows)
  | ptr (r off : Nat) (h : r < n) : Low n k (.ptr r off)
  | eptr (cs : List AV) (h : ∀ (i : Nat) c, cs[i]? = some c → Low n k c) : Low n k (.eptr cs)
  | vs (r off sz m c : Nat) (h : r < n) : Low n k (.vs r off sz m c)
  | fn (f : Fn) (first caps : List AV) (h1 : ∀ (i : Nat) c, first[i]? = some c → Low n k c) (h2 : ∀ (i : Nat) c, caps[i]? = some c → Low n k c) : Low n k (.fn f first caps)

theorem low_rep {φ : Phi} {m m1 : Mem} {w : World} {n k : Nat} (hv : ∀ r, r < n → m1.var r = m.var r) (ht : ∀ id, id < k → m1.toks[id]? = m.toks[id]?) {a : AV} {x : Value} (h : Rep φ m w a x) :
    Low n k a → Rep φ m1 w a x := by
  induction h with
  | junk x => exact fun _ => .junk x
  | v x => exact fun _ => .v x
  | agg cs arr hn _ ih => intro hl; cases hl with | agg _ hl => exact .agg cs arr hn fun i a u h1 h2 => ih i a u h1 h2 (hl i a h1)
  | tup cs arr hn _ ih => intro hl; cases hl with | tup _ hl => exact .tup cs arr hn fun i a u h1 h2 => ih i a u h1 h2 (hl i a h1)
  | lst g sz rows a c val hc hr ha hs hcell _ hg ih =>
    intro hl
    cases hl with
    | lst _ _ _ hl =>
      refine .lst g sz rows a c val hc hr ha hs hcell (fun i row j x h1 h2 => ih i row j x h1 h2 ?_) ?_
      · have hall := (hr i row h1).2
        rw [List.all_eq_true] at hall
        have := hall x (List.mem_of_getElem? h2)
        unfold isRow at this
        split at this
        · exact .v _
        · exact .lst _ _ _ fun id ver e => by cases e
        · cases this
      · cases g with
        | no => exact trivial
        | full => exact hg
        | here => exact hg
        | tok id ver =>
          obtain ⟨v, h1, h2⟩ := hg
          exact ⟨v, (ht id (hl id ver rfl)).trans h1, h2⟩
  | ptr r off cs h => intro hl; cases hl with | ptr _ _ hl => exact .ptr r off cs ((hv r hl).trans h)
  | eptr cs ad val hs hcell _ ih => intro hl; cases hl with | eptr _ hl => exact .eptr cs ad val hs hcell fun j x e => ih j x e (hl j x e)
  | vs r off sz n c cs h hb hn => intro hl; cases hl with | vs _ _ _ _ _ hl => exact .vs r off sz n c cs ((hv r hl).trans h) hb hn
  | fn f first caps fv cv h1 h2 _ _ ih1 ih2 =>
    intro hl
    cases hl with
    | fn _ _ _ l1 l2 => exact .fn f first caps fv cv h1 h2 (fun i a u e1 e2 => ih1 i a u e1 e2 (l1 i a e1)) fun i a u e1 e2 => ih2 i a u e1 e2 (l2 i a e1)

theorem grow_low {φ : Phi} {m : Mem} {w : World} {g : Grow} {sz : Nat} {rows : List (List AV)} {x : Value} (h : Rep φ m w (.lst g sz rows) x) (n : Nat) : Low n m.toks.length (.lst g sz rows) := by
  cases h with
  | lst _ _ _ a c val hc hr ha hs hcell hrep hg =>
    refine .lst g sz rows fun id ver e => ?_
    subst e
    obtain ⟨v, h1, _⟩ := hg
    exact (List.getElem?_eq_some_iff.mp h1).1
/-- A variable's cells lead to nothing younger than it. -/
theorem cell_low {φ : Phi} {m : Mem} {w : World} {n r : Nat} {c : AV} {x : Value} (h : Rep φ m w c x) (hok : okCell c = true) (hr : refLe r c = true) (hn : r < n) : Low n m.toks.length c := by
  have arg : ∀ {a : AV} {u : Value}, Rep φ m w a u → refLe.okArg r a = true → Low n m.toks.length a := by
    intro a u ha ho
    unfold refLe.okArg at ho
    split at ho
    · exact .ptr _ _ (by simp at ho; omega)
    · exact .v _
    · exact grow_low ha n
    · cases ho
  cases c with
  | v x => exact .v x
  | lst g sz rows => exact grow_low h n
  | ptr q off => exact .ptr _ _ (by simp [refLe] at hr; omega)
  | vs q off sz m c => exact .vs _ _ _ _ _ (by simp [refLe] at hr; omega)
  | fn f first caps =>
    simp only [refLe, Bool.and_eq_true, List.all_eq_true] at hr
    cases h with
    | fn _ _ _ fv cv h1 h2 r1 r2 =>
      refine .fn _ _ _ (fun i a hi => ?_) fun i a hi => ?_
      · have hlt : i < fv.size := by rw [h1]; exact (List.getElem?_eq_some_iff.mp hi).1
        exact arg (r1 i a _ hi (Array.getElem?_eq_getElem hlt)) (hr.1 a (List.mem_of_getElem? hi))
      · have hlt : i < cv.size := by rw [h2]; exact (List.getElem?_eq_some_iff.mp hi).1
        exact arg (r2 i a _ hi (Array.getElem?_eq_getElem hlt)) (hr.2 a (List.mem_of_getElem? hi))
  | _ => simp [okCell] at hok

/-! ### the memory behind a call -/
/-- Cells of the callee's own variables are never written again. -/
def phiF (φ : Phi) (m : Mem) (n : Nat) : Phi where
  vb := φ.vb
  im b o := φ.im b o ∨ ∃ r cs, n ≤ r ∧ m.var r = some cs ∧ b = φ.vb r ∧ o < cs.length
  tk := φ.tk
theorem phiF_ext (φ : Phi) (m : Mem) (w : World) (n : Nat) : Ext φ m w (phiF φ m n) m w :=
  ⟨rfl, rfl, rfl, Nat.le_refl _, fun _ _ h => ⟨.inl h, rfl⟩, fun _ cs h => ⟨rfl, cs, h, rfl⟩, fun _ v h => ⟨v, h, Nat.le_refl _, fun _ => rfl⟩, fun _ _ _ => rfl, fun _ h => .inl h⟩
theorem finMem_spec (m₀ m : Mem) : (∀ r, r < m₀.vars.length → (finMem m₀ m).var r = m.var r) ∧ (∀ r cs, (finMem m₀ m).var r = some cs → r < m₀.vars.length ∧ m.var r = some cs) ∧
    (∀ id, id < (finMem m₀ m).toks.length → (finMem m₀ m).toks[id]? = m.toks[id]?) ∧ (finMem m₀ m).toks.length ≤ m.toks.length ∧
    (m₀.toks.length ≤ m.toks.length → m₀.toks.length ≤ (finMem m₀ m).toks.length) ∧
    (((finMem m₀ m).vars = m₀.vars) ∨ (finMem m₀ m).toks = m.toks) := by
  have take_var : ∀ r, r < m₀.vars.length → ((m.vars.take m₀.vars.length)[r]?).join = (m.vars[r]?).join := fun r hr => by rw [List.getElem?_take_of_lt hr]
  have take_lt : ∀ (l : List (Option (List AV))) r cs, (((l.take m₀.vars.length)[r]?).join) = some cs → r < m₀.vars.length := fun l r cs h => by
    rw [List.getElem?_take] at h
    split at h
    · assumption
    · cases h
  unfold finMem
  split
  · rename_i he
    refine ⟨fun r hr => ?_, fun r cs h => ?_, fun id hid => ?_, by simp; omega, fun h => by simp; omega, .inl rfl⟩
    · show (m₀.vars[r]?).join = _
      rw [← he]; exact take_var r hr
    · have h' : (m₀.vars[r]?).join = some cs := h
      rw [← he] at h'
      have hlt := take_lt _ r cs h'
      exact ⟨hlt, (take_var r hlt).symm.trans h'⟩
    · simp only [List.length_take] at hid
      exact List.getElem?_take_of_lt (by omega)
  · exact ⟨fun r hr => take_var r hr, fun r cs h => ⟨take_lt _ r cs h, (take_var r (take_lt _ r cs h)).symm.trans h⟩, fun id _ => rfl, Nat.le_refl _, fun h => h, .inr rfl⟩

section
variable {φ₀ φ : Phi} {m₀ m : Mem} {w₀ w : World}
theorem ext_len (hX : Ext φ₀ m₀ w₀ φ m w) : m₀.toks.length ≤ m.toks.length := by
  rcases Nat.eq_zero_or_pos m₀.toks.length with h | h
  · omega
  · obtain ⟨v', h1, _⟩ := hX.tk (m₀.toks.length - 1) m₀.toks[m₀.toks.length - 1] (List.getElem?_eq_getElem (by omega))
    have := (List.getElem?_eq_some_iff.mp h1).1
    omega
theorem fin_rm (hR₀ : RM φ₀ m₀ w₀) (hR : RM φ m w) (hX : Ext φ₀ m₀ w₀ φ m w) : RM (phiF φ m m₀.vars.length) (finMem m₀ m) w := by
  obtain ⟨f1, f2, f3, f4, f5, f6⟩ := finMem_spec m₀ m
  have f7 := f5 (ext_len hX)
  refine ⟨fun r cs h => ?_, fun r r' cs cs' h1 h2 e => hR.inj r r' cs cs' (f2 r cs h1).2 (f2 r' cs' h2).2 e, fun r cs o h hi => ?_, fun id b s e hid htk hlt => ?_, fun id id' b s e s' e' h1 h2 => hR.tinj id id' b s e s' e' (by omega) (by omega), fun b o hi => ?_⟩
  · obtain ⟨hr, hv⟩ := f2 r cs h
    obtain ⟨arr, T, h1, h2, h3, h4⟩ := hR.var r cs hv
    refine ⟨arr, T, h1, ⟨h2.1, fun i a u e1 e2 => ?_⟩, h3, h4⟩
    have ha := (h2.2 i a u e1 e2).mono (phiF_ext φ m w m₀.vars.length)
    rw [List.all_eq_true] at h3 h4
    have hmem := List.mem_of_getElem? e1
    refine low_rep (n := m₀.vars.length) (k := (finMem m₀ m).toks.length) f1 f3 ha ?_
    rcases f6 with f6 | f6
    · -- the variables are what they were
      have hv0 : m₀.var r = some cs := by
        have : (finMem m₀ m).var r = m₀.var r := by unfold Mem.var; rw [f6]
        rw [← this]; exact h
      obtain ⟨arr0, T0, g1, g2, g3, g4⟩ := hR₀.var r cs hv0
      have hlt : i < arr0.size := by rw [g2.1]; exact (List.getElem?_eq_some_iff.mp e1).1
      have hl := cell_low (n := m₀.vars.length) (g2.2 i a _ e1 (Array.getElem?_eq_getElem hlt)) (h3 a hmem) (h4 a hmem) hr
      clear f6
      -- from the tokens of old to those that are left
      have up : ∀ {c : AV}, Low m₀.vars.length m₀.toks.length c → Low m₀.vars.length (finMem m₀ m).toks.length c := by
        intro c hc
        induction hc with
        | junk => exact .junk
        | v x => exact .v x
        | agg cs h ih => exact .agg cs ih
        | tup cs h ih => exact .tup cs ih
        | lst g sz rows h => exact .lst g sz rows fun id ver e => Nat.lt_of_lt_of_le (h id ver e) f7
        | ptr r off h => exact .ptr r off h
        | eptr cs h ih => exact .eptr cs ih
        | vs r off sz m c h => exact .vs r off sz m c h
        | fn f first caps h1 h2 ih1 ih2 => exact .fn f first caps ih1 ih2
      exact up hl
    · rw [f6]
      exact cell_low (n := m₀.vars.length) (h2.2 i a u e1 e2) (h3 a hmem) (h4 a hmem) hr
  · obtain ⟨hr, hv⟩ := f2 r cs h
    rcases hi with hi | ⟨r', cs', h1, h2, h3, _⟩
    · exact hR.vim r cs o hv hi
    · have := hR.inj r r' cs cs' hv h2 h3
      omega
  · obtain ⟨arr, T, g1, g2, g3, g4, g5⟩ := hR.tok id b s e (by omega) htk hlt
    refine ⟨arr, T, g1, g2, fun o h1 h2 hi => ?_, fun r cs hv => g4 r cs (f2 r cs hv).2, g5⟩
    rcases hi with hi | ⟨r', cs', _, h3, h4, _⟩
    · exact g3 o h1 h2 hi
    · exact g4 r' cs' h3 h4.symm
  · rcases hi with hi | ⟨r, cs, _, h2, h3, _⟩
    · exact hR.imlt b o hi
    · obtain ⟨arr, T, h1, _⟩ := hR.var r cs h2
      rw [h3]
      exact (Array.getElem?_eq_some_iff.mp h1).1
theorem fin_ext (hX : Ext φ₀ m₀ w₀ φ m w) : Ext φ₀ m₀ w₀ (phiF φ m m₀.vars.length) (finMem m₀ m) w := by
  obtain ⟨f1, f2, f3, f4, f5, f6⟩ := finMem_spec m₀ m
  have f7 := f5 (ext_len hX)
  refine ⟨hX.os, hX.tape, hX.output, hX.size, fun b o h => ⟨.inl (hX.im b o h).1, (hX.im b o h).2⟩, fun r cs h => ?_, fun id v h => ?_, hX.blk, fun b hb => hX.own b ?_⟩
  · obtain ⟨e, cs', hv, hl⟩ := hX.vb r cs h
    have hr : r < m₀.vars.length := by
      unfold Mem.var at h
      refine Nat.lt_of_not_le fun hle => ?_
      rw [List.getElem?_eq_none hle] at h
      cases h
    exact ⟨e, cs', (f1 r hr).trans hv, hl⟩
  · obtain ⟨v', hv, hle, he⟩ := hX.tk id v h
    have hid := (List.getElem?_eq_some_iff.mp h).1
    exact ⟨v', (f3 id (by omega)).trans hv, hle, he⟩
  · rcases hb with ⟨r, cs, hv, e⟩ | ⟨id, s, e, hid, h1, h2⟩
    · exact .inl ⟨r, cs, (f2 r cs hv).2, e⟩
    · exact .inr ⟨id, s, e, by omega, h1, h2⟩

/-! ### results -/
theorem resCell_sound {a b : AV} {x : Value} (h : Rep φ m w a x) (hb : resCell m₀.vars.length a = some b) : Rep (phiF φ m m₀.vars.length) (finMem m₀ m) w b x := by
  obtain ⟨f1, f2, f3, f4, f5, f6⟩ := finMem_spec m₀ m
  have h' := h.mono (phiF_ext φ m w m₀.vars.length)
  have low : ∀ {c : AV}, Rep (phiF φ m m₀.vars.length) m w c x → Low m₀.vars.length 0 c → Rep (phiF φ m m₀.vars.length) (finMem m₀ m) w c x := fun hc hl => low_rep (k := 0) f1 (fun id h => by omega) hc hl
  unfold resCell at hb
  split at hb
  · simp only [Option.some.injEq] at hb; subst hb; cases h; exact .v _
  · simp only [Option.some.injEq] at hb; subst hb
    exact low (rep_argCell h') (.lst _ _ _ fun id ver e => by cases e)
  · split at hb
    · rename_i hr
      simp only [Option.some.injEq] at hb; subst hb
      exact low h' (.ptr _ _ hr)
    · cases hb
  · cases hb
theorem resAV_sound (hR : RM φ m w) {a b : AV} {x : Value} (h : Rep φ m w a x) (hb : resAV m₀.vars.length m a = some b) : Rep (phiF φ m m₀.vars.length) (finMem m₀ m) w b x := by
  obtain ⟨f1, f2, f3, f4, f5, f6⟩ := finMem_spec m₀ m
  unfold resAV at hb
  split at hb
  · rename_i cs
    simp only [Option.map_eq_some_iff] at hb
    obtain ⟨r, hr, rfl⟩ := hb
    obtain ⟨hl, hs⟩ := mapM_spec hr
    cases h with
    | agg _ arr hn h =>
      refine .agg r arr (by rw [hl]; exact hn) fun i b u h1 h2 => ?_
      obtain ⟨c, hc, hcb⟩ := hs i b h1
      exact resCell_sound (h i c u hc h2) hcb
  · rename_i r off sz n c
    split at hb
    · cases hb
    · rename_i hr
      split at hb
      · rename_i cs hcs
        split at hb
        · rename_i hc
          obtain ⟨rfl, rfl, rfl, rfl⟩ := hc
          simp only [Option.map_eq_some_iff] at hb
          obtain ⟨cs', hcs', rfl⟩ := hb
          obtain ⟨hl, hs⟩ := mapM_spec hcs'
          cases h with
          | vs _ _ _ _ _ cs2 hv hbd hn =>
            obtain ⟨arr, T, g1, g2, g3, g4⟩ := hR.var r cs hcs
            have hlen : (chunk1 cs').length = cs.length := by simp [chunk1, hl]
            rw [← hlen]
            have at' : ∀ (i : Nat) row (j : Nat) y, (chunk1 cs')[i]? = some row → row[j]? = some y → j = 0 ∧ cs'[i]? = some y ∧ i < cs.length := by
              intro i row j y h1 h2
              simp only [chunk1, List.getElem?_map, Option.map_eq_some_iff] at h1
              obtain ⟨z, hz, rfl⟩ := h1
              have hil := (List.getElem?_eq_some_iff.mp hz).1
              cases j with
              | zero => simp at h2; subst h2; exact ⟨rfl, hz, by omega⟩
              | succ j => simp at h2
            have cell : ∀ (i : Nat) y, cs'[i]? = some y → i < cs.length → ∃ z, arr[i]? = some (arr.getD i undef) ∧ cs[i]? = some z ∧ rowCell z = some y ∧ Rep φ m w y (arr.getD i undef) ∧ one (arr.getD i undef) = true := by
              intro i y hy hi
              obtain ⟨z, hz, hzy⟩ := hs i y hy
              have hia : i < arr.size := by rw [g2.1]; exact hi
              have e : arr[i]? = some (arr.getD i undef) := by simp [Array.getD, hia]
              obtain ⟨k1, k2⟩ := rep_rowCell (g2.2 i z _ hz e) hzy
              exact ⟨z, e, hz, hzy, k1, k2⟩
            refine .lst .no 1 (chunk1 cs') (some ⟨φ.vb r, 0, none⟩) _ (fun i j => arr.getD i undef) (by simp) (fun i row h1 => ?_) (fun e => by cases e) (fun ad e _ => by cases e; rfl) (fun ad i row j y e h1 h2 => ?_) (fun i row j y h1 h2 => ?_) trivial
            · simp only [chunk1, List.getElem?_map, Option.map_eq_some_iff] at h1
              obtain ⟨z, hz, rfl⟩ := h1
              refine ⟨rfl, ?_⟩
              obtain ⟨q, hq, hqz⟩ := hs i z hz
              simp only [List.all_cons, List.all_nil, Bool.and_true]
              unfold rowCell at hqz
              split at hqz
              · split at hqz
                · cases hqz; rfl
                · cases hqz
              · cases hqz; rfl
              · cases hqz
            · cases e
              obtain ⟨rfl, h3, h4⟩ := at' i row j y h1 h2
              obtain ⟨z, k1, k2, k3, k4, k5⟩ := cell i y h3 h4
              refine ⟨.inr ⟨r, cs, by omega, hcs, rfl, by simpa using h4⟩, ?_, k5⟩
              simp only [World.cell?, g1, Nat.zero_add, Nat.mul_one, Nat.add_zero]
              exact k1
            · obtain ⟨rfl, h3, h4⟩ := at' i row j y h1 h2
              obtain ⟨z, k1, k2, k3, k4, k5⟩ := cell i y h3 h4
              refine low_rep (k := 0) f1 (fun id h => by omega) (k4.mono (phiF_ext φ m w m₀.vars.length)) ?_
              unfold rowCell at k3
              split at k3
              · split at k3
                · cases k3; exact .v _
                · cases k3
              · cases k3; exact .lst _ _ _ fun id ver e => by cases e
              · cases k3
        · cases hb
      · cases hb
  · exact resCell_sound h hb
end
end Go.Proofs.Ytojaokhkbmiidaa.Ev
