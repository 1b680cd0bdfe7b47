/- Behind a call: the callee's own memory goes; its results stay. -/
import Derived.Test.YtojaokhkbmiidaaGreatMa1
import Derived.ChangeBears
import Derived.ChangeShapes
import Derived.WideShapes
import Derived.Carry
import Derived.OpenShut
import Derived.Deep.Slices
import Derived.WalkKit
import Derived.ProofKit
import Derived.ShutString
import Derived.ChangeOld
import Derived.Below
import Derived.SizedLaws
import Derived.Laws.RangeAny
import Derived.MapKept
import Derived.WideKeyRuns
import Derived.Orders
import Derived.Attr
namespace Go.Proofs.YtojaokhkbmiidaaGreat.Ev
open Go
set_option linter.unusedVariables false
set_option linter.unusedSimpArgs false

/-- What an abstract value leads to: variables below n, tokens below k. -/
inductive Low (n k : Nat) : AV → Prop
  | junk : Low n k .junk
  | v (x : Value) : Low n k (.v x)
  | agg (cs : List AV) (h : ∀ (i : Nat) c, cs[i]? = some c → Low n k c) : Low n k (.agg cs)
  | tup (cs : List AV) (h : ∀ (i : Nat) c, cs[i]? = some c → Low n k c) : Low n k (.tup cs)
  | lst (g : Grow) (sz : Nat) (rows : List (List AV)) (h : ∀ id ver, g = .tok id ver → id < k) : Low n k (.lst g sz rows)
  | ptr (r off : Nat) (h : r < n) : Low n k (.ptr r off)
  | eptr (cs : List AV) (h : ∀ (i : Nat) c, cs[i]? = some c → Low n k c) : Low n k (.eptr cs)
  | vs (r off sz m c : Nat) (h : r < n) : Low n k (.vs r off sz m c)
  | fn (f : Fn) (first caps : List AV) (h1 : ∀ (i : Nat) c, first[i]? = some c → Low n k c) (h2 : ∀ (i : Nat) c, caps[i]? = some c → Low n k c) : Low n k (.fn f first caps)

theorem low_rep {φ : Phi} {m m1 : Mem} {w : World} {n k : Nat} (hv : ∀ r, r < n → m1.var r = m.var r) (ht : ∀ id, id < k → m1.toks[id]? = m.toks[id]?) {a : AV} {x : Value} (h : Rep φ m w a x) :
    Low n k a → Rep φ m1 w a x := by
  induction h with
  | junk x => exact fun _ => .junk x
  | v x => exact fun _ => .v x
  | agg cs arr hn _ ih => intro hl; cases hl with | agg _ hl => exact .agg cs arr hn fun i a u h1 h2 => ih i a u h1 h2 (hl i a h1)
  | tup cs arr hn _ ih => intro hl; cases hl with | tup _ hl => exact .tup cs arr hn fun i a u h1 h2 => ih i a u h1 h2 (hl i a h1)
  | lst g sz rows a c val hc hr ha hs hcell _ hg ih =>
    intro hl
    cases hl with
    | lst _ _ _ hl =>
      refine .lst g sz rows a c val hc hr ha hs hcell (fun i row j x h1 h2 => ih i row j x h1 h2 ?_) ?_
      · have hall := (hr i row h1).2
        rw [List.all_eq_true] at hall
        have := hall x (List.mem_of_getElem? h2)
        unfold isRow at this
        split at this
        · exact .v _
        · exact .lst _ _ _ fun id ver e => by cases e
        · cases this
      · cases g with
        | no => exact trivial
        | full => exact hg
        | here => exact hg
        | tok id ver =>
          obtain ⟨v, h1, h2⟩ := hg
          exact ⟨v, (ht id (hl id ver rfl)).trans h1, h2⟩
  | ptr r off cs h => intro hl; cases hl with | ptr _ _ hl => exact .ptr r off cs ((hv r hl).trans h)
  | eptr cs ad val hs hcell _ ih => intro hl; cases hl with | eptr _ hl => exact .eptr cs ad val hs hcell fun j x e => ih j x e (hl j x e)
  | vs r off sz n c cs h hb hn => intro hl; cases hl with | vs _ _ _ _ _ hl => exact .vs r off sz n c cs ((hv r hl).trans h) hb hn
  | fn f first caps fv cv h1 h2 _ _ ih1 ih2 =>
    intro hl
    cases hl with
    | fn _ _ _ l1 l2 => exact .fn f first caps fv cv h1 h2 (fun i a u e1 e2 => ih1 i a u e1 e2 (l1 i a e1)) fun i a u e1 e2 => ih2 i a u e1 e2 (l2 i a e1)

theorem grow_low {φ : Phi} {m : Mem} {w : World} {g : Grow} {sz : Nat} {rows : List (List AV)} {x : Value} (h : Rep φ m w (.lst g sz rows) x) (n : Nat) : Low n m.toks.length (.lst g sz rows) := by
  cases h with
  | lst _ _ _ a c val hc hr ha hs hcell hrep hg =>
    refine .lst g sz rows fun id ver e => ?_
    subst e
    obtain ⟨v, h1, _⟩ := hg
    exact (List.getElem?_eq_some_iff.mp h1).1
/-- A variable's cells lead to nothing younger than it. -/
theorem cell_low {φ : Phi} {m : Mem} {w : World} {n r : Nat} {c : AV} {x : Value} (h : Rep φ m w c x) (hok : okCell c = true) (hr : refLe r c = true) (hn : r < n) : Low n m.toks.length c := by
  have arg : ∀ {a : AV} {u : Value}, Rep φ m w a u → refLe.okArg r a = true → Low n m.toks.length a := by
    intro a u ha ho
    unfold refLe.okArg at ho
    split at ho
    · exact .ptr _ _ (by simp at ho; omega)
    · exact .v _
    · exact grow_low ha n
    · cases ho
  cases c with
  | v x => exact .v x
  | lst g sz rows => exact grow_low h n
  | ptr q off => exact .ptr _ _ (by simp [refLe] at hr; omega)
  | vs q off sz m c => exact .vs _ _ _ _ _ (by simp [refLe] at hr; omega)
  | fn f first caps =>
    simp only [refLe, Bool.and_eq_true, List.all_eq_true] at hr
    cases h with
    | fn _ _ _ fv cv h1 h2 r1 r2 =>
      refine .fn _ _ _ (fun i a hi => ?_) fun i a hi => ?_
      · have hlt : i < fv.size := by rw [h1]; exact (List.getElem?_eq_some_iff.mp hi).1
        exact arg (r1 i a _ hi (Array.getElem?_eq_getElem hlt)) (hr.1 a (List.mem_of_getElem? hi))
      · have hlt : i < cv.size := by rw [h2]; exact (List.getElem?_eq_some_iff.mp hi).1
        exact arg (r2 i a _ hi (Array.getElem?_eq_getElem hlt)) (hr.2 a (List.mem_of_getElem? hi))
  | _ => simp [okCell] at hok

/-! ### the memory behind a call -/
/-- Cells of the callee's own variables are never written again. -/
def phiF (φ : Phi) (m : Mem) (n : Nat) : Phi where
  vb := φ.vb
  im b o := φ.im b o ∨ ∃ r cs, n ≤ r ∧ m.var r = some cs ∧ b = φ.vb r ∧ o < cs.length
  tk := φ.tk
theorem phiF_ext (φ : Phi) (m : Mem) (w : World) (n : Nat) : Ext φ m w (phiF φ m n) m w :=
  ⟨rfl, rfl, rfl, Nat.le_refl _, fun _ _ h => ⟨.inl h, rfl⟩, fun _ cs h => ⟨rfl, cs, h, rfl⟩, fun _ v h => ⟨v, h, Nat.le_refl _, fun _ => rfl⟩, fun _ _ _ => rfl, fun _ h => .inl h⟩
theorem finMem_spec (m₀ m : Mem) : (∀ r, r < m₀.vars.length → (finMem m₀ m).var r = m.var r) ∧ (∀ r cs, (finMem m₀ m).var r = some cs → r < m₀.vars.length ∧ m.var r = some cs) ∧
    (∀ id, id < (finMem m₀ m).toks.length → (finMem m₀ m).toks[id]? = m.toks[id]?) ∧ (finMem m₀ m).toks.length ≤ m.toks.length ∧
    (m₀.toks.length ≤ m.toks.length → m₀.toks.length ≤ (finMem m₀ m).toks.length) ∧
    (((finMem m₀ m).vars = m₀.vars) ∨ (finMem m₀ m).toks = m.toks) := by
  have take_var : ∀ r, r < m₀.vars.length → ((m.vars.take m₀.vars.length)[r]?).join = (m.vars[r]?).join := fun r hr => by rw [List.getElem?_take_of_lt hr]
  have take_lt : ∀ (l : List (Option (List AV))) r cs, (((l.take m₀.vars.length)[r]?).join) = some cs → r < m₀.vars.length := fun l r cs h => by
    rw [List.getElem?_take] at h
    split at h
    · assumption
    · cases h
  unfold finMem
  split
  · rename_i he
    refine ⟨fun r hr => ?_, fun r cs h => ?_, fun id hid => ?_, by simp; omega, fun h => by simp; omega, .inl rfl⟩
    · show (m₀.vars[r]?).join = _
      rw [← he]; exact take_var r hr
    · have h' : (m₀.vars[r]?).join = some cs := h
      rw [← he] at h'
      have hlt := take_lt _ r cs h'
      exact ⟨hlt, (take_var r hlt).symm.trans h'⟩
    · simp only [List.length_take] at hid
      exact List.getElem?_take_of_lt (by omega)
  · exact ⟨fun r hr => take_var r hr, fun r cs h => ⟨take_lt _ r cs h, (take_var r (take_lt _ r cs h)).symm.trans h⟩, fun id _ => rfl, Nat.le_refl _, fun h => h, .inr rfl⟩

section
variable {φ₀ φ : Phi} {m₀ m : Mem} {w₀ w : World}
theorem ext_len (hX : Ext φ₀ m₀ w₀ φ m w) : m₀.toks.length ≤ m.toks.length := by
  rcases Nat.eq_zero_or_pos m₀.toks.length with h | h
  · omega
  · obtain ⟨v', h1, _⟩ := hX.tk (m₀.toks.length - 1) m₀.toks[m₀.toks.length - 1] (List.getElem?_eq_getElem (by omega))
    have := (List.getElem?_eq_some_iff.mp h1).1
    omega
theorem fin_rm (hR₀ : RM φ₀ m₀ w₀) (hR : RM φ m w) (hX : Ext φ₀ m₀ w₀ φ m w) : RM (phiF φ m m₀.vars.length) (finMem m₀ m) w := by
  obtain ⟨f1, f2, f3, f4, f5, f6⟩ := finMem_spec m₀ m
  have f7 := f5 (ext_len hX)
  refine ⟨fun r cs h => ?_, fun r r' cs cs' h1 h2 e => hR.inj r r' cs cs' (f2 r cs h1).2 (f2 r' cs' h2).2 e, fun r cs o h hi => ?_, fun id b s e hid htk hlt => ?_, fun id id' b s e s' e' h1 h2 => hR.tinj id id' b s e s' e' (by omega) (by omega), fun b o hi => ?_⟩
  · obtain ⟨hr, hv⟩ := f2 r cs h
    obtain ⟨arr, T, h1, h2, h3, h4⟩ := hR.var r cs hv
    refine ⟨arr, T, h1, ⟨h2.1, fun i a u e1 e2 => ?_⟩, h3, h4⟩
    have ha := (h2.2 i a u e1 e2).mono (phiF_ext φ m w m₀.vars.length)
    rw [List.all_eq_true] at h3 h4
    have hmem := List.mem_of_getElem? e1
    refine low_rep (n := m₀.vars.length) (k := (finMem m₀ m).toks.length) f1 f3 ha ?_
    rcases f6 with f6 | f6
    · -- the variables are what they were
      have hv0 : m₀.var r = some cs := by
        have : (finMem m₀ m).var r = m₀.var r := by unfold Mem.var; rw [f6]
        rw [← this]; exact h
      obtain ⟨arr0, T0, g1, g2, g3, g4⟩ := hR₀.var r cs hv0
      have hlt : i < arr0.size := by rw [g2.1]; exact (List.getElem?_eq_some_iff.mp e1).1
      have hl := cell_low (n := m₀.vars.length) (g2.2 i a _ e1 (Array.getElem?_eq_getElem hlt)) (h3 a hmem) (h4 a hmem) hr
      clear f6
      -- from the tokens of old to those that are left
      have up : ∀ {c : AV}, Low m₀.vars.length m₀.toks.length c → Low m₀.vars.length (finMem m₀ m).toks.length c := by
        intro c hc
        induction hc with
        | junk => exact .junk
        | v x => exact .v x
        | agg cs h ih => exact .agg cs ih
        | tup cs h ih => exact .tup cs ih
        | lst g sz rows h => exact .lst g sz rows fun id ver e => Nat.lt_of_lt_of_le (h id ver e) f7
        | ptr r off h => exact .ptr r off h
        | eptr cs h ih => exact .eptr cs ih
        | vs r off sz m c h => exact .vs r off sz m c h
        | fn f first caps h1 h2 ih1 ih2 => exact .fn f first caps ih1 ih2
      exact up hl
    · rw [f6]
      exact cell_low (n := m₀.vars.length) (h2.2 i a u e1 e2) (h3 a hmem) (h4 a hmem) hr
  · obtain ⟨hr, hv⟩ := f2 r cs h
    rcases hi with hi | ⟨r', cs', h1, h2, h3, _⟩
    · exact hR.vim r cs o hv hi
    · have := hR.inj r r' cs cs' hv h2 h3
      omega
  · obtain ⟨arr, T, g1, g2, g3, g4, g5⟩ := hR.tok id b s e (by omega) htk hlt
    refine ⟨arr, T, g1, g2, fun o h1 h2 hi => ?_, fun r cs hv => g4 r cs (f2 r cs hv).2, g5⟩
    rcases hi with hi | ⟨r', cs', _, h3, h4, _⟩
    · exact g3 o h1 h2 hi
    · exact g4 r' cs' h3 h4.symm
  · rcases hi with hi | ⟨r, cs, _, h2, h3, _⟩
    · exact hR.imlt b o hi
    · obtain ⟨arr, T, h1, _⟩ := hR.var r cs h2
      rw [h3]
      exact (Array.getElem?_eq_some_iff.mp h1).1
theorem fin_ext (hX : Ext φ₀ m₀ w₀ φ m w) : Ext φ₀ m₀ w₀ (phiF φ m m₀.vars.length) (finMem m₀ m) w := by
  obtain ⟨f1, f2, f3, f4, f5, f6⟩ := finMem_spec m₀ m
  have f7 := f5 (ext_len hX)
  refine ⟨hX.os, hX.tape, hX.output, hX.size, fun b o h => ⟨.inl (hX.im b o h).1, (hX.im b o h).2⟩, fun r cs h => ?_, fun id v h => ?_, hX.blk, fun b hb => hX.own b ?_⟩
  · obtain ⟨e, cs', hv, hl⟩ := hX.vb r cs h
    have hr : r < m₀.vars.length := by
      unfold Mem.var at h
      refine Nat.lt_of_not_le fun hle => ?_
      rw [List.getElem?_eq_none hle] at h
      cases h
    exact ⟨e, cs', (f1 r hr).trans hv, hl⟩
  · obtain ⟨v', hv, hle, he⟩ := hX.tk id v h
    have hid := (List.getElem?_eq_some_iff.mp h).1
    exact ⟨v', (f3 id (by omega)).trans hv, hle, he⟩
  · rcases hb with ⟨r, cs, hv, e⟩ | ⟨id, s, e, hid, h1, h2⟩
    · exact .inl ⟨r, cs, (f2 r cs hv).2, e⟩
    · exact .inr ⟨id, s, e, by omega, h1, h2⟩

/-! ### results -/
theorem resCell_sound {a b : AV} {x : Value} (h : Rep φ m w a x) (hb : resCell m₀.vars.length a = some b) : Rep (phiF φ m m₀.vars.length) (finMem m₀ m) w b x := by
  obtain ⟨f1, f2, f3, f4, f5, f6⟩ := finMem_spec m₀ m
  have h' := h.mono (phiF_ext φ m w m₀.vars.length)
  have low : ∀ {c : AV}, Rep (phiF φ m m₀.vars.length) m w c x → Low m₀.vars.length 0 c → Rep (phiF φ m m₀.vars.length) (finMem m₀ m) w c x := fun hc hl => low_rep (k := 0) f1 (fun id h => by omega) hc hl
  unfold resCell at hb
  split at hb
  · simp only [Option.some.injEq] at hb; subst hb; cases h; exact .v _
  · simp only [Option.some.injEq] at hb; subst hb
    exact low (rep_argCell h') (.lst _ _ _ fun id ver e => by cases e)
  · split at hb
    · rename_i hr
      simp only [Option.some.injEq] at hb; subst hb
      exact low h' (.ptr _ _ hr)
    · cases hb
  · cases hb
theorem resAV_sound (hR : RM φ m w) {a b : AV} {x : Value} (h : Rep φ m w a x) (hb : resAV m₀.vars.length m a = some b) : Rep (phiF φ m m₀.vars.length) (finMem m₀ m) w b x := by
  obtain ⟨f1, f2, f3, f4, f5, f6⟩ := finMem_spec m₀ m
  unfold resAV at hb
  split at hb
  · rename_i cs
    simp only [Option.map_eq_some_iff] at hb
    obtain ⟨r, hr, rfl⟩ := hb
    obtain ⟨hl, hs⟩ := mapM_spec hr
    cases h with
    | agg _ arr hn h =>
      refine .agg r arr (by rw [hl]; exact hn) fun i b u h1 h2 => ?_
      obtain ⟨c, hc, hcb⟩ := hs i b h1
      exact resCell_sound (h i c u hc h2) hcb
  · rename_i r off sz n c
    split at hb
    · cases hb
    · rename_i hr
      split at hb
      · rename_i cs hcs
        split at hb
        · rename_i hc
          obtain ⟨rfl, rfl, rfl, rfl⟩ := hc
          simp only [Option.map_eq_some_iff] at hb
          obtain ⟨cs', hcs', rfl⟩ := hb
          obtain ⟨hl, hs⟩ := mapM_spec hcs'
          cases h with
          | vs _ _ _ _ _ cs2 hv hbd hn =>
            obtain ⟨arr, T, g1, g2, g3, g4⟩ := hR.var r cs hcs
            have hlen : (chunk1 cs').length = cs.length := by simp [chunk1, hl]
            rw [← hlen]
            have at' : ∀ (i : Nat) row (j : Nat) y, (chunk1 cs')[i]? = some row → row[j]? = some y → j = 0 ∧ cs'[i]? = some y ∧ i < cs.length := by
              intro i row j y h1 h2
              simp only [chunk1, List.getElem?_map, Option.map_eq_some_iff] at h1
              obtain ⟨z, hz, rfl⟩ := h1
              have hil := (List.getElem?_eq_some_iff.mp hz).1
              cases j with
              | zero => simp at h2; subst h2; exact ⟨rfl, hz, by omega⟩
              | succ j => simp at h2
            have cell : ∀ (i : Nat) y, cs'[i]? = some y → i < cs.length → ∃ z, arr[i]? = some (arr.getD i undef) ∧ cs[i]? = some z ∧ rowCell z = some y ∧ Rep φ m w y (arr.getD i undef) ∧ one (arr.getD i undef) = true := by
              intro i y hy hi
              obtain ⟨z, hz, hzy⟩ := hs i y hy
              have hia : i < arr.size := by rw [g2.1]; exact hi
              have e : arr[i]? = some (arr.getD i undef) := by simp [Array.getD, hia]
              obtain ⟨k1, k2⟩ := rep_rowCell (g2.2 i z _ hz e) hzy
              exact ⟨z, e, hz, hzy, k1, k2⟩
            refine .lst .no 1 (chunk1 cs') (some ⟨φ.vb r, 0, none⟩) _ (fun i j => arr.getD i undef) (by simp) (fun i row h1 => ?_) (fun e => by cases e) (fun ad e _ => by cases e; rfl) (fun ad i row j y e h1 h2 => ?_) (fun i row j y h1 h2 => ?_) trivial
            · simp only [chunk1, List.getElem?_map, Option.map_eq_some_iff] at h1
              obtain ⟨z, hz, rfl⟩ := h1
              refine ⟨rfl, ?_⟩
              obtain ⟨q, hq, hqz⟩ := hs i z hz
              simp only [List.all_cons, List.all_nil, Bool.and_true]
              unfold rowCell at hqz
              split at hqz
              · split at hqz
                · cases hqz; rfl
                · cases hqz
              · cases hqz; rfl
              · cases hqz
            · cases e
              obtain ⟨rfl, h3, h4⟩ := at' i row j y h1 h2
              obtain ⟨z, k1, k2, k3, k4, k5⟩ := cell i y h3 h4
              refine ⟨.inr ⟨r, cs, by omega, hcs, rfl, by simpa using h4⟩, ?_, k5⟩
              simp only [World.cell?, g1, Nat.zero_add, Nat.mul_one, Nat.add_zero]
              exact k1
            · obtain ⟨rfl, h3, h4⟩ := at' i row j y h1 h2
              obtain ⟨z, k1, k2, k3, k4, k5⟩ := cell i y h3 h4
              refine low_rep (k := 0) f1 (fun id h => by omega) (k4.mono (phiF_ext φ m w m₀.vars.length)) ?_
              unfold rowCell at k3
              split at k3
              · split at k3
                · cases k3; exact .v _
                · cases k3
              · cases k3; exact .lst _ _ _ fun id ver e => by cases e
              · cases k3
        · cases hb
      · cases hb
  · exact resCell_sound h hb
end
end Go.Proofs.YtojaokhkbmiidaaGreat.Ev

namespace Go.Proofs.YtojaokhkbmiidaaGreat.Ev
open Go
set_option linter.unusedVariables false
set_option linter.unusedSimpArgs false

/-- An abstract value's meaning stays while cells that nobody writes, variables and tokens stay. -/
theorem Rep.keep {φ φ' : Phi} {m m' : Mem} {w : World} (hi : ∀ b o, φ.im b o → φ'.im b o) (hv : ∀ r cs, m.var r = some cs → φ'.vb r = φ.vb r ∧ m'.var r = some cs)
    (ht : ∀ id v, m.toks[id]? = some v → ∃ v', m'.toks[id]? = some v' ∧ v ≤ v' ∧ (v' = v → φ'.tk id = φ.tk id)) {a : AV} {x : Value} (h : Rep φ m w a x) : Rep φ' m' w a x := by
  induction h with
  | junk x => exact .junk x
  | v x => exact .v x
  | agg cs arr hn _ ih => exact .agg cs arr hn ih
  | tup cs arr hn _ ih => exact .tup cs arr hn ih
  | lst g sz rows a c val hc hr ha hs hcell _ hg ih =>
    refine .lst g sz rows a c val hc hr ha hs (fun ad i row j x e1 e2 e3 => ?_) ih ?_
    · obtain ⟨h1, h2⟩ := hcell ad i row j x e1 e2 e3
      exact ⟨hi _ _ h1, h2⟩
    · cases g with
      | no => exact trivial
      | full => exact hg
      | here => exact hg
      | tok id ver =>
        obtain ⟨v, h1, h2, h3⟩ := hg
        obtain ⟨v', k1, k2, k3⟩ := ht id v h1
        refine ⟨v', k1, Nat.le_trans h2 k2, fun e => ?_⟩
        have := h3 (by omega)
        rw [k3 (by omega)]
        exact this
  | ptr r off cs h =>
    obtain ⟨e, h'⟩ := hv r cs h
    rw [← e]
    exact .ptr r off cs h'
  | eptr cs ad val hs hcell _ ih => exact .eptr cs ad val hs (fun j x e => ⟨hi _ _ (hcell j x e).1, (hcell j x e).2⟩) ih
  | vs r off sz n c cs h hb hn =>
    obtain ⟨e, h'⟩ := hv r cs h
    rw [← e]
    exact .vs r off sz n c cs h' hb hn
  | fn f first caps fv cv h1 h2 _ _ ih1 ih2 => exact .fn f first caps fv cv h1 h2 ih1 ih2

/-- A token more, which takes over what another one held. -/
def tokMem (m : Mem) (i0 v0 : Nat) : Mem := { m with toks := m.toks.set i0 v0 ++ [0] }
def tokPhi (φ : Phi) (m : Mem) (i0 : Nat) (q : Nat × Nat × Nat) : Phi := { φ with tk := fun i => if i = m.toks.length then q else if i = i0 then (0, 0, 0) else φ.tk i }
section
variable {φ : Phi} {m : Mem} {w : World} {i0 v0 b s e : Nat}
theorem tokMem_get {id : Nat} (h : id < m.toks.length) (hne : id ≠ i0) : (tokMem m i0 v0).toks[id]? = m.toks[id]? := by
  show (m.toks.set i0 v0 ++ [0])[id]? = _
  rw [List.getElem?_append_left (by simpa using h), List.getElem?_set_ne (fun e => hne e.symm)]
theorem tokMem_keep (hv0 : ∀ v, m.toks[i0]? = some v → v < v0) {a : AV} {x : Value} (h : Rep φ m w a x) : Rep (tokPhi φ m i0 (b, s, e)) (tokMem m i0 v0) w a x := by
  refine Rep.keep (φ := φ) (m := m) (φ' := tokPhi φ m i0 (b, s, e)) (m' := tokMem m i0 v0) (fun _ _ h => h) (fun r cs h => ⟨rfl, h⟩) (fun id v h => ?_) h
  have hid := (List.getElem?_eq_some_iff.mp h).1
  by_cases hi : id = i0
  · subst hi
    refine ⟨v0, ?_, Nat.le_of_lt (hv0 v h), fun e => ?_⟩
    · show (m.toks.set id v0 ++ [0])[id]? = _
      rw [List.getElem?_append_left (by simpa using hid), List.getElem?_set_self hid]
    · have := hv0 v h; omega
  · refine ⟨v, by rw [tokMem_get hid hi]; exact h, Nat.le_refl _, fun _ => ?_⟩
    show (if id = m.toks.length then _ else _) = _
    rw [if_neg (by omega), if_neg hi]
theorem tokMem_rm (hR : RM φ m w) (hv0 : ∀ v, m.toks[i0]? = some v → v < v0)
    (hb : s < e → (∃ arr T, w.heap[b]? = some (.cells arr T (0, 0)) ∧ e ≤ arr.size ∧ (∀ o, s ≤ o → o < e → ¬ φ.im b o) ∧ (∀ r cs, m.var r = some cs → φ.vb r ≠ b) ∧ (∀ (o : Nat) u, arr[o]? = some u → one u = true)) ∧
      ∀ id s' e', id < m.toks.length → id ≠ i0 → φ.tk id = (b, s', e') → ¬ s' < e') :
    RM (tokPhi φ m i0 (b, s, e)) (tokMem m i0 v0) w := by
  have hlen : (tokMem m i0 v0).toks.length = m.toks.length + 1 := by simp [tokMem]
  have new : ∀ id b' s' e', id < (tokMem m i0 v0).toks.length → (tokPhi φ m i0 (b, s, e)).tk id = (b', s', e') → s' < e' →
      (id = m.toks.length ∧ b' = b ∧ s' = s ∧ e' = e) ∨ (id < m.toks.length ∧ id ≠ i0 ∧ φ.tk id = (b', s', e')) := by
    intro id b' s' e' hid ht hlt
    simp only [tokPhi] at ht
    split at ht
    · rename_i h1
      simp only [Prod.mk.injEq] at ht
      exact .inl ⟨h1, ht.1.symm, ht.2.1.symm, ht.2.2.symm⟩
    · rename_i h1
      split at ht
      · simp only [Prod.mk.injEq] at ht; omega
      · rename_i h2
        exact .inr ⟨by omega, h2, ht⟩
  refine ⟨fun r cs h => ?_, hR.inj, hR.vim, fun id b' s' e' hid ht hlt => ?_, fun id id' b' s1 e1 s2 e2 h1 h2 t1 t2 l1 l2 => ?_, hR.imlt⟩
  · obtain ⟨arr, T, g1, g2, g3⟩ := hR.var r cs h
    exact ⟨arr, T, g1, ⟨g2.1, fun i a u e1 e2 => tokMem_keep hv0 (g2.2 i a u e1 e2)⟩, g3⟩
  · rcases new id b' s' e' hid ht hlt with ⟨_, rfl, rfl, rfl⟩ | ⟨h1, h2, h3⟩
    · exact (hb hlt).1
    · exact hR.tok id b' s' e' h1 h3 hlt
  · rcases new id b' s1 e1 h1 t1 l1 with ⟨i1, rfl, rfl, rfl⟩ | ⟨i1, i2, i3⟩
    · rcases new id' b' s2 e2 h2 t2 l2 with ⟨j1, _⟩ | ⟨j1, j2, j3⟩
      · rw [i1, j1]
      · exact absurd l2 ((hb l1).2 id' s2 e2 j1 j2 j3)
    · rcases new id' b' s2 e2 h2 t2 l2 with ⟨j1, rfl, rfl, rfl⟩ | ⟨j1, j2, j3⟩
      · exact absurd l1 ((hb l2).2 id s1 e1 i1 i2 i3)
      · exact hR.tinj id id' b' s1 e1 s2 e2 i1 j1 i3 j3 l1 l2
theorem tokMem_ext {φ₀ : Phi} {m₀ : Mem} {w₀ : World} (hX : Ext φ₀ m₀ w₀ φ m w) (hi0 : m₀.toks.length ≤ i0) (hb : s < e → Own φ₀ m₀ b ∨ w₀.heap.size ≤ b) : Ext φ₀ m₀ w₀ (tokPhi φ m i0 (b, s, e)) (tokMem m i0 v0) w := by
  have hlen : (tokMem m i0 v0).toks.length = m.toks.length + 1 := by simp [tokMem]
  refine ⟨hX.os, hX.tape, hX.output, hX.size, hX.im, hX.vb, fun id v h => ?_, hX.blk, fun b' hb' => ?_⟩
  · obtain ⟨v', h1, h2, h3⟩ := hX.tk id v h
    have hid := (List.getElem?_eq_some_iff.mp h1).1
    have hid0 := (List.getElem?_eq_some_iff.mp h).1
    refine ⟨v', by rw [tokMem_get hid (by omega)]; exact h1, h2, fun e => ?_⟩
    rw [← h3 e]
    show (if id = m.toks.length then _ else _) = _
    rw [if_neg (by omega), if_neg (by omega)]
  · rcases hb' with ⟨r, cs, hv, he⟩ | ⟨id, s', e', hid, ht, hlt⟩
    · exact hX.own b' (.inl ⟨r, cs, hv, he⟩)
    · simp only [tokPhi] at ht
      split at ht
      · simp only [Prod.mk.injEq] at ht
        obtain ⟨rfl, rfl, rfl⟩ := ht
        exact hb hlt
      · split at ht
        · simp only [Prod.mk.injEq] at ht; omega
        · exact hX.own b' (.inr ⟨id, s', e', by omega, ht, hlt⟩)
end

section
variable {P : Program} {φ₀ φ : Phi} {m₀ m : Mem} {w₀ w : World}

def rangeOf (ad : Option Addr) (s e : Nat) : Nat × Nat × Nat :=
  match ad with
  | none => (0, 0, 0)
  | some ad => (ad.block, ad.off + s, ad.off + e)
/-- A list that is handed on with its growth. -/
theorem grow_sound (hR₀ : RM φ₀ m₀ w₀) (hR : RM φ m w) (hX : Ext φ₀ m₀ w₀ φ m w) {gr : Bool} {a r : AV} {m' : Mem} {x : Value} (h : Rep φ m w a x) (hb : growRes gr m₀ m a = some (r, m')) :
    ∃ φ', RM φ' m' w ∧ Ext φ₀ m₀ w₀ φ' m' w ∧ Rep φ' m' w r x := by
  obtain ⟨f1, f2, f3, f4, f5, f6⟩ := finMem_spec m₀ m
  have f7 := f5 (ext_len hX)
  have hRF := fin_rm hR₀ hR hX
  have hXF := fin_ext hX
  have listF : ∀ {g : Grow} {sz : Nat} {rows : List (List AV)}, Rep φ m w (.lst g sz rows) x → Rep (phiF φ m m₀.vars.length) (finMem m₀ m) w (.lst .no sz rows) x := fun hh => resCell_sound (b := .lst .no _ _) hh rfl
  unfold growRes at hb
  split at hb
  · rename_i sz rows
    simp only [Option.some.injEq, Prod.mk.injEq] at hb
    obtain ⟨rfl, rfl⟩ := hb
    have hF := listF h
    have eq : ({ finMem m₀ m with toks := (finMem m₀ m).toks ++ [0] } : Mem) = tokMem (finMem m₀ m) (finMem m₀ m).toks.length 0 := by
      unfold tokMem
      rw [List.set_eq_of_length_le (Nat.le_refl _)]
    have hv0 : ∀ v, (finMem m₀ m).toks[(finMem m₀ m).toks.length]? = some v → v < 0 := fun v hv => by simp at hv
    rw [eq]
    cases h with
    | lst _ _ _ ad c val hc hr ha hs hcell hrep hg =>
      have hnc : rows.length = c := hg
      generalize hq : rangeOf ad (rows.length * sz) (c * sz) = q
      have hq2 : ¬ q.2.1 < q.2.2 := by
        rw [← hq, hnc]
        cases ad <;> simp [rangeOf]
      refine ⟨tokPhi (phiF φ m m₀.vars.length) (finMem m₀ m) (finMem m₀ m).toks.length (q.1, q.2.1, q.2.2), tokMem_rm hRF hv0 fun hlt => absurd hlt hq2, tokMem_ext hXF f7 fun hlt => absurd hlt hq2, ?_⟩
      have hK := tokMem_keep (b := q.1) (s := q.2.1) (e := q.2.2) hv0 hF
      generalize hxx : Value.slice ad rows.length c = xx at hK hF
      cases hK with
      | lst _ _ _ ad' c' val' hc' hr' ha' hs' hcell' hrep' hg' =>
        cases hxx
        refine .lst _ sz rows ad c val' hc' hr' ha' hs' hcell' hrep' ⟨0, by simp [tokMem], Nat.le_refl _, fun _ => ?_⟩
        cases ad with
        | none => exact hnc
        | some ad =>
          simp only [tokPhi, if_true]
          rw [← hq]
          rfl
  · rename_i id ver sz rows
    split at hb
    · rename_i hc
      obtain ⟨hid, hk⟩ := hc
      simp only [Option.some.injEq, Prod.mk.injEq] at hb
      obtain ⟨rfl, rfl⟩ := hb
      have hF := listF h
      have hidl := (List.getElem?_eq_some_iff.mp hid).1
      have hv0 : ∀ v, (finMem m₀ m).toks[id]? = some v → v < ver + 1 := fun v hv => by
        have h1 := (List.getElem?_eq_some_iff.mp hv).1
        rw [f3 id h1, hid] at hv
        simp only [Option.some.injEq] at hv
        omega
      rw [show ({ finMem m₀ m with toks := (finMem m₀ m).toks.set id (ver + 1) ++ [0] } : Mem) = tokMem (finMem m₀ m) id (ver + 1) from rfl]
      cases h with
      | lst _ _ _ ad c val hc hr ha hs hcell hrep hg =>
        obtain ⟨v, h1, h2, h3⟩ := hg
        rw [hid] at h1
        simp only [Option.some.injEq] at h1
        have h3 := h3 h1.symm
        rcases hq : φ.tk id with ⟨b, s, e⟩
        have hblk := hR.tok id b s e hidl hq
        refine ⟨tokPhi (phiF φ m m₀.vars.length) (finMem m₀ m) id (b, s, e), tokMem_rm hRF hv0 fun hlt => ⟨?_, fun id' s' e' g1 g2 g3 g4 => ?_⟩, tokMem_ext hXF hk fun hlt => ?_, ?_⟩
        · obtain ⟨arr, T, k1, k2, k3, k4, k5⟩ := hblk hlt
          refine ⟨arr, T, k1, k2, fun o o1 o2 hi => ?_, fun r cs hv => k4 r cs (f2 r cs hv).2, k5⟩
          rcases hi with hi | ⟨r', cs', _, i3, i4, _⟩
          · exact k3 o o1 o2 hi
          · exact k4 r' cs' i3 i4.symm
        · exact g2 (hR.tinj id' id b s' e' s e (by omega) hidl g3 hq g4 hlt)
        · exact hX.own b (.inr ⟨id, s, e, hidl, hq, hlt⟩)
        · have hK := tokMem_keep (b := b) (s := s) (e := e) hv0 hF
          generalize hxx : Value.slice ad rows.length c = xx at hK hF
          cases hK with
          | lst _ _ _ ad' c' val' hc' hr' ha' hs' hcell' hrep' hg' =>
            cases hxx
            refine .lst _ sz rows ad c val' hc' hr' ha' hs' hcell' hrep' ⟨0, by simp [tokMem], Nat.le_refl _, fun _ => ?_⟩
            cases ad with
            | none => exact h3
            | some ad =>
              simp only [tokPhi, if_true]
              rw [← hq]
              exact h3
    · cases hb
  · cases hb
  · simp only [Option.map_eq_some_iff, Prod.mk.injEq] at hb
    obtain ⟨r', hr', rfl, rfl⟩ := hb
    exact ⟨_, hRF, hXF, resAV_sound hR h hr'⟩

/-- A result variable's value. -/
def resGo (tmps : Array Value) : ResultVar → Sem Value
  | .tmp t => pure (tmps.getD t undef)
  | .cell a t => do loadVar t (← asAddr (tmps.getD a undef))
theorem result_sound (hR : RM φ m w) {e : Env} {tmps : Array Value} (hE : EnvRep φ m w e tmps) {r : ResultVar} {a : AV} (h : evResult P e m r = some a) :
    ∃ x, (resGo tmps r).run P w = .ok x w ∧ Rep φ m w a x := by
  cases r with
  | tmp t =>
    simp only [evResult, Option.some.injEq] at h
    subst h
    exact ⟨_, rfl, hE t⟩
  | cell p t =>
    simp only [evResult] at h
    obtain ⟨x, h1, h2⟩ := load_sound (P := P) hR (hE p) h
    refine ⟨x, ?_, h2⟩
    generalize hv : tmps.getD p undef = pv at h1
    simp only [resGo, hv]
    cases pv with
    | pointer ad =>
      cases ad with
      | none => simp [Instr.loadAt, Instr.sureAddr] at h1
      | some ad => simpa [Instr.loadAt, Instr.sureAddr, asAddr] using h1
    | _ => simp [Instr.loadAt, Instr.sureAddr] at h1

theorem results_eq (fn : Func) (tmps : Array Value) : results fn tmps = (do
    let vs ← fn.results.mapM (resGo tmps)
    pure (if h : vs.size = 1 then vs[0] else .tuple vs)) := by
  unfold results
  congr 1
theorem ret_sound (hR₀ : RM φ₀ m₀ w₀) {gr : Bool} {fn : Func} {nt : Nat} {e : Env} {a : Act} (hs : St φ₀ m₀ w₀ nt e m a w) {r : AV} {m' : Mem} (h : evRet P gr fn m₀ e m = some (r, m')) :
    ∃ x φ', (results fn a.tmps).run P w = .ok x w ∧ RM φ' m' w ∧ Ext φ₀ m₀ w₀ φ' m' w ∧ Rep φ' m' w r x := by
  obtain ⟨φ, hR, hX, hE, _, _⟩ := hs
  let val : ResultVar → Value := fun rv => match (resGo a.tmps rv).run P w with
    | .ok x _ => x
    | _ => undef
  have hval : ∀ rv b, evResult P e m rv = some b → (resGo a.tmps rv).run P w = .ok (val rv) w ∧ Rep φ m w b (val rv) := by
    intro rv b hb
    obtain ⟨x, h1, h2⟩ := result_sound hR hE hb
    have : val rv = x := by simp [val, h1]
    rw [this]
    exact ⟨h1, h2⟩
  have hrun : (∀ rv ∈ fn.results.toList, (resGo a.tmps rv).run P w = .ok (val rv) w) → (results fn a.tmps).run P w = .ok (if h : (fn.results.map val).size = 1 then (fn.results.map val)[0] else .tuple (fn.results.map val)) w := by
    intro hall
    have h1 := mapM_run (P := P) (w := w) (g := resGo a.tmps) (r := val) hall
    have h2 : (fn.results.mapM (resGo a.tmps)).run P w = .ok (fn.results.map val) w := by
      rw [Array.mapM_eq_mapM_toList, Sem.run_map, h1]
      show Result.ok (fn.results.toList.map val).toArray w = _
      congr 1
      apply Array.ext'
      simp
    rw [results_eq]
    simp only [Sem.run_bind, h2, Result.andThen_ok, Sem.run_pure]
  unfold evRet at h
  split at h
  · rename_i rv hrv
    rw [Option.bind_eq_some_iff] at h
    obtain ⟨b, hb, hg⟩ := h
    obtain ⟨h1, h2⟩ := hval rv b hb
    obtain ⟨φ', g1, g2, g3⟩ := grow_sound hR₀ hR hX h2 hg
    refine ⟨val rv, φ', ?_, g1, g2, g3⟩
    rw [hrun (by rw [hrv]; simpa using h1)]
    have e1 : fn.results = #[rv] := by apply Array.ext'; simpa using hrv
    simp [e1]
  · rename_i rs hrs
    simp only [Option.map_eq_some_iff, Prod.mk.injEq, Option.bind_eq_some_iff] at h
    obtain ⟨vs, ⟨us, hus, hvs⟩, rfl, rfl⟩ := h
    obtain ⟨l1, s1⟩ := mapM_spec hus
    obtain ⟨l2, s2⟩ := mapM_spec hvs
    have hne : ¬ (fn.results.map val).size = 1 := by
      intro h1
      have h2 : fn.results.toList.length = 1 := by simpa using h1
      obtain ⟨q, hq⟩ := List.length_eq_one_iff.mp h2
      exact hrs q hq
    refine ⟨.tuple (fn.results.map val), _, ?_, fin_rm hR₀ hR hX, fin_ext hX, ?_⟩
    · rw [hrun fun rv hrv => ?_, dif_neg hne]
      obtain ⟨i, hi⟩ := List.getElem?_of_mem hrv
      have hil : i < us.length := by rw [l1]; exact (List.getElem?_eq_some_iff.mp hi).1
      obtain ⟨rv', h1, h2⟩ := s1 i _ (List.getElem?_eq_getElem hil)
      rw [hi] at h1
      cases h1
      exact (hval rv _ h2).1
    · refine .tup vs _ (by simp [l2, l1]) fun i b u h1 h2 => ?_
      obtain ⟨c, hc, hcb⟩ := s2 i b h1
      obtain ⟨rv, hrv, hrc⟩ := s1 i c hc
      simp only [Array.getElem?_map, Option.map_eq_some_iff] at h2
      obtain ⟨rv', h3, rfl⟩ := h2
      have : fn.results.toList[i]? = some rv' := by simpa using h3
      rw [this] at hrv
      cases hrv
      exact resAV_sound hR (hval rv c hrc).2 hcb
end

/-! ### all functions -/
theorem entry_rep {φ : Phi} {m : Mem} {w : World} {args : List AV} {vals : Array Value} (h : Reps φ m w args vals) (n : Nat) : EnvRep φ m w (entry args) (vals ++ Array.replicate n undef) := by
  have go : ∀ (l : List AV) (k : Nat) t, get ((List.range' k l.length).zip l) t = if k ≤ t then (l[t - k]?).getD .junk else .junk := by
    intro l
    induction l with
    | nil => intro k t; simp [get]
    | cons a l ih =>
      intro k t
      simp only [List.length_cons, List.range'_succ, List.zip_cons_cons, get, ih]
      by_cases e : k = t
      · subst e; simp
      · by_cases h1 : k ≤ t
        · have h2 : t - k = t - (k + 1) + 1 := by omega
          rw [if_neg e, if_pos (by omega), if_pos h1, h2]
          rfl
        · rw [if_neg e, if_neg (by omega), if_neg h1]
  intro t
  have h1 : get (entry args) t = (args[t]?).getD .junk := by
    unfold entry
    rw [List.range_eq_range', go, if_pos (Nat.zero_le _), Nat.sub_zero]
  rw [h1]
  cases ha : args[t]? with
  | none => exact .junk _
  | some a =>
    have hlt : t < vals.size := by rw [h.1]; exact (List.getElem?_eq_some_iff.mp ha).1
    have e : (vals ++ Array.replicate n undef).getD t undef = vals[t] := by
      rw [Array.getD_eq_getD_getElem?, Array.getElem?_append_left hlt, Array.getElem?_eq_getElem hlt]; rfl
    rw [e]
    exact h.2 t a _ ha (Array.getElem?_eq_getElem hlt)

/-- What one function comes to is so. -/
def FunOk (P : Program) (f : FuncId) (g : List AV → Mem → Option (AV × Mem)) : Prop :=
  ∀ args m r m', g args m = some (r, m') →
    (∃ fn, P.funcs[f]? = some fn ∧ fn.body.isNone = false ∧ (fn.name == "runtime.NumGoroutine") = false) ∧
    ∀ φ w vals, RM φ m w → Reps φ m w args vals →
      Calls P f vals w fun e w' => ∃ x φ', e = .returned x ∧ RM φ' m' w' ∧ Ext φ m w φ' m' w' ∧ Rep φ' m' w' r x
theorem body_ok {P : Program} (hm : P.follows .mixedOrders = true) {C : Ctx} {call : CallF} (hC : CallOk P call) (n : Nat) {f : FuncId} {fn : Func} {c : Code} (hf : P.funcs[f]? = some fn) (hb : fn.body = some c) :
    FunOk P f (evBody P C call n f fn c) := by
  intro args m r m' h
  unfold evBody at h
  split at h
  · rename_i hc
    refine ⟨⟨fn, hf, by rw [hb]; rfl, hc.2⟩, fun φ w vals hR hA => ?_⟩
    have hst : St φ m w fn.ntmps (entry args) m { tmps := vals ++ Array.replicate (fn.ntmps - vals.size) undef, defers := [] } w :=
      ⟨φ, hR, Ext.refl .., entry_rep hA _, by simp; omega, rfl⟩
    have fin : ∀ {e : Env} {m1 : Mem} {a : Act} {w' : World}, evRet P (C.gr f) fn m e m1 = some (r, m') → St φ m w fn.ntmps e m1 a w' →
        a.defers = [] ∧ ∃ v, (results fn a.tmps).run P w' = .ok v w' ∧ ∃ x φ', Ending.returned v = .returned x ∧ RM φ' m' w' ∧ Ext φ m w φ' m' w' ∧ Rep φ' m' w' r x := by
      intro e m1 a w' hret hs
      obtain ⟨x, φ', h1, h2, h3, h4⟩ := ret_sound hR hs hret
      obtain ⟨_, _, _, _, _, hd⟩ := hs
      exact ⟨hd, x, h1, x, φ', rfl, h2, h3, h4⟩
    split at h
    · rename_i e m1 h1
      refine calls_of_wp hf hb (wp_mono (code_sound hm hC _ n c _ _ _ h1 _ _ hst) fun x a w' hp => ?_)
      obtain ⟨rfl, hs⟩ := hp
      exact fin h hs
    · rename_i e m1 h1
      refine calls_of_wp hf hb (wp_mono (code_sound hm hC _ n c _ _ _ h1 _ _ hst) fun x a w' hp => ?_)
      obtain ⟨rfl, hs⟩ := hp
      exact fin h hs
    · cases h
  · cases h
theorem run_ok {P : Program} (hm : P.follows .mixedOrders = true) {C : Ctx} (hx : ∀ f g, C.ext f = some g → FunOk P f g) : ∀ n, CallOk P (run P C n)
  | 0 => fun f args m r m' h => by cases h
  | n + 1 => fun f args m r m' h => by
    unfold run at h
    split at h
    · rename_i g hg
      exact hx f g hg args m r m' h
    · split at h
      · rename_i fn hfn
        split at h
        · rename_i c hc
          exact body_ok hm (run_ok hm hx n) n hfn hc args m r m' h
        · cases h
      · cases h
end Go.Proofs.YtojaokhkbmiidaaGreat.Ev

namespace Go.Proofs.YtojaokhkbmiidaaGreat.Ev
open Go
set_option linter.unusedVariables false
set_option linter.unusedSimpArgs false
section
variable {P : Program} {call : CallF} {nt : Nat} {kp : Nat → Option (List Nat)}

theorem loopN_mono {b b' : Env → Mem → Res} (hb : ∀ e m r, b e m = some r → b' e m = some r) {r : Ex × Env × Mem} : ∀ n n' e m, n ≤ n' → loopN b n e m = some r → loopN b' n' e m = some r
  | 0, _, _, _, _, h => by cases h
  | n + 1, 0, _, _, hn, _ => by omega
  | n + 1, n' + 1, e, m, hn, h => by
    unfold loopN at h ⊢
    split at h
    · rename_i e' m' h1
      rw [hb e m _ h1]
      exact loopN_mono hb n n' e' m' (by omega) h
    · rename_i h1
      rw [hb e m _ h]
      obtain ⟨x, e', m'⟩ := r
      cases x with
      | normal => exact absurd h (h1 e' m')
      | exit id => rfl
      | ret => rfl
theorem code_mono {n n' : Nat} (hn : n ≤ n') : ∀ (c : Code) (e : Env) (m : Mem) (r : Ex × Env × Mem), code P call nt kp n c e m = some r → code P call nt kp n' c e m = some r := by
  intro c
  induction c with
  | seq x y ihx ihy =>
    intro e m r h
    unfold code at h ⊢
    split at h
    · rename_i e' m' h1
      rw [ihx e m _ h1]
      exact ihy e' m' r h
    · rename_i h1
      rw [ihx e m _ h]
      obtain ⟨x, e', m'⟩ := r
      cases x with
      | normal => exact absurd h (h1 e' m')
      | exit id => rfl
      | ret => rfl
  | cond c x y ihx ihy =>
    intro e m r h
    unfold code at h ⊢
    split at h
    · rename_i t ht
      cases t with
      | true => exact ihx e m r h
      | false => exact ihy e m r h
    · cases h
  | block id b ih =>
    intro e m r h
    unfold code at h ⊢
    split at h
    · rename_i q e' m' h1
      rw [ih e m _ h1]
      exact h
    · rename_i h1
      rw [ih e m _ h]
      obtain ⟨x, e', m'⟩ := r
      cases x with
      | normal => rfl
      | exit id => exact absurd h (h1 id e' m')
      | ret => rfl
  | loop b ih =>
    intro e m r h
    unfold code at h ⊢
    exact loopN_mono ih n n' e m hn h
  | _ => intro e m r h; exact h

/-- Code runs, in some number of rounds, to an end that Q holds of. -/
def Runs (P : Program) (call : CallF) (nt : Nat) (kp : Nat → Option (List Nat)) (c : Code) (e : Env) (m : Mem) (Q : Ex → Env → Mem → Prop) : Prop :=
  ∃ n x e' m', code P call nt kp n c e m = some (x, e', m') ∧ Q x e' m'
variable {e : Env} {m : Mem} {Q : Ex → Env → Mem → Prop}
/-- Where the first of two ends. -/
def Next (K : Env → Mem → Prop) (Q : Ex → Env → Mem → Prop) : Ex → Env → Mem → Prop
  | .normal, e, m => K e m
  | x, e, m => Q x e m
def Inside (id : Nat) (Q : Ex → Env → Mem → Prop) : Ex → Env → Mem → Prop
  | .exit q, e, m => if q = id then Q .normal e m else Q (.exit q) e m
  | x, e, m => Q x e m
theorem runs_mono {c : Code} {Q' : Ex → Env → Mem → Prop} (h : Runs P call nt kp c e m Q) (hq : ∀ x e m, Q x e m → Q' x e m) : Runs P call nt kp c e m Q' :=
  let ⟨n, x, e', m', h1, h2⟩ := h; ⟨n, x, e', m', h1, hq _ _ _ h2⟩
theorem runs_skip (h : Q .normal e m) : Runs P call nt kp .skip e m Q := ⟨0, _, _, _, rfl, h⟩
theorem runs_exit {id : Nat} (h : Q (.exit id) e m) : Runs P call nt kp (.exit id) e m Q := ⟨0, _, _, _, rfl, h⟩
theorem runs_ret (h : Q .ret e m) : Runs P call nt kp .ret e m Q := ⟨0, _, _, _, rfl, h⟩
theorem runs_region {id : Nat} {l : List Oper} {e' : Env} {m' : Mem} (h : evOps P call nt l.toArray false l e m = some (e', m')) (hq : Q .normal (restr (kp id) e') m') :
    Runs P call nt kp (.region id l.toArray false) e m Q := ⟨0, _, _, _, by simp only [code, if_neg Bool.false_ne_true, h], hq⟩
theorem runs_drawn {id : Nat} {l : List Oper} {e' : Env} {m' : Mem} (h : evDrawn P call nt l e m = some (e', m')) (hq : Q .normal (restr (kp id) e') m') :
    Runs P call nt kp (.region id l.toArray true) e m Q := ⟨0, _, _, _, by simp only [code, if_true, h], hq⟩
theorem runs_seq {a b : Code} (h : Runs P call nt kp a e m (Next (fun e m => Runs P call nt kp b e m Q) Q)) : Runs P call nt kp (.seq a b) e m Q := by
  obtain ⟨n, x, e', m', h1, h2⟩ := h
  cases x with
  | normal =>
    obtain ⟨n2, x2, e2, m2, h3, h4⟩ := h2
    refine ⟨max n n2, x2, e2, m2, ?_, h4⟩
    unfold code
    rw [code_mono (Nat.le_max_left n n2) _ _ _ _ h1]
    exact code_mono (Nat.le_max_right n n2) _ _ _ _ h3
  | exit id => exact ⟨n, _, _, _, by unfold code; rw [h1], h2⟩
  | ret => exact ⟨n, _, _, _, by unfold code; rw [h1], h2⟩
theorem runs_cond {c : Operand} {a b : Code} {t : Bool} (hc : opd P e 0 c = .v (.bool t)) (ht : t = true → Runs P call nt kp a e m Q) (hf : t = false → Runs P call nt kp b e m Q) : Runs P call nt kp (.cond c a b) e m Q := by
  cases t with
  | true => obtain ⟨n, x, e', m', h1, h2⟩ := ht rfl; exact ⟨n, x, e', m', by unfold code; rw [hc]; exact h1, h2⟩
  | false => obtain ⟨n, x, e', m', h1, h2⟩ := hf rfl; exact ⟨n, x, e', m', by unfold code; rw [hc]; exact h1, h2⟩
theorem runs_block {id : Nat} {b : Code} (h : Runs P call nt kp b e m (Inside id Q)) : Runs P call nt kp (.block id b) e m Q := by
  obtain ⟨n, x, e', m', h1, h2⟩ := h
  cases x with
  | normal => exact ⟨n, _, _, _, by unfold code; rw [h1], h2⟩
  | ret => exact ⟨n, _, _, _, by unfold code; rw [h1], h2⟩
  | exit q =>
    simp only [Inside] at h2
    by_cases hq : q = id
    · rw [if_pos hq] at h2
      exact ⟨n, _, _, _, by unfold code; rw [h1]; simp only [hq, if_true], h2⟩
    · rw [if_neg hq] at h2
      exact ⟨n, _, _, _, by unfold code; rw [h1]; simp only [if_neg hq], h2⟩
theorem runs_loop {b : Code} (I : Nat → Env → Mem → Prop) {k : Nat} (h0 : I k e m) (round : ∀ k e m, I k e m → Runs P call nt kp b e m (Next (fun e' m' => ∃ k', k' < k ∧ I k' e' m') Q)) : Runs P call nt kp (.loop b) e m Q := by
  have key : ∀ k e m, I k e m → ∃ n x e' m', loopN (code P call nt kp n b) n e m = some (x, e', m') ∧ Q x e' m' := by
    intro k
    induction k using Nat.strongRecOn with
    | _ k ih =>
      intro e m hI
      obtain ⟨n, x, e', m', h1, h2⟩ := round k e m hI
      cases x with
      | normal =>
        obtain ⟨k', hk, hI'⟩ := h2
        obtain ⟨n2, x2, e2, m2, h3, h4⟩ := ih k' hk e' m' hI'
        refine ⟨max n n2 + 1, x2, e2, m2, ?_, h4⟩
        unfold loopN
        rw [code_mono (by omega : n ≤ max n n2 + 1) _ _ _ _ h1]
        exact loopN_mono (code_mono (by omega : n2 ≤ max n n2 + 1) b) n2 (max n n2) e' m' (Nat.le_max_right ..) h3
      | exit id => exact ⟨n + 1, _, _, _, by unfold loopN; rw [code_mono (Nat.le_succ n) _ _ _ _ h1], h2⟩
      | ret => exact ⟨n + 1, _, _, _, by unfold loopN; rw [code_mono (Nat.le_succ n) _ _ _ _ h1], h2⟩
  obtain ⟨n, x, e', m', h1, h2⟩ := key k e m h0
  exact ⟨n, x, e', m', by unfold code; exact h1, h2⟩

/-- What a body must leave behind. -/
def Leaves (P : Program) (gr : Bool) (fn : Func) (m₀ : Mem) (r : AV × Mem) : Ex → Env → Mem → Prop
  | .normal, e, m => evRet P gr fn m₀ e m = some r
  | .ret, e, m => evRet P gr fn m₀ e m = some r
  | .exit _, _, _ => False
/-- A function's contract, of its body's run. -/
theorem fun_ok (hm : P.follows .mixedOrders = true) (hC : CallOk P call) {f : FuncId} {fn : Func} {c : Code} (hf : P.funcs[f]? = some fn) (hb : fn.body = some c) (kp : Nat → Option (List Nat)) (gr : Bool)
    {g : List AV → Mem → Option (AV × Mem)} (hn : (fn.name == "runtime.NumGoroutine") = false)
    (h : ∀ args m r, g args m = some r → args.length ≤ fn.ntmps ∧ Runs P call fn.ntmps kp c (entry args) m (Leaves P gr fn m r)) : FunOk P f g := by
  intro args m r m' hg
  obtain ⟨hl, n, x, e', m1, h1, h2⟩ := h args m (r, m') hg
  refine body_ok hm hC n (C := ⟨fun _ => kp, fun _ => gr, fun _ => none⟩) hf hb args m r m' ?_
  unfold evBody
  rw [if_pos ⟨hl, hn⟩]
  dsimp only
  rw [h1]
  cases x with
  | normal => exact h2
  | ret => exact h2
  | exit id => exact h2.elim

/-- Contracts side by side. -/
def table (l : List (FuncId × (List AV → Mem → Option (AV × Mem)))) : CallF := fun f args m =>
  match l with
  | [] => none
  | (k, g) :: rest => if f = k then g args m else table rest f args m
theorem table_ok : ∀ {l : List (FuncId × (List AV → Mem → Option (AV × Mem)))}, (∀ p ∈ l, FunOk P p.1 p.2) → CallOk P (table l)
  | [], _ => fun f args m r m' h => by cases h
  | (k, g) :: rest, hl => fun f args m r m' h => by
    unfold table at h
    split at h
    · rename_i hk
      subst hk
      exact hl _ (List.mem_cons_self ..) args m r m' h
    · exact table_ok (fun p hp => hl p (List.mem_cons_of_mem _ hp)) f args m r m' h
end

/-! ### the law's call -/
/-- All that was there stays. -/
def phiW (W : World) : Phi := ⟨fun _ => 0, fun b _ => b < W.heap.size, fun _ => (0, 0, 0)⟩
theorem phiW_rm (W : World) : RM (phiW W) ⟨[], []⟩ W where
  var r cs h := by simp [Mem.var] at h
  inj r r' cs cs' h := by simp [Mem.var] at h
  vim r cs o h := by simp [Mem.var] at h
  tok id b s e h := by simp at h
  tinj id id' b s e s' e' h := by simp at h
  imlt b o h := h
theorem law_calls {P : Program} {f : FuncId} {g : List AV → Mem → Option (AV × Mem)} (hf : FunOk P f g) {args : List AV} {x : Value} {m' : Mem} (hg : g args ⟨[], []⟩ = some (.v x, m')) {W : World} {vals : Array Value}
    (hA : Reps (phiW W) ⟨[], []⟩ W args vals) : Calls P f vals W fun e W' => e = .returned x ∧ Go.RowKit.Below W.heap.size W W' := by
  refine ((hf args _ _ _ hg).2 (phiW W) W vals (phiW_rm W) hA).mono fun e W' h => ?_
  obtain ⟨y, φ', rfl, _, hX, hr⟩ := h
  cases hr
  refine ⟨rfl, hX.os, hX.tape, hX.output, hX.size, fun k hk => hX.blk k hk ?_⟩
  rintro (⟨r, cs, h, _⟩ | ⟨id, s, e, h, _⟩)
  · simp [Mem.var] at h
  · simp at h
end Go.Proofs.YtojaokhkbmiidaaGreat.Ev

namespace Go.Proofs.YtojaokhkbmiidaaGreat.Ev
open Go
set_option linter.unusedVariables false
set_option linter.unusedSimpArgs false
section
variable {P : Program} {call : CallF} {nt : Nat} {kp : Nat → Option (List Nat)} {ops : Array Oper} {pu : Bool}
/-- Operations run to a state that K holds of. -/
def Ops (P : Program) (call : CallF) (nt : Nat) (ops : Array Oper) (pu : Bool) (l : List Oper) (e : Env) (m : Mem) (K : Env → Mem → Prop) : Prop :=
  ∃ e' m', evOps P call nt ops pu l e m = some (e', m') ∧ K e' m'
variable {e : Env} {m : Mem} {Q : Ex → Env → Mem → Prop} {K : Env → Mem → Prop}
theorem runs_ops {id : Nat} {l : List Oper} (h : Ops P call nt l.toArray false l e m fun e' m' => Q .normal (restr (kp id) e') m') : Runs P call nt kp (.region id l.toArray false) e m Q :=
  let ⟨_, _, h1, h2⟩ := h; runs_region h1 h2
theorem runs_ops_drawn {id : Nat} {l : List Oper} (hok : drawnOk P l = true) (h : Ops P call nt l.toArray (anyLoose P l) l e m fun e' m' => Q .normal (restr (kp id) e') m') : Runs P call nt kp (.region id l.toArray true) e m Q :=
  let ⟨_, _, h1, h2⟩ := h; runs_drawn (by unfold evDrawn; rw [if_pos hok]; exact h1) h2
/-- The ends of pieces of code. -/
theorem next_normal {K : Env → Mem → Prop} (h : K e m) : Next K Q .normal e m := h
theorem next_exit {K : Env → Mem → Prop} {id : Nat} (h : Q (.exit id) e m) : Next K Q (.exit id) e m := h
theorem next_ret {K : Env → Mem → Prop} (h : Q .ret e m) : Next K Q .ret e m := h
theorem inside_normal {id : Nat} (h : Q .normal e m) : Inside id Q .normal e m := h
theorem inside_ret {id : Nat} (h : Q .ret e m) : Inside id Q .ret e m := h
theorem inside_exit {id : Nat} (h : Q .normal e m) : Inside id Q (.exit id) e m := by show (if id = id then _ else _); rw [if_pos rfl]; exact h
theorem inside_other {id q : Nat} (hq : q ≠ id) (h : Q (.exit q) e m) : Inside id Q (.exit q) e m := by show (if q = id then _ else _); rw [if_neg hq]; exact h
/-- A region's end: the slots that are kept. -/
theorem runs_ops_kept {id : Nat} {l : List Oper} (h : Ops P call nt l.toArray false l e m fun e' m' => ∀ e2, restr (kp id) e' = e2 → Q .normal e2 m') : Runs P call nt kp (.region id l.toArray false) e m Q :=
  runs_ops (let ⟨e', m', h1, h2⟩ := h; ⟨e', m', h1, h2 _ rfl⟩)
theorem runs_ops_drawn_kept {id : Nat} {l : List Oper} (hok : drawnOk P l = true) (h : Ops P call nt l.toArray (anyLoose P l) l e m fun e' m' => ∀ e2, restr (kp id) e' = e2 → Q .normal e2 m') : Runs P call nt kp (.region id l.toArray true) e m Q :=
  runs_ops_drawn hok (let ⟨e', m', h1, h2⟩ := h; ⟨e', m', h1, h2 _ rfl⟩)
theorem ops_nil (h : K e m) : Ops P call nt ops pu [] e m K := ⟨e, m, rfl, h⟩
theorem ops_op {o : Oper} {rest : List Oper} {a : AV} {m1 : Mem} {d : Nat} (hg : o.guard = none) (hd : o.dst = some d) (hlt : d < nt) (hk : evOp P call e m o = some (a, m1))
    (hpu : (pu && clsOf P o == .ca) = true → m1 = m) (h : Ops P call nt ops pu rest ((d, a) :: e) m1 K) : Ops P call nt ops pu (o :: rest) e m K := by
  obtain ⟨e', m', h1, h2⟩ := h
  refine ⟨e', m', ?_, h2⟩
  have hw : wantedAV ops e o = some true := by unfold wantedAV; rw [hg]
  have hp : putAV nt o.dst a e = some ((d, a) :: e) := by unfold putAV; rw [hd]; exact if_pos hlt
  have hk' : keeps P pu o m (evOp P call e m o) = some (a, m1) := by unfold keeps; rw [hk]; exact if_pos hpu
  unfold evOps
  rw [hw]
  simp only [hk', hp]
  exact h1
theorem ops_op0 {o : Oper} {rest : List Oper} {a : AV} {m1 : Mem} (hg : o.guard = none) (hd : o.dst = none) (hk : evOp P call e m o = some (a, m1))
    (hpu : (pu && clsOf P o == .ca) = true → m1 = m) (h : Ops P call nt ops pu rest e m1 K) : Ops P call nt ops pu (o :: rest) e m K := by
  obtain ⟨e', m', h1, h2⟩ := h
  refine ⟨e', m', ?_, h2⟩
  have hw : wantedAV ops e o = some true := by unfold wantedAV; rw [hg]
  have hp : putAV nt o.dst a e = some e := by unfold putAV; rw [hd]
  have hk' : keeps P pu o m (evOp P call e m o) = some (a, m1) := by unfold keeps; rw [hk]; exact if_pos hpu
  unfold evOps
  rw [hw]
  simp only [hk', hp]
  exact h1
/-- A guarded one. -/
theorem ops_if {o : Oper} {rest : List Oper} {d j g : Nat} {want b : Bool} (hg : o.guard = some (j, want)) (hj : (ops[j]?).bind (·.dst) = some g) (hb : get e g = .v (.bool b)) (hd : o.dst = some d) (hlt : d < nt)
    (hy : b = want → ∃ a m1, evOp P call e m o = some (a, m1) ∧ ((pu && clsOf P o == .ca) = true → m1 = m) ∧ Ops P call nt ops pu rest ((d, a) :: e) m1 K)
    (hn : b ≠ want → Ops P call nt ops pu rest ((d, .v (.tuple #[])) :: e) m K) : Ops P call nt ops pu (o :: rest) e m K := by
  have hw : wantedAV ops e o = some (b == want) := by unfold wantedAV; rw [hg]; simp only [hj, hb]
  have hp : ∀ a, putAV nt o.dst a e = some ((d, a) :: e) := fun a => by unfold putAV; rw [hd]; exact if_pos hlt
  by_cases h : b = want
  · obtain ⟨a, m1, hk, hpu, e', m', h1, h2⟩ := hy h
    refine ⟨e', m', ?_, h2⟩
    have hk' : keeps P pu o m (evOp P call e m o) = some (a, m1) := by unfold keeps; rw [hk]; exact if_pos hpu
    unfold evOps
    rw [hw, show (b == want) = true by simp [h]]
    simp only [hk', hp]
    exact h1
  · obtain ⟨e', m', h1, h2⟩ := hn h
    refine ⟨e', m', ?_, h2⟩
    unfold evOps
    rw [hw, show (b == want) = false by simp [h]]
    simp only [hp]
    exact h1
theorem ops_yes {o : Oper} {rest : List Oper} {d j g : Nat} {want : Bool} {a : AV} {m1 : Mem} (hg : o.guard = some (j, want)) (hj : (ops[j]?).bind (·.dst) = some g) (hb : get e g = .v (.bool want)) (hd : o.dst = some d) (hlt : d < nt)
    (hk : evOp P call e m o = some (a, m1)) (hpu : (pu && clsOf P o == .ca) = true → m1 = m) (h : Ops P call nt ops pu rest ((d, a) :: e) m1 K) : Ops P call nt ops pu (o :: rest) e m K :=
  ops_if hg hj hb hd hlt (fun _ => ⟨a, m1, hk, hpu, h⟩) (fun hn => absurd rfl hn)
theorem ops_no {o : Oper} {rest : List Oper} {d j g : Nat} {want b : Bool} (hg : o.guard = some (j, want)) (hj : (ops[j]?).bind (·.dst) = some g) (hb : get e g = .v (.bool b)) (hne : b ≠ want) (hd : o.dst = some d) (hlt : d < nt)
    (h : Ops P call nt ops pu rest ((d, .v (.tuple #[])) :: e) m K) : Ops P call nt ops pu (o :: rest) e m K :=
  ops_if hg hj hb hd hlt (fun h' => absurd h' hne) (fun _ => h)
end
end Go.Proofs.YtojaokhkbmiidaaGreat.Ev

namespace Go.Proofs.YtojaokhkbmiidaaGreat.Ev
open Go
set_option linter.unusedVariables false
set_option linter.unusedSimpArgs false
section
variable {P : Program} {call : CallF} {m : Mem} {e : Env}
theorem finMem_self (m : Mem) : finMem m m = m := by
  unfold finMem
  rw [if_pos (List.take_length ..), List.take_length]
theorem ret_v {fn : Func} {t : Tmp} {x : Value} (h : fn.results = #[.tmp t]) (hg : get e t = .v x) : evRet P false fn m e m = some (.v x, m) := by
  unfold evRet
  rw [h]
  simp only [evResult, hg, Option.bind_some, growRes, resAV, resCell, Option.map_some, finMem_self]
theorem ret_vv {fn : Func} {t u : Tmp} {x y : Value} (h : fn.results = #[.tmp t, .tmp u]) (hg : get e t = .v x) (hu : get e u = .v y) : evRet P false fn m e m = some (.tup [.v x, .v y], m) := by
  unfold evRet
  rw [h]
  simp [evResult, hg, hu, resAV, resCell, finMem_self]
theorem leaves_v {fn : Func} {t : Tmp} {x : Value} (h : fn.results = #[.tmp t]) (hg : get e t = .v x) : Leaves P false fn m (.v x, m) .ret e m := ret_v h hg
theorem leaves_vv {fn : Func} {t u : Tmp} {x y : Value} (h : fn.results = #[.tmp t, .tmp u]) (hg : get e t = .v x) (hu : get e u = .v y) : Leaves P false fn m (.tup [.v x, .v y], m) .ret e m := ret_vv h hg hu
theorem index_str {t : TypeId} {s : ByteArray} {k : IntKind} {i : Nat} (ht : tStr P t = true) (hi : i < s.size) : evIndex P t (.v (.string s)) (.v (.int k i)) = some (.v (.int .u8 (s.get! i).toNat)) := by
  simp [evIndex, ht, hi]
/-- A memory with a variable more. -/
def Mem.push (m : Mem) (cs : List AV) : Mem := { m with vars := m.vars ++ [some cs] }
theorem newVar_push {cs : List AV} (h : cs.all (refLe m.vars.length) = true) : newVar m m.vars.length cs = some (m.push cs) := by
  unfold newVar
  rw [if_pos h, if_pos rfl]
  rfl
theorem push_var {cs : List AV} : (m.push cs).var m.vars.length = some cs := by simp [Mem.var, Mem.push]
theorem fin_push {cs : List AV} : finMem m (m.push cs) = m := by
  unfold finMem
  have h : (m.push cs).vars.take m.vars.length = m.vars := by simp [Mem.push]
  rw [if_pos h]
  show (⟨m.vars, m.toks.take m.toks.length⟩ : Mem) = m
  rw [List.take_length]
theorem store_push {t : TypeId} {x : AV} {old cs : List AV} {off : Nat} (hc : cellsOf x = some cs) (ht : tSize P t = some cs.length) (hf : off + cs.length ≤ old.length) (hr : cs.all (refLe m.vars.length) = true) :
    evStore P (m.push old) t (.ptr m.vars.length off) x = some (m.push (splice old off cs)) := by
  unfold evStore
  simp only [hc, ht, push_var]
  rw [if_pos ⟨trivial, hf, hr⟩]
  simp [Mem.push]
theorem indexAddr_arr {t e : TypeId} {n k r off : Nat} {kk : IntKind} {i : Nat} (ht : tArr P t = some (n, e)) (hk : tSize P e = some k) (hi : i < n) :
    evIndexAddr P t (.ptr r off) (.v (.int kk i)) = some (.ptr r (off + i * k)) := by
  unfold evIndexAddr
  simp only [ht, hk]
  rw [if_pos ⟨by omega, by omega⟩, Int.toNat_natCast]
  split
  · rename_i h; rw [h]; rfl
  · rfl
theorem leaves_fin {fn : Func} {t : Tmp} {x : Value} {m' : Mem} (h : fn.results = #[.tmp t]) (hg : get e t = .v x) (hm : finMem m m' = m) : Leaves P false fn m (.v x, m) .ret e m' := by
  show evRet P false fn m e m' = _
  unfold evRet
  rw [h]
  simp only [evResult, hg, Option.bind_some, growRes, resAV, resCell, Option.map_some, hm]
end
end Go.Proofs.YtojaokhkbmiidaaGreat.Ev

namespace Go.Proofs.YtojaokhkbmiidaaGreat.Ev
open Go
set_option linter.unusedVariables false
set_option linter.unusedSimpArgs false
section
variable {P : Program} {m : Mem}
/-- A memory with tokens more. -/
def Mem.tk (m : Mem) (l : List Nat) : Mem := { m with toks := m.toks ++ l }
theorem fin_tk {l : List Nat} : finMem m (m.tk l) = m := by
  unfold finMem
  have h : (m.tk l).vars.take m.vars.length = m.vars := by simp [Mem.tk]
  rw [if_pos h]
  simp [Mem.tk]
/-- May one append to a slice of type t (k cells an element) a slice of type t2? -/
def appB (P : Program) (t t2 : TypeId) (k : Nat) : Bool :=
  match tElem P t with
  | some e =>
    match tSize P e, tBytes P e, zeroCells P e with
    | some k', some b, some z => decide (k' = k) && decide (b ≤ 4096) && decide (z.length = k) && decide (0 < k) && z.all okCell && (match tElem P t2 with | some e2 => e2 == e | none => false)
    | _, _, _ => false
  | none => false
theorem app_of {t t2 : TypeId} {k : Nat} (ha : appB P t t2 k = true) {x y : AV} {g g2 : Grow} {xs ys : List (List AV)} (hx : asList k x = some (g, xs)) (hy : asList k y = some (g2, ys)) (hl : xs.length + ys.length ≤ lim) :
    evAppend P t t2 m x y = match (generalizing := false) g with
      | .no => none
      | .here => none
      | .full => some (.lst (.tok m.toks.length 0) k (xs ++ ys), { m with toks := m.toks ++ [0] })
      | .tok id ver => if m.toks[id]? = some ver then some (.lst (.tok id (ver + 1)) k (xs ++ ys), { m with toks := m.toks.set id (ver + 1) }) else none := by
  unfold appB at ha
  unfold evAppend
  split at ha
  · rename_i e he
    split at ha
    · rename_i k' b z hk hb hz
      simp only [Bool.and_eq_true, decide_eq_true_eq] at ha
      obtain ⟨⟨⟨⟨⟨h1, h2⟩, h3⟩, h4⟩, h5⟩, h6⟩ := ha
      subst h1
      have h6' : tElem P t2 = some e := by
        split at h6
        · rename_i e2 he2; rw [he2]; simpa using h6
        · cases h6
      simp only [he, hk, hb, hz, hx, hy]
      rw [if_pos ⟨hl, h2, h3, h4, h5, h6'⟩]
      cases g <;> rfl
    · cases ha
  · cases ha
theorem asList_lst {k : Nat} {g : Grow} {rows : List (List AV)} : asList k (.lst g k rows) = some (g, rows) := if_pos rfl
theorem app_full {t t2 : TypeId} {k : Nat} (ha : appB P t t2 k = true) {y : AV} {g2 : Grow} {xs ys : List (List AV)} (hy : asList k y = some (g2, ys)) (hl : xs.length + ys.length ≤ lim) :
    evAppend P t t2 m (.lst .full k xs) y = some (.lst (.tok m.toks.length 0) k (xs ++ ys), m.tk [0]) := app_of ha asList_lst hy hl
theorem app_tok {t t2 : TypeId} {k : Nat} (ha : appB P t t2 k = true) {y : AV} {g2 : Grow} {xs ys : List (List AV)} {l : List Nat} {j v : Nat} (hv : l[j]? = some v) (hy : asList k y = some (g2, ys)) (hl : xs.length + ys.length ≤ lim) :
    evAppend P t t2 (m.tk l) (.lst (.tok (m.toks.length + j) v) k xs) y = some (.lst (.tok (m.toks.length + j) (v + 1)) k (xs ++ ys), m.tk (l.set j (v + 1))) := by
  rw [app_of ha asList_lst hy hl]
  have h : (m.tk l).toks[m.toks.length + j]? = some v := by
    show (m.toks ++ l)[m.toks.length + j]? = some v
    rw [List.getElem?_append_right (by omega), Nat.add_sub_cancel_left]
    exact hv
  have h2 : m.toks.length + j - m.toks.length = j := by omega
  simp only [h, if_true]
  simp [Mem.tk, List.set_append, h2]
/-- The one token. -/
theorem app_one {t t2 : TypeId} {k : Nat} (ha : appB P t t2 k = true) {y : AV} {g2 : Grow} {xs ys : List (List AV)} {v : Nat} (hy : asList k y = some (g2, ys)) (hl : xs.length + ys.length ≤ lim) :
    evAppend P t t2 (m.tk [v]) (.lst (.tok m.toks.length v) k xs) y = some (.lst (.tok m.toks.length (v + 1)) k (xs ++ ys), m.tk [v + 1]) := app_tok (j := 0) (l := [v]) ha rfl hy hl

/-- Lists written out. -/
theorem build_nil {t t2 : TypeId} {k : Nat} (ha : appB P t t2 k = true) : evBuildSlice P t 0 [] = some (.lst .full k []) := by
  unfold appB at ha
  unfold evBuildSlice
  split at ha
  · rename_i e he
    split at ha
    · rename_i k' b z hk hb hz
      simp only [Bool.and_eq_true, decide_eq_true_eq] at ha
      obtain ⟨⟨⟨⟨⟨h1, h2⟩, h3⟩, h4⟩, h5⟩, h6⟩ := ha
      subst h1
      simp [he, hk, hz, evRows, h3]
    · cases ha
  · cases ha
theorem build_one {t t2 : TypeId} {k : Nat} (ha : appB P t t2 k = true) (hk16 : k ≤ 16777216) {a : AV} {row : List AV} (hr : rowOf a = some row) (hl : row.length = k) : evBuildSlice P t 1 [(0, a)] = some (.lst .full k [row]) := by
  unfold appB at ha
  unfold evBuildSlice
  split at ha
  · rename_i e he
    split at ha
    · rename_i k' b z hk hb hz
      simp only [Bool.and_eq_true, decide_eq_true_eq] at ha
      obtain ⟨⟨⟨⟨⟨h1, h2⟩, h3⟩, h4⟩, h5⟩, h6⟩ := ha
      subst h1
      simp [he, hk, hz, evRows, h3, hr, hl, hk16]
    · cases ha
  · cases ha

/-! ### places -/
theorem at_list {t e : TypeId} {k : Nat} {kk : IntKind} {g : Grow} {rows : List (List AV)} {i : Nat} {row : List AV} (ht : tElem P t = some e) (hna : tArr P t = none) (hk : tSize P e = some k) (hi : rows[i]? = some row) :
    evIndexAddr P t (.lst g k rows) (.v (.int kk (i : Int))) = some (.eptr row) := by
  have hlt := (List.getElem?_eq_some_iff.1 hi).1
  unfold evIndexAddr
  simp only [hna, ht, hk]
  rw [if_pos ⟨trivial, by omega, by omega⟩, Int.toNat_natCast, hi]
  rfl
theorem load_one {t : TypeId} (ht : tAgg P t = some false) {k : Nat} (hk : tSize P t = some k) {c : AV} {cs : List AV} : evLoad P m t (.eptr (c :: cs)) = some c := by
  simp [evLoad, ptrCells, ht, hk]
def rowsI (l : List Int) : List (List AV) := l.map fun b => [.v (.int .i64 b)]
theorem rowsI_len (l : List Int) : (rowsI l).length = l.length := List.length_map ..
theorem rowsI_app (l l2 : List Int) : rowsI l ++ rowsI l2 = rowsI (l ++ l2) := List.map_append.symm
theorem rowsI_get {l : List Int} {i : Nat} (hi : i < l.length) : (rowsI l)[i]? = some [.v (.int .i64 (l.getD i 0))] := by
  simp [rowsI, List.getD, List.getElem?_eq_getElem hi]
def OkB (l : List Nat) : Prop := ∀ b ∈ l, b < 256
def OkI (l : List Int) : Prop := ∀ b ∈ l, -9223372036854775808 ≤ b ∧ b ≤ 9223372036854775807
theorem OkB.getD {l : List Nat} (h : OkB l) (i : Nat) : l.getD i 0 < 256 := by
  simp only [List.getD]
  cases hi : l[i]? with
  | none => decide
  | some b => exact h b (List.mem_of_getElem? hi)
theorem OkB.app {l l2 : List Nat} (h : OkB l) (h2 : OkB l2) : OkB (l ++ l2) := fun b hb => (List.mem_append.1 hb).elim (h b) (h2 b)
theorem OkB.take {l : List Nat} (h : OkB l) (i : Nat) : OkB (l.take i) := fun b hb => h b (List.mem_of_mem_take hb)
theorem OkB.drop {l : List Nat} (h : OkB l) (i : Nat) : OkB (l.drop i) := fun b hb => h b (List.mem_of_mem_drop hb)
theorem OkB.one {b : Nat} (h : b < 256) : OkB [b] := fun c hc => by simp at hc; omega
theorem OkB.nil : OkB [] := fun c hc => by simp at hc
theorem OkI.getD {l : List Int} (h : OkI l) (i : Nat) : -9223372036854775808 ≤ l.getD i 0 ∧ l.getD i 0 ≤ 9223372036854775807 := by
  simp only [List.getD]
  cases hi : l[i]? with
  | none => simp
  | some b => exact h b (List.mem_of_getElem? hi)
theorem OkI.app {l l2 : List Int} (h : OkI l) (h2 : OkI l2) : OkI (l ++ l2) := fun b hb => (List.mem_append.1 hb).elim (h b) (h2 b)
theorem OkI.nil : OkI [] := fun c hc => by simp at hc

/-! ### results -/
theorem leaves_lst {fn : Func} {t : Tmp} {g : Grow} {k : Nat} {rows : List (List AV)} {e : Env} {m' : Mem} (h : fn.results = #[.tmp t]) (hg : get e t = .lst g k rows) (hm : finMem m m' = m) :
    Leaves P false fn m (.lst .no k rows, m) .ret e m' := by
  show evRet P false fn m e m' = _
  unfold evRet
  rw [h]
  simp only [evResult, hg, Option.bind_some, growRes, resAV, resCell, Option.map_some, hm]
theorem leaves_two {fn : Func} {t u : Tmp} {x y : AV} {e : Env} {m' : Mem} (h : fn.results = #[.tmp t, .tmp u]) (hx : resAV m.vars.length m' (get e t) = some x) (hy : resAV m.vars.length m' (get e u) = some y) (hm : finMem m m' = m) :
    Leaves P false fn m (.tup [x, y], m) .ret e m' := by
  show evRet P false fn m e m' = _
  unfold evRet
  rw [h]
  simp [evResult, hx, hy, hm]
theorem leaves_grow {fn : Func} {t : Tmp} {k id ver : Nat} {rows : List (List AV)} {e : Env} {m' : Mem} (h : fn.results = #[.tmp t]) (hg : get e t = .lst (.tok id ver) k rows) (hm : finMem m m' = m) (hv : m'.toks[id]? = some ver) (hid : m.toks.length ≤ id) :
    Leaves P true fn m (.lst (.tok m.toks.length 0) k rows, m.tk [0]) .ret e m' := by
  show evRet P true fn m e m' = _
  unfold evRet
  rw [h]
  have hs : m.toks.set id (ver + 1) = m.toks := List.set_eq_of_length_le hid
  simp only [evResult, hg, Option.bind_some, growRes, hv, hid, and_self, if_true, hm, hs]
  rfl
theorem leaves_grow_full {fn : Func} {t : Tmp} {k : Nat} {rows : List (List AV)} {e : Env} {m' : Mem} (h : fn.results = #[.tmp t]) (hg : get e t = .lst .full k rows) (hm : finMem m m' = m) :
    Leaves P true fn m (.lst (.tok m.toks.length 0) k rows, m.tk [0]) .ret e m' := by
  show evRet P true fn m e m' = _
  unfold evRet
  rw [h]
  simp only [evResult, hg, Option.bind_some, growRes, hm]
  rfl

end
end Go.Proofs.YtojaokhkbmiidaaGreat.Ev

namespace Go.Proofs.YtojaokhkbmiidaaGreat.Ev
open Go
set_option linter.unusedVariables false
set_option linter.unusedSimpArgs false
section
variable {P : Program} {m : Mem}
/-- The one list that grows: not yet, or by the one token. -/
def Grows (m : Mem) (g : Grow) (m' : Mem) : Prop := (g = .full ∧ m' = m) ∨ ∃ v, g = .tok m.toks.length v ∧ m' = m.tk [v]
theorem grows_full : Grows m .full m := .inl ⟨rfl, rfl⟩
theorem grows_tok {v : Nat} : Grows m (.tok m.toks.length v) (m.tk [v]) := .inr ⟨v, rfl, rfl⟩
theorem app_grows {t t2 : TypeId} {k : Nat} (ha : appB P t t2 k = true) {g : Grow} {m' : Mem} (hG : Grows m g m') {y : AV} {g2 : Grow} {xs ys : List (List AV)} (hy : asList k y = some (g2, ys)) (hl : xs.length + ys.length ≤ lim) :
    ∃ g' m'', evAppend P t t2 m' (.lst g k xs) y = some (.lst g' k (xs ++ ys), m'') ∧ Grows m g' m'' := by
  rcases hG with ⟨rfl, rfl⟩ | ⟨v, rfl, rfl⟩
  · exact ⟨_, _, app_full ha hy hl, grows_tok⟩
  · exact ⟨_, _, app_one ha hy hl, grows_tok⟩
theorem fin_grows {g : Grow} {m' : Mem} (hG : Grows m g m') : finMem m m' = m := by
  rcases hG with ⟨rfl, rfl⟩ | ⟨v, rfl, rfl⟩
  · exact finMem_self _
  · exact fin_tk
theorem app_ints {t t2 : TypeId} (ha : appB P t t2 1 = true) {g g2 : Grow} {m' : Mem} (hG : Grows m g m') (xs ys : List Int) (hl : xs.length + ys.length ≤ lim) :
    ∃ g' m'', evAppend P t t2 m' (.lst g 1 (rowsI xs)) (.lst g2 1 (rowsI ys)) = some (.lst g' 1 (rowsI (xs ++ ys)), m'') ∧ Grows m g' m'' := by
  rw [← rowsI_app]
  exact app_grows ha hG asList_lst (by rw [rowsI_len, rowsI_len]; exact hl)
theorem app_int {t t2 : TypeId} (ha : appB P t t2 1 = true) {g g2 : Grow} {m' : Mem} (hG : Grows m g m') (xs : List Int) (y : Int) (hl : xs.length + 1 ≤ lim) :
    ∃ g' m'', evAppend P t t2 m' (.lst g 1 (rowsI xs)) (.lst g2 1 [[.v (.int .i64 y)]]) = some (.lst g' 1 (rowsI (xs ++ [y])), m'') ∧ Grows m g' m'' := app_ints ha hG xs [y] hl
end
section
variable {P : Program} {call : CallF} {nt : Nat} {ops : Array Oper} {pu : Bool} {e : Env} {m : Mem} {K : Env → Mem → Prop}
theorem ops_cut {l : List Oper} {K' : Env → Mem → Prop} (h : Ops P call nt ops pu l e m K') (hk : ∀ e m, K' e m → K e m) : Ops P call nt ops pu l e m K :=
  let ⟨e', m', h1, h2⟩ := h; ⟨e', m', h1, hk e' m' h2⟩
/-- Guarded by what was not carried out. -/
theorem ops_off {o : Oper} {rest : List Oper} {d j g : Nat} {want : Bool} {a : Array Value} (hg : o.guard = some (j, want)) (hj : (ops[j]?).bind (·.dst) = some g) (hb : get e g = .v (.tuple a)) (hd : o.dst = some d) (hlt : d < nt)
    (h : Ops P call nt ops pu rest ((d, .v (.tuple #[])) :: e) m K) : Ops P call nt ops pu (o :: rest) e m K := by
  obtain ⟨e', m', h1, h2⟩ := h
  refine ⟨e', m', ?_, h2⟩
  have hw : wantedAV ops e o = some false := by unfold wantedAV; rw [hg]; simp only [hj, hb]
  have hp : ∀ a, putAV nt o.dst a e = some ((d, a) :: e) := fun a => by unfold putAV; rw [hd]; exact if_pos hlt
  unfold evOps
  rw [hw]
  simp only [hp]
  exact h1
end
end Go.Proofs.YtojaokhkbmiidaaGreat.Ev

namespace Go.Proofs.YtojaokhkbmiidaaGreat.Ev
open Go
set_option linter.unusedVariables false
set_option linter.unusedSimpArgs false
/-- Types of plain data. -/
def plainT (P : Program) : Nat → TypeId → Bool
  | 0, _ => false
  | d + 1, t =>
    match P.underlying t with
    | some .bool => true
    | some (.int _) => true
    | some .string => true
    | some (.slice e) => plainT P d e && decide (0 < P.cellsOf e)
    | some (.array _ e) => plainT P d e
    | some (.struct fs) => fs.toList.all fun f => plainT P d f.type
    | _ => false
/-- The cells of a value of such a type. -/
def Typed (P : Program) : Nat → TypeId → List AV → Prop
  | 0, _, _ => False
  | d + 1, t, as =>
    match P.underlying t with
    | some .bool => ∃ b, as = [.v (.bool b)]
    | some (.int k) => ∃ n, as = [.v (.int k n)] ∧ k.min ≤ n ∧ n ≤ k.max
    | some .string => ∃ s, as = [.v (.string s)] ∧ s.size ≤ 9223372036854775807
    | some (.slice e) => ∃ rows, as = [.lst .no (P.cellsOf e) rows] ∧ rows.length ≤ 9223372036854775807 ∧ ∀ row ∈ rows, Typed P d e row
    | some (.array n e) => ∃ parts : List (List AV), as = parts.flatten ∧ parts.length = n ∧ ∀ p ∈ parts, Typed P d e p
    | some (.struct fs) => ∃ parts : List (List AV), as = parts.flatten ∧ parts.length = fs.toList.length ∧ ∀ (i : Nat) f p, fs.toList[i]? = some f → parts[i]? = some p → Typed P d f.type p
    | _ => False
/-- An argument of such a type. -/
def TypedArg (P : Program) (d : Nat) (t : TypeId) (a : AV) : Prop :=
  match P.underlying t with
  | some (.struct _) => ∃ as, a = .agg as ∧ Typed P d t as
  | some (.array _ _) => ∃ as, a = .agg as ∧ Typed P d t as
  | _ => Typed P d t [a]
section
variable {H : Type} {enc : TypeId × Value → H} {P : Program} {w : World} {held : Bool}
def CellRep (w : World) (a : AV) (u : Value) : Prop := Rep (phiW w) ⟨[], []⟩ w a u ∧ isRow a = true ∧ one u = true
def Same (w : World) : List AV → List Value → Prop
  | [], [] => True
  | a :: as, u :: us => CellRep w a u ∧ Same w as us
  | _, _ => False
theorem Same.app : ∀ {as : List AV} {us : List Value} {bs : List AV} {vs : List Value}, Same w as us → Same w bs vs → Same w (as ++ bs) (us ++ vs)
  | [], [], _, _, _, h2 => h2
  | a :: as, u :: us, _, _, h1, h2 => ⟨h1.1, Same.app h1.2 h2⟩
  | [], _ :: _, _, _, h1, _ => h1.elim
  | _ :: _, [], _, _, h1, _ => h1.elim
theorem Same.len : ∀ {as : List AV} {us : List Value}, Same w as us → us.length = as.length
  | [], [], _ => rfl
  | a :: as, u :: us, h => by simp [Same.len h.2]
  | [], _ :: _, h => h.elim
  | _ :: _, [], h => h.elim
theorem Same.at : ∀ {as : List AV} {us : List Value}, Same w as us → ∀ (i : Nat) a u, as[i]? = some a → us[i]? = some u → CellRep w a u
  | [], [], _, i, a, u, h1, _ => by simp at h1
  | a :: as, u :: us, h, 0, a', u', h1, h2 => by simp at h1 h2; subst h1; subst h2; exact h.1
  | a :: as, u :: us, h, i + 1, a', u', h1, h2 => Same.at h.2 i a' u' (by simpa using h1) (by simpa using h2)
  | [], _ :: _, h, _, _, _, _, _ => h.elim
  | _ :: _, [], h, _, _, _, _, _ => h.elim
theorem Same.one {a : AV} {u : Value} (h : CellRep w a u) : Same w [a] [u] := ⟨h, trivial⟩
/-- Cells below the heap's end. -/
theorem cell_lt {a : Addr} {v : Value} (h : w.cell? a = some v) : a.block < w.heap.size := by
  unfold World.cell? at h
  split at h
  · rename_i he
    exact (Array.getElem?_eq_some_iff.1 he).1
  · cases h
theorem flat_same (hl : laidOutB P = true) : ∀ (d : Nat) (t : TypeId), plainT P d t = true → t < P.types.size →
    ∀ fuel cs x, DataW.trod enc P w 0 (fun _ => true) held fuel t cs = some x → cs.length = P.cellsOf t → ∃ as, Typed P d t as ∧ Same w as cs
  | 0, t, hp, _ => by simp [plainT] at hp
  | d + 1, t, hp, ht => by
    intro fuel cs x h hlen
    have hp' := hp
    unfold plainT at hp'
    unfold Typed
    split at hp'
    · rename_i hu
      obtain ⟨b, rfl, _⟩ := DataW.trod_bool hu h
      exact ⟨_, ⟨b, rfl⟩, Same.one ⟨.v _, rfl, rfl⟩⟩
    · rename_i k hu
      obtain ⟨n, rfl, _, hw⟩ := DataW.trod_int hu h
      simp only [Lit.wf, Bool.and_eq_true, decide_eq_true_eq] at hw
      exact ⟨_, ⟨n, rfl, hw⟩, Same.one ⟨.v _, rfl, rfl⟩⟩
    · rename_i hu
      obtain ⟨s, rfl, _, hw⟩ := DataW.trod_string hu h
      exact ⟨_, ⟨s, rfl, hw⟩, Same.one ⟨.v _, rfl, rfl⟩⟩
    · rename_i e hu
      simp only [Bool.and_eq_true, decide_eq_true_eq] at hp'
      obtain ⟨hpe, hpos⟩ := hp'
      have ih := flat_same hl d e hpe (kid_slice hl ht hu)
      rcases Go.Deep.open_slice hu h with ⟨rfl, _⟩ | ⟨a, len, cap, m, n, D, Pl, rfl, _, hle, hcap, hm, _, hel⟩
      · refine ⟨_, ⟨[], rfl, by simp, by simp⟩, Same.one ⟨?_, rfl, rfl⟩⟩
        exact .lst .no _ [] none 0 (fun _ _ => undef) (Nat.le_refl _) (fun i row h => by simp at h) (fun _ => rfl) (fun ad h => by cases h) (fun ad i row j x h => by cases h) (fun i row j x h => by simp at h) trivial
      · simp only [if_true] at hm
        subst hm
        have all : ∀ i, i < m → ∃ row : List AV, ∃ cs', w.cells? 0 (a.add (i * P.cellsOf e)) (P.cellsOf e) = some cs' ∧ Typed P d e row ∧ Same w row cs' := by
          intro i hi
          obtain ⟨cs', h1, h2⟩ := hel i hi
          have hcl : cs'.length = P.cellsOf e := by
            unfold World.cells? at h1
            split at h1
            · simpa using mapM_some_length h1
            · cases h1
          obtain ⟨row, h3, h4⟩ := ih n cs' _ h2 hcl
          exact ⟨row, cs', h1, h3, h4⟩
        obtain ⟨rf, hrf⟩ := Go.Deep.choose_lt all
        have cellAt : ∀ i, i < m → ∀ j, j < P.cellsOf e → ∃ v, w.cell? ((a.add (i * P.cellsOf e)).add j) = some v ∧ ∀ b, (rf i)[j]? = some b → CellRep w b v := by
          intro i hi j hj
          obtain ⟨cs', h1, h2, h3⟩ := hrf i hi
          unfold World.cells? at h1
          rw [if_pos (Nat.zero_le _)] at h1
          have hl2 : cs'.length = P.cellsOf e := by simpa using mapM_some_length h1
          have hg := mapM_some_get h1 j j (by simp [hj])
          rw [List.getElem?_eq_getElem (by omega)] at hg
          exact ⟨_, hg, fun b hb => h3.at j b _ hb (List.getElem?_eq_getElem (by omega))⟩
        have hspot : 0 < m → a.spot = none := by
          intro h0
          obtain ⟨v, hv, _⟩ := cellAt 0 h0 0 hpos
          simpa [Addr.add] using World.cell?_spot hv
        have cellAt' : ∀ i, i < m → ∀ j, j < P.cellsOf e → ∃ v, w.cell? ⟨a.block, a.off + i * P.cellsOf e + j, none⟩ = some v ∧ ∀ b, (rf i)[j]? = some b → CellRep w b v := by
          intro i hi j hj
          obtain ⟨v, hv, hr⟩ := cellAt i hi j hj
          rw [Go.Deep.add_add, addr_add (hspot (by omega)), ← Nat.add_assoc] at hv
          exact ⟨v, hv, hr⟩
        let rows : List (List AV) := (List.range len).map rf
        have hrl : rows.length = len := by simp [rows]
        have hrow : ∀ (i : Nat) row, rows[i]? = some row → i < len ∧ row = rf i := by
          intro i row hi
          simp only [rows, List.getElem?_map, Option.map_eq_some_iff] at hi
          obtain ⟨i', h1, h2⟩ := hi
          rw [List.getElem?_eq_some_iff] at h1
          obtain ⟨h3, h4⟩ := h1
          simp at h3 h4
          subst h4
          exact ⟨h3, h2.symm⟩
        have hlenr : ∀ i, i < m → (rf i).length = P.cellsOf e := by
          intro i hi
          obtain ⟨cs', h1, h2, h3⟩ := hrf i hi
          have hcl : cs'.length = P.cellsOf e := by
            unfold World.cells? at h1
            rw [if_pos (Nat.zero_le _)] at h1
            simpa using mapM_some_length h1
          rw [← hcl, h3.len]
        refine ⟨_, ⟨rows, rfl, by rw [hrl]; simp [maxLen] at hcap; omega, fun row hr => ?_⟩, Same.one ⟨?_, rfl, rfl⟩⟩
        · obtain ⟨i, hi, rfl⟩ := List.mem_map.1 hr
          exact (hrf i (by have := List.mem_range.1 hi; omega)).elim fun _ h => h.2.1
        · rw [← hrl]
          refine .lst .no _ rows (some a) m (fun i j => (w.cell? ⟨a.block, a.off + i * P.cellsOf e + j, none⟩).getD undef) (by omega) (fun i row hi => ?_) (fun e => by cases e) (fun ad had h0 => by cases had; exact hspot h0) (fun ad i row j x had h1 h2 => ?_) (fun i row j x h1 h2 => ?_) trivial
          · obtain ⟨h1, rfl⟩ := hrow i row hi
            refine ⟨hlenr i (by omega), ?_⟩
            rw [List.all_eq_true]
            intro b hb
            obtain ⟨j, hj⟩ := List.getElem?_of_mem hb
            have hjl : j < P.cellsOf e := by rw [← hlenr i (by omega)]; exact (List.getElem?_eq_some_iff.1 hj).1
            obtain ⟨v, _, hr⟩ := cellAt' i (by omega) j hjl
            exact (hr b hj).2.1
          · cases had
            obtain ⟨h3, rfl⟩ := hrow i row h1
            have hjl : j < P.cellsOf e := by rw [← hlenr i (by omega)]; exact (List.getElem?_eq_some_iff.1 h2).1
            obtain ⟨v, hv, hr⟩ := cellAt' i (by omega) j hjl
            refine ⟨(by have := cell_lt hv; exact this), ?_, ?_⟩
            · rw [hv]; rfl
            · rw [hv]; exact (hr x h2).2.2
          · obtain ⟨h3, rfl⟩ := hrow i row h1
            have hjl : j < P.cellsOf e := by rw [← hlenr i (by omega)]; exact (List.getElem?_eq_some_iff.1 h2).1
            obtain ⟨v, hv, hr⟩ := cellAt' i (by omega) j hjl
            rw [hv]
            exact (hr x h2).1
    · rename_i n e hu
      obtain ⟨xs, m, _, _, _, hxs, hel⟩ := DataW.trod_array hu h
      obtain ⟨het, hcells⟩ := kid_array hl ht hu
      have ih := flat_same hl d e hp' het
      have all : ∀ i, i < n → ∃ p : List AV, Typed P d e p ∧ Same w p ((cs.drop (i * P.cellsOf e)).take (P.cellsOf e)) := by
        intro i hi
        have h1 := hel i hi
        rw [List.getElem?_eq_getElem (by omega)] at h1
        refine ih m _ _ h1 ?_
        have : (i + 1) * P.cellsOf e ≤ n * P.cellsOf e := Nat.mul_le_mul_right _ hi
        rw [Nat.add_mul] at this
        simp
        omega
      obtain ⟨pf, hpf⟩ := Go.Deep.choose_lt all
      refine ⟨_, ⟨(List.range n).map pf, rfl, by simp, fun p hp => ?_⟩, ?_⟩
      · obtain ⟨i, hi, rfl⟩ := List.mem_map.1 hp
        exact (hpf i (List.mem_range.1 hi)).1
      · have go : ∀ k, k ≤ n → Same w ((List.range k).map pf).flatten (cs.take (k * P.cellsOf e)) := by
          intro k
          induction k with
          | zero => intro _; simp [Same]
          | succ k ih =>
            intro hk
            rw [List.range_succ, List.map_append, List.flatten_append, Nat.add_mul, Nat.one_mul, List.take_add]
            refine (ih (by omega)).app ?_
            simpa using (hpf k (by omega)).2
        have := go n (Nat.le_refl _)
        rwa [List.take_of_length_le (by omega)] at this
    · rename_i fs hu
      obtain ⟨xs, m, _, _, _, hxs, hel⟩ := DataW.trod_struct hu h
      obtain ⟨hty, htot, hoff⟩ := kid_struct hl ht hu
      rw [List.all_eq_true] at hp'
      have all : ∀ i, i < fs.toList.length → ∃ p : List AV, ∀ f, fs.toList[i]? = some f → Typed P d f.type p ∧ Same w p ((cs.drop f.offset).take (P.cellsOf f.type)) := by
        intro i hi
        have hmem : fs.toList[i] ∈ fs.toList := List.getElem_mem hi
        have h1 := hel i fs.toList[i] (by simp at hi ⊢)
        have hix : i < xs.length := by rw [hxs]; simpa using hi
        rw [List.getElem?_eq_getElem hix] at h1
        have ho := hoff i _ (List.getElem?_eq_getElem hi)
        obtain ⟨p, h2, h3⟩ := flat_same hl d _ (hp' _ hmem) (hty _ hmem) m _ _ h1 (by
          have hsum : ((fs.toList.take i).map fun f => P.cellsOf f.type).sum + P.cellsOf fs.toList[i].type ≤ (fs.toList.map fun f => P.cellsOf f.type).sum := by
            have e : fs.toList = fs.toList.take i ++ fs.toList[i] :: fs.toList.drop (i + 1) := by rw [← List.drop_eq_getElem_cons hi, List.take_append_drop]
            generalize fs.toList[i] = y at e ⊢
            generalize fs.toList.take i = l1 at e ⊢
            rw [e]
            simp
          rw [List.length_take, List.length_drop, ho]
          omega)
        exact ⟨p, fun f hf => by rw [List.getElem?_eq_getElem hi] at hf; cases hf; exact ⟨h2, h3⟩⟩
      obtain ⟨pf, hpf⟩ := Go.Deep.choose_lt all
      refine ⟨_, ⟨(List.range fs.toList.length).map pf, rfl, by simp, fun i f p hf hp => ?_⟩, ?_⟩
      · have hi := (List.getElem?_eq_some_iff.1 hf).1
        simp only [List.getElem?_map, Option.map_eq_some_iff] at hp
        obtain ⟨i', h1, h2⟩ := hp
        rw [List.getElem?_eq_some_iff] at h1
        obtain ⟨h3, h4⟩ := h1
        simp at h4
        subst h4
        subst h2
        exact (hpf i hi f hf).1
      · have go : ∀ k, k ≤ fs.toList.length → Same w ((List.range k).map pf).flatten (cs.take ((fs.toList.take k).map fun f => P.cellsOf f.type).sum) := by
          intro k
          induction k with
          | zero => intro _; simp [Same]
          | succ k ih =>
            intro hk
            have hi : k < fs.toList.length := hk
            have e1 : ((fs.toList.take (k + 1)).map fun f => P.cellsOf f.type).sum = ((fs.toList.take k).map fun f => P.cellsOf f.type).sum + P.cellsOf fs.toList[k].type := by
              rw [List.take_add_one, List.getElem?_eq_getElem hi]
              simp
            rw [List.range_succ, List.map_append, List.flatten_append, e1, List.take_add]
            refine (ih (by omega)).app ?_
            have := (hpf k hi _ (List.getElem?_eq_getElem hi)).2
            rw [hoff k _ (List.getElem?_eq_getElem hi)] at this
            simpa using this
        have := go fs.toList.length (Nat.le_refl _)
        rw [List.take_length, ← htot, ← hlen, List.take_length] at this
        exact this
    · cases hp'
end
end Go.Proofs.YtojaokhkbmiidaaGreat.Ev

namespace Go.Proofs.YtojaokhkbmiidaaGreat.Ev
open Go Go.Proofs Go.ChangeShapes Go.WideShapes Go.ChangeAt Go.RowKit
set_option linter.unusedVariables false
set_option linter.unusedSimpArgs false
def TypedAll (P : Program) (d : Nat) : List TypeId → List AV → Prop
  | [], [] => True
  | t :: ts, a :: as => TypedArg P d t a ∧ TypedAll P d ts as
  | _, _ => False
section
variable {H : Type} {enc : TypeId × Value → H} {P : Program} {W : World}
theorem arg_open (hl : laidOutB P = true) {d : Nat} {t : TypeId} (hp : plainT P d t = true) (ht : t < P.types.size) {v : Value} {x : DataW H} {ps : List MemPlace} {base : Nat} (hv : Value.okWide P W .any base t v)
    (h : DataW.Trod enc P W 0 (fun _ => true) true t v x ps) : ∃ a, TypedArg P d t a ∧ Rep (phiW W) ⟨[], []⟩ W a v := by
  obtain ⟨fuel, h⟩ := h
  have hrow := rowFine_of hl ht
  have agg : (∃ cs : Array Value, v = .agg cs ∧ cs.size = P.cellsOf t) → ∃ as, Typed P d t as ∧ Rep (phiW W) ⟨[], []⟩ W (.agg as) v := by
    rintro ⟨cs, rfl, hsz⟩
    obtain ⟨as, h1, h2⟩ := flat_same hl d t hp ht fuel _ _ h (by simpa [Value.cells] using hsz)
    refine ⟨as, h1, .agg as cs (by have := h2.len; simpa [Value.cells] using this) fun i a u e1 e2 => ?_⟩
    exact (h2.at i a u e1 (by simpa [Value.cells] using e2)).1
  have single : (v.cells.toList = [v] ∧ P.cellsOf t = 1) → ∃ a, Typed P d t [a] ∧ Rep (phiW W) ⟨[], []⟩ W a v := by
    rintro ⟨hc, h1⟩
    rw [hc] at h
    obtain ⟨as, h2, h3⟩ := flat_same hl d t hp ht fuel _ _ h (by simpa using h1.symm)
    obtain ⟨a, rfl⟩ := List.length_eq_one_iff.1 (h3.len.symm)
    exact ⟨a, h2, (h3.at 0 a v rfl rfl).1⟩
  have okc : ∀ {u : TypeDesc}, P.underlying t = some u → (∀ fs, u ≠ .struct fs) → (∀ n e, u ≠ .array n e) → Cell.okWide P W .any base t v := by
    intro u hu h1 h2
    unfold Value.okWide at hv
    rw [hu] at hv
    split at hv
    · rename_i e; cases e; exact absurd rfl (h1 _)
    · rename_i e; cases e; exact absurd rfl (h2 _ _)
    · exact hv
  unfold TypedArg
  cases d with
  | zero => simp [plainT] at hp
  | succ d =>
    have hp' := hp
    unfold plainT at hp'
    split at hp'
    · rename_i hu
      have hc := okc hu (fun _ h => by cases h) (fun _ _ h => by cases h)
      rw [hu]
      refine single ⟨?_, ?_⟩
      · unfold Cell.okWide Cell.ok at hc
        rw [hu] at hc
        cases v <;> first | rfl | (exfalso; simp at hc)
      · simp [rowFine, isVar, ht, hu, kindOk] at hrow
        exact hrow
    · rename_i k hu
      have hc := okc hu (fun _ h => by cases h) (fun _ _ h => by cases h)
      rw [hu]
      refine single ⟨?_, ?_⟩
      · unfold Cell.okWide Cell.ok at hc
        rw [hu] at hc
        cases v <;> first | rfl | (exfalso; simp at hc)
      · simp [rowFine, isVar, ht, hu, kindOk] at hrow
        exact hrow
    · rename_i hu
      have hc := okc hu (fun _ h => by cases h) (fun _ _ h => by cases h)
      rw [hu]
      refine single ⟨?_, ?_⟩
      · unfold Cell.okWide Cell.ok at hc
        rw [hu] at hc
        cases v <;> first | rfl | (exfalso; simp at hc)
      · simp [rowFine, isVar, ht, hu, kindOk] at hrow
        exact hrow
    · rename_i e hu
      have hc := okc hu (fun _ h => by cases h) (fun _ _ h => by cases h)
      rw [hu]
      refine single ⟨?_, ?_⟩
      · unfold Cell.okWide Cell.ok at hc
        rw [hu] at hc
        cases v <;> first | rfl | (exfalso; simp at hc)
      · simp [rowFine, isVar, ht, hu, kindOk] at hrow
        exact hrow.2
    · rename_i n e hu
      rw [hu]
      obtain ⟨as, h1, h2⟩ := agg (by
        unfold Value.okWide at hv
        rw [hu] at hv
        obtain ⟨cs, h1, h2, _⟩ := hv
        exact ⟨cs, h1, h2⟩)
      exact ⟨.agg as, ⟨as, rfl, h1⟩, h2⟩
    · rename_i fs hu
      rw [hu]
      obtain ⟨as, h1, h2⟩ := agg (by
        unfold Value.okWide at hv
        rw [hu] at hv
        obtain ⟨cs, h1, h2, _⟩ := hv
        exact ⟨cs, h1, h2⟩)
      exact ⟨.agg as, ⟨as, rfl, h1⟩, h2⟩
    · cases hp'
theorem args_open (hl : laidOutB P = true) {d base : Nat} : ∀ {ts : List TypeId} {vs : List Value} {ds : List (DataW H)} {ps : List MemPlace}, (∀ t ∈ ts, plainT P d t = true ∧ t < P.types.size) →
    (∀ (j : Nat) t v, ts[j]? = some t → vs[j]? = some v → Value.okWide P W .any base t v) → DataW.TrodAll enc P W 0 (fun _ => true) true ts vs ds ps →
    ds.length = ts.length ∧ ∃ as, TypedAll P d ts as ∧ vs.length = as.length ∧ ∀ (i : Nat) a u, as[i]? = some a → vs[i]? = some u → Rep (phiW W) ⟨[], []⟩ W a u
  | [], vs, ds, ps, _, _, h => by
    obtain ⟨rfl, rfl, rfl⟩ := trodAll_nil h
    exact ⟨rfl, [], trivial, rfl, fun i a u h => by simp at h⟩
  | t :: ts, vs, ds, ps, ht, hok, h => by
    obtain ⟨v, vs', d0, ds', p0, q0, rfl, rfl, rfl, h0, h1⟩ := trodAll_cons h
    obtain ⟨hlen, as, ha, hn, hr⟩ := args_open hl (fun t ht' => ht t (List.mem_cons_of_mem _ ht')) (fun j t v e1 e2 => hok (j + 1) t v (by simpa using e1) (by simpa using e2)) h1
    obtain ⟨hp, hlt⟩ := ht t (List.mem_cons_self ..)
    obtain ⟨a, ha0, hr0⟩ := arg_open hl hp hlt (hok 0 t v rfl rfl) h0
    refine ⟨by simp [hlen], a :: as, ⟨ha0, ha⟩, by simp [hn], fun i b u e1 e2 => ?_⟩
    cases i with
    | zero => simp at e1 e2; subst e1; subst e2; exact hr0
    | succ i => exact hr i b u (by simpa using e1) (by simpa using e2)
theorem args_back (hl : laidOutB P = true) {W' : World} (bel : Below W.heap.size W W') : ∀ {ts : List TypeId} {vs : List Value} {ds : List (DataW H)} {ps : List MemPlace}, (∀ t ∈ ts, P.readableRec t = true ∧ t < P.types.size) →
    DataW.TrodAll enc P W 0 (fun _ => true) true ts vs ds ps → (∀ z ∈ ps, z.block < W.heap.size) → DataW.TrodAll enc P W' 0 (fun b => decide (b < W.heap.size)) true ts vs ds ps
  | [], vs, ds, ps, _, h, _ => by
    obtain ⟨rfl, rfl, rfl⟩ := trodAll_nil h
    exact trodAll_mk0
  | t :: ts, vs, ds, ps, ht, h, hz => by
    obtain ⟨v, vs', d0, ds', p0, q0, rfl, rfl, rfl, h0, h1⟩ := trodAll_cons h
    obtain ⟨hr, hlt⟩ := ht t (List.mem_cons_self ..)
    exact trodAll_cons_mk (Below.trod hl hr hlt h0 bel fun z hz' => hz z (by simp [hz'])) (args_back hl bel (fun t ht' => ht t (List.mem_cons_of_mem _ ht')) h1 fun z hz' => hz z (by simp [hz']))
end
/-- The row of a law that has been walked. -/
theorem law_lifted {C : Checked} {os : Os} {f : FuncId} {fn : Func} {s : ChangeSpec} {conds : List PathCond} {H : Type} {enc : TypeId × Value → H} (own : ownKnob C.prog.godebug = none) (started : os.Started)
    (noInit : C.prog.inits.idxOf? f = none) (hfn : C.prog.funcs[f]? = some fn)
    (witness : ∃ (w : World) (tape : Tape) (i : Input), w.os = os ∧ (w.forCall tape i).Shaped C.prog ∧ i.vars = [] ∧ Input.okWide C.prog (w.forCall tape i) .any w.heap.size f i ∧
      s.pre6 enc C.prog fn conds false (w.forCall tape i).memory i.args ∧ Assume.holds {} C.prog (lone (Frame.enter C.prog f i.args .normal) [] (w.forCall tape i)))
    (hl : laidOutB C.prog = true) (hvars : s.vars = []) (ts : List TypeId) (hts : fn.params = ts.toArray) (d : Nat)
    (hty : ts.all (fun t => plainT C.prog d t && decide (t < C.prog.types.size) && C.prog.readableRec t) = true) {tb : TypeId} (hres : fn.resultTypes = #[tb]) (hb : C.prog.underlying tb = some .bool)
    (hs : ∀ (ds : List (DataW H)), ds.length = ts.length → s.fn H ds = { results := [.lit (.bool true)], args := ds })
    {g : List AV → Mem → Option (AV × Mem)} (hf : FunOk C.prog f g) (hg : ∀ as, TypedAll C.prog d ts as → ∃ m', g as ⟨[], []⟩ = some (.v (.bool true), m')) :
    ReturnsInHanded {} C os f .any (s.pre6 enc C.prog fn conds false) (s.post enc C.prog fn false true false false) := by
  refine returnsInHanded_of_change_sized (C := C) own started noInit hfn witness ?_
  intro W base args ds gs before hval hW hcnd hsz0 _
  have hW' := hW
  obtain ⟨p, q, hA, hV, rfl, hfz, hnd⟩ := hW
  have hlt := hA.lt
  rw [hts] at hA hval
  rw [hvars] at hV
  obtain ⟨rfl, rfl⟩ := trodVars_none hV
  have hty' : ∀ t ∈ ts, (plainT C.prog d t = true ∧ t < C.prog.types.size) ∧ C.prog.readableRec t = true := by
    intro t ht
    have := List.all_eq_true.1 hty t ht
    simpa [Bool.and_eq_true] using this
  obtain ⟨hlen, as, ha, hn, hr⟩ := args_open hl (fun t ht => (hty' t ht).1) (fun j t v e1 e2 => hval j t v (by simpa using e1) (by simpa using e2)) hA
  obtain ⟨m', hg'⟩ := hg as ha
  refine (law_calls (vals := args) hf hg' ⟨by simpa using hn, fun i a u h1 h2 => hr i a u h1 (by simpa using h2)⟩).mono fun e W' ⟨he, bel⟩ => ?_
  subst he
  refine ⟨_, rfl, ds, [], _, [], p, [], hW', ?_, ?_, ?_, bel.frame _, fun h => by cases h⟩
  · rw [List.append_nil, hs ds hlen, hres]
    exact trodAll_mk1 (shut_bool hb _)
  · rw [List.append_nil, hs ds hlen, hts]
    exact args_back hl bel (fun t ht => ⟨(hty' t ht).2, (hty' t ht).1.2⟩) hA fun z hz => hlt z hz
  · rw [hvars, List.append_nil, hs ds hlen]
    exact rfl
end Go.Proofs.YtojaokhkbmiidaaGreat.Ev

namespace Go.Proofs.YtojaokhkbmiidaaGreat.Ev
open Go
set_option linter.unusedVariables false
set_option linter.unusedSimpArgs false
theorem table_at : ∀ {l : List (FuncId × (List AV → Mem → Option (AV × Mem)))} {f : FuncId} {g : List AV → Mem → Option (AV × Mem)} {args : List AV} {m : Mem}, (l.find? fun p => p.1 == f).map (·.2) = some g → table l f args m = g args m
  | [], f, g, args, m, h => by simp at h
  | (k, g0) :: rest, f, g, args, m, h => by
    by_cases e : f = k
    · subst e
      simp at h
      rw [table, if_pos rfl, h]
    · have e' : (k == f) = false := by simpa using fun h => e h.symm
      rw [List.find?_cons, e'] at h
      rw [table, if_neg e]
      exact table_at h
/-- Contracts one by one. -/
theorem table_nil {P : Program} : ∀ p ∈ ([] : List (FuncId × (List AV → Mem → Option (AV × Mem)))), FunOk P p.1 p.2 := fun p h => by simp at h
theorem table_more {P : Program} {f : FuncId} {g : List AV → Mem → Option (AV × Mem)} {l : List (FuncId × (List AV → Mem → Option (AV × Mem)))} (h : FunOk P f g) (hl : ∀ p ∈ l, FunOk P p.1 p.2) : ∀ p ∈ (f, g) :: l, FunOk P p.1 p.2 := fun p hp => by
  rcases List.mem_cons.1 hp with rfl | hp
  · exact h
  · exact hl p hp
theorem build_rows {P : Program} {t t2 : TypeId} {k n : Nat} (ha : appB P t t2 k = true) {ps : List (Nat × AV)} {rows : List (List AV)} (hr : evRows k 0 ps = some rows) (hn : rows.length = n) (h16 : n * k ≤ 16777216) :
    evBuildSlice P t n ps = some (.lst .full k rows) := by
  unfold appB at ha
  unfold evBuildSlice
  split at ha
  · rename_i e he
    split at ha
    · rename_i k' b z hk hb hz
      simp only [Bool.and_eq_true, decide_eq_true_eq] at ha
      obtain ⟨⟨⟨⟨⟨h1, h2⟩, h3⟩, h4⟩, h5⟩, h6⟩ := ha
      subst h1
      simp only [he, hk, hz, hr]
      rw [if_pos ⟨hn, h16, h3⟩]
    · cases ha
  · cases ha
section
variable {P : Program} {d : Nat} {t e : TypeId} {a : AV}
theorem arg_int {k : IntKind} (ht : P.underlying t = some (.int k)) (h : TypedArg P (d + 1) t a) : ∃ n, a = .v (.int k n) ∧ k.min ≤ n ∧ n ≤ k.max := by
  unfold TypedArg Typed at h
  rw [ht] at h
  obtain ⟨n, h1, h2⟩ := h
  cases h1
  exact ⟨n, rfl, h2⟩
theorem size_cells {k : Nat} (h : tSize P e = some k) : P.cellsOf e = k := by
  unfold tSize at h
  unfold Program.cellsOf
  rw [h]
  rfl
end
end Go.Proofs.YtojaokhkbmiidaaGreat.Ev

namespace Go.Proofs.YtojaokhkbmiidaaGreat.Ev
open Go
set_option linter.unusedVariables false
set_option linter.unusedSimpArgs false
/-- No row of cells. -/
def plainObj : Obj → Bool
  | .cells _ _ _ => false
  | _ => true
abbrev Objs := List (Nat × Obj)
def setObjs (F : Objs) (b : Nat) (o : Obj) : Objs := F.map fun p => if p.1 = b then (b, o) else p
def ObjsIn (φ : Phi) (m : Mem) (w₀ w : World) (F : Objs) : Prop := ∀ p ∈ F, w.heap[p.1]? = some p.2 ∧ w₀.heap.size ≤ p.1 ∧ ¬ Own φ m p.1 ∧ plainObj p.2 = true
def StF (φ₀ : Phi) (m₀ : Mem) (w₀ : World) (nt : Nat) (e : Env) (m : Mem) (F : Objs) (a : Act) (w : World) : Prop :=
  ∃ φ, RM φ m w ∧ Ext φ₀ m₀ w₀ φ m w ∧ EnvRep φ m w e a.tmps ∧ nt ≤ a.tmps.size ∧ a.defers = [] ∧ ObjsIn φ m w₀ w F
section
variable {P : Program} {call : CallF} {nt : Nat} {φ₀ : Phi} {m₀ : Mem} {w₀ : World} {kp : Nat → Option (List Nat)}

theorem objs_ext {φ φ' : Phi} {m m' : Mem} {w w' : World} {F : Objs} (h : ObjsIn φ m w₀ w F) (hX : Ext φ m w φ' m' w') : ObjsIn φ' m' w₀ w' F := by
  intro p hp
  obtain ⟨h1, h2, h3, h4⟩ := h p hp
  have hlt : p.1 < w.heap.size := (Array.getElem?_eq_some_iff.1 h1).1
  refine ⟨by rw [hX.blk p.1 hlt h3]; exact h1, h2, fun ho => ?_, h4⟩
  rcases hX.own p.1 ho with h | h
  · exact h3 h
  · omega
theorem StF.drop {e : Env} {m : Mem} {F : Objs} {a : Act} {w : World} (h : StF φ₀ m₀ w₀ nt e m F a w) : St φ₀ m₀ w₀ nt e m a w :=
  let ⟨φ, h1, h2, h3, h4, h5, _⟩ := h; ⟨φ, h1, h2, h3, h4, h5⟩
theorem StF.restr {e : Env} {m : Mem} {F : Objs} {a : Act} {w : World} (h : StF φ₀ m₀ w₀ nt e m F a w) (l : Option (List Nat)) : StF φ₀ m₀ w₀ nt (restr l e) m F a w :=
  let ⟨φ, h1, h2, h3, h4, h5, h6⟩ := h; ⟨φ, h1, h2, h3.restr l, h4, h5, h6⟩

/-! ### such objects come and change -/
theorem Rep.carry {φ : Phi} {m : Mem} {w w' : World} (hc : ∀ b o, φ.im b o → w'.cell? ⟨b, o, none⟩ = w.cell? ⟨b, o, none⟩) {a : AV} {x : Value} (h : Rep φ m w a x) : Rep φ m w' a x := by
  induction h with
  | junk x => exact .junk x
  | v x => exact .v x
  | agg cs arr hn _ ih => exact .agg cs arr hn ih
  | tup cs arr hn _ ih => exact .tup cs arr hn ih
  | lst g sz rows a c val hcc hr ha hs hcell _ hg ih =>
    refine .lst g sz rows a c val hcc hr ha hs (fun ad i row j x e1 e2 e3 => ?_) ih hg
    obtain ⟨h1, h2, h5⟩ := hcell ad i row j x e1 e2 e3
    exact ⟨h1, (hc _ _ h1).trans h2, h5⟩
  | ptr r off cs h => exact .ptr r off cs h
  | eptr cs ad val hs hcell _ ih =>
    refine .eptr cs ad val hs (fun j x e => ?_) ih
    obtain ⟨h1, h2⟩ := hcell j x e
    exact ⟨h1, (hc _ _ h1).trans h2⟩
  | vs r off sz n c cs h hb hn => exact .vs r off sz n c cs h hb hn
  | fn f first caps fv cv h1 h2 _ _ ih1 ih2 => exact .fn f first caps fv cv h1 h2 ih1 ih2
theorem alloc_obj {φ : Phi} {m : Mem} {w : World} (hR : RM φ m w) (o : Obj) : RM φ m (w.alloc o) ∧ Ext φ m w φ m (w.alloc o) := by
  have hblk : ∀ b, b < w.heap.size → (w.alloc o).heap[b]? = w.heap[b]? := fun b hb => heap_alloc_old w _ hb
  have lt_of : ∀ b o, w.heap[b]? = some o → b < w.heap.size := fun b o h => (Array.getElem?_eq_some_iff.1 h).1
  have hext : Ext φ m w φ m (w.alloc o) := {
    os := rfl, tape := rfl, output := rfl, size := by rw [alloc_size]; omega
    im := fun b o hi => ⟨hi, cell_of_heap (hblk b (hR.imlt b o hi)) o⟩
    vb := fun r cs' hv => ⟨rfl, cs', hv, rfl⟩
    tk := fun i v hv => ⟨v, hv, Nat.le_refl _, fun _ => rfl⟩
    blk := fun b hb _ => hblk b hb
    own := fun b hb => .inl hb }
  refine ⟨?_, hext⟩
  exact {
    var := fun r cs' hv => by
      obtain ⟨arr', T', h1, h2, h3⟩ := hR.var r cs' hv
      exact ⟨arr', T', by rw [hblk _ (lt_of _ _ h1)]; exact h1, h2.mono hext, h3⟩
    inj := hR.inj
    vim := hR.vim
    tok := fun i b s e hlt hk hse => by
      obtain ⟨arr', T', h1, h2, h3, h4, h5⟩ := hR.tok i b s e hlt hk hse
      exact ⟨arr', T', by rw [hblk _ (lt_of _ _ h1)]; exact h1, h2, h3, h4, h5⟩
    tinj := hR.tinj
    imlt := fun b o hi => Nat.lt_of_lt_of_le (hR.imlt b o hi) (by rw [alloc_size]; omega) }
theorem own_lt {φ : Phi} {m : Mem} {w : World} (hR : RM φ m w) {b : Nat} (h : Own φ m b) : b < w.heap.size := by
  rcases h with ⟨r, cs, hv, rfl⟩ | ⟨id, s, e, hlt, hk, hse⟩
  · obtain ⟨arr, T, h1, _⟩ := hR.var r cs hv
    exact (Array.getElem?_eq_some_iff.1 h1).1
  · obtain ⟨arr, T, h1, _⟩ := hR.tok id b s e hlt hk hse
    exact (Array.getElem?_eq_some_iff.1 h1).1
/-- A world with an object in place of another. -/
def putObj (w : World) (b : Nat) (o : Obj) : World := { w with heap := w.heap.setIfInBounds b o }
theorem putObj_other (w : World) {b c : Nat} (o : Obj) (h : c ≠ b) : (putObj w b o).heap[c]? = w.heap[c]? := by simp [putObj, Array.getElem?_setIfInBounds_ne (Ne.symm h)]
theorem putObj_self (w : World) {b : Nat} (o : Obj) (h : b < w.heap.size) : (putObj w b o).heap[b]? = some o := by simp [putObj, h]
theorem cell_plain {w : World} {b : Nat} {o : Obj} (h : w.heap[b]? = some o) (hp : plainObj o = true) (off : Nat) : w.cell? ⟨b, off, none⟩ = none := by
  unfold World.cell?
  simp only [h]
  cases o <;> first | rfl | cases hp
theorem put_obj {φ : Phi} {m : Mem} {w : World} (hR : RM φ m w) (hX : Ext φ₀ m₀ w₀ φ m w) {b : Nat} {o o' : Obj} (hb : w.heap[b]? = some o) (hp : plainObj o = true) (hp' : plainObj o' = true) (hno : ¬ Own φ m b) (hge : w₀.heap.size ≤ b) :
    RM φ m (putObj w b o') ∧ Ext φ₀ m₀ w₀ φ m (putObj w b o') ∧ ∀ {a : AV} {x : Value}, Rep φ m w a x → Rep φ m (putObj w b o') a x := by
  have hlt : b < w.heap.size := (Array.getElem?_eq_some_iff.1 hb).1
  have hcell : ∀ c off, (putObj w b o').cell? ⟨c, off, none⟩ = w.cell? ⟨c, off, none⟩ := by
    intro c off
    by_cases hc : c = b
    · subst hc
      rw [cell_plain hb hp, cell_plain (putObj_self w o' hlt) hp']
    · exact cell_of_heap (putObj_other w o' hc) off
  have hrep : ∀ {a : AV} {x : Value}, Rep φ m w a x → Rep φ m (putObj w b o') a x := fun h => Rep.carry (fun c off _ => hcell c off) h
  have hsz : (putObj w b o').heap.size = w.heap.size := by simp [putObj]
  refine ⟨?_, ?_, hrep⟩
  · exact {
      var := fun r cs' hv => by
        obtain ⟨arr', T', h1, h2, h3⟩ := hR.var r cs' hv
        exact ⟨arr', T', by rw [putObj_other w o' (fun e => hno (.inl ⟨r, cs', hv, e⟩))]; exact h1, ⟨h2.1, fun i a u e1 e2 => hrep (h2.2 i a u e1 e2)⟩, h3⟩
      inj := hR.inj
      vim := hR.vim
      tok := fun i c s e hlt hk hse => by
        obtain ⟨arr', T', h1, h2, h3, h4, h5⟩ := hR.tok i c s e hlt hk hse
        exact ⟨arr', T', by rw [putObj_other w o' (fun e2 => hno (.inr ⟨i, s, e, hlt, by rw [← e2]; exact hk, hse⟩))]; exact h1, h2, h3, h4, h5⟩
      tinj := hR.tinj
      imlt := fun c o hi => by rw [hsz]; exact hR.imlt c o hi }
  · exact {
      os := hX.os, tape := hX.tape, output := hX.output
      size := by rw [hsz]; exact hX.size
      im := fun c off hi => ⟨(hX.im c off hi).1, (hcell c off).trans (hX.im c off hi).2⟩
      vb := hX.vb
      tk := hX.tk
      blk := fun c hc hno' => by rw [putObj_other w o' (by omega)]; exact hX.blk c hc hno'
      own := hX.own }
theorem putAV_some {d : Nat} (h : d < nt) (av : AV) (e : Env) : putAV nt (some d) av e = some ((d, av) :: e) := if_pos h
theorem StF.new {e : Env} {m : Mem} {F : Objs} {a : Act} {w : World} (h : StF φ₀ m₀ w₀ nt e m F a w) {o : Obj} (ho : plainObj o = true) {d : Nat} (hd : d < nt) {x : Value} :
    StF φ₀ m₀ w₀ nt ((d, .v x) :: e) m ((w.heap.size, o) :: F) (a.put (some d) x) (w.alloc o) := by
  obtain ⟨φ, hR, hX, hE, hn, hdf, hF⟩ := h
  obtain ⟨hR', hX'⟩ := alloc_obj hR o
  refine ⟨φ, hR', hX.trans hX', (hE.mono hX').put (putAV_some hd _ _) hn (.v x) a.defers, by rw [put_size]; exact hn, by rw [put_defers]; exact hdf, fun p hp => ?_⟩
  rcases List.mem_cons.1 hp with rfl | hp
  · exact ⟨heap_alloc_new w o, hX.size, fun h => by have := own_lt hR h; omega, ho⟩
  · exact objs_ext hF hX' p hp
theorem StF.set {e : Env} {m : Mem} {F : Objs} {a : Act} {w : World} (h : StF φ₀ m₀ w₀ nt e m F a w) {b : Nat} {o o' : Obj} (hb : (b, o) ∈ F) (ho' : plainObj o' = true) {d : Nat} (hd : d < nt) {av : AV} {x : Value} (hx : ∀ φ, RM φ m w → EnvRep φ m w e a.tmps → Rep φ m w av x) :
    StF φ₀ m₀ w₀ nt ((d, av) :: e) m (setObjs F b o') (a.put (some d) x) (putObj w b o') := by
  obtain ⟨φ, hR, hX, hE, hn, hdf, hF⟩ := h
  obtain ⟨h1, h2, h3, h4⟩ := hF _ hb
  have hlt : b < w.heap.size := (Array.getElem?_eq_some_iff.1 h1).1
  obtain ⟨hR', hX', hrep⟩ := put_obj hR hX h1 h4 ho' h3 h2
  have hE' : EnvRep φ m (putObj w b o') e a.tmps := fun t => hrep (hE t)
  refine ⟨φ, hR', hX', hE'.put (putAV_some hd _ _) hn (hrep (hx φ hR hE)) a.defers, by rw [put_size]; exact hn, by rw [put_defers]; exact hdf, fun p hp => ?_⟩
  obtain ⟨q, hq, rfl⟩ := List.mem_map.1 hp
  obtain ⟨g1, g2, g3, g4⟩ := hF q hq
  by_cases e1 : q.1 = b
  · rw [if_pos e1]
    exact ⟨putObj_self w o' hlt, h2, h3, ho'⟩
  · rw [if_neg e1]
    exact ⟨by rw [putObj_other w o' e1]; exact g1, g2, g3, g4⟩

/-! ### code -/
abbrev PostF := Ex → Env → Mem → Objs → Prop
def EndsF (φ₀ : Phi) (m₀ : Mem) (w₀ : World) (nt : Nat) (Q : PostF) : Exit → Act → World → Prop := fun x a w => ∃ y e m F, x = toExit y ∧ StF φ₀ m₀ w₀ nt e m F a w ∧ Q y e m F
def XRuns (P : Program) (φ₀ : Phi) (m₀ : Mem) (w₀ : World) (nt : Nat) (c : Code) (e : Env) (m : Mem) (F : Objs) (Q : PostF) : Prop :=
  ∀ a w, StF φ₀ m₀ w₀ nt e m F a w → c.wp P (EndsF φ₀ m₀ w₀ nt Q) a w
def XNext (K : Env → Mem → Objs → Prop) (Q : PostF) : PostF
  | .normal, e, m, F => K e m F
  | x, e, m, F => Q x e m F
def XInside (id : Nat) (Q : PostF) : PostF
  | .exit q, e, m, F => if q = id then Q .normal e m F else Q (.exit q) e m F
  | x, e, m, F => Q x e m F
variable {e : Env} {m : Mem} {F : Objs} {Q : PostF} {K : Env → Mem → Objs → Prop}
theorem xn_normal (h : K e m F) : XNext K Q .normal e m F := h
theorem xn_exit {id : Nat} (h : Q (.exit id) e m F) : XNext K Q (.exit id) e m F := h
theorem xn_ret (h : Q .ret e m F) : XNext K Q .ret e m F := h
theorem xi_normal {id : Nat} (h : Q .normal e m F) : XInside id Q .normal e m F := h
theorem xi_ret {id : Nat} (h : Q .ret e m F) : XInside id Q .ret e m F := h
theorem xi_exit {id : Nat} (h : Q .normal e m F) : XInside id Q (.exit id) e m F := by show (if id = id then _ else _); rw [if_pos rfl]; exact h
theorem xi_other {id q : Nat} (hq : q ≠ id) (h : Q (.exit q) e m F) : XInside id Q (.exit q) e m F := by show (if q = id then _ else _); rw [if_neg hq]; exact h
theorem x_mono {c : Code} {Q' : PostF} (h : XRuns P φ₀ m₀ w₀ nt c e m F Q) (hq : ∀ x e m F, Q x e m F → Q' x e m F) : XRuns P φ₀ m₀ w₀ nt c e m F Q' :=
  fun a w hs => wp_mono (h a w hs) fun x a w ⟨y, e, m, F, h1, h2, h3⟩ => ⟨y, e, m, F, h1, h2, hq _ _ _ _ h3⟩
theorem x_skip (h : Q .normal e m F) : XRuns P φ₀ m₀ w₀ nt .skip e m F Q := fun a w hs => wp_skip ⟨.normal, e, m, F, rfl, hs, h⟩
theorem x_exit {id : Nat} (h : Q (.exit id) e m F) : XRuns P φ₀ m₀ w₀ nt (.exit id) e m F Q := fun a w hs => wp_exit ⟨.exit id, e, m, F, rfl, hs, h⟩
theorem x_ret (h : Q .ret e m F) : XRuns P φ₀ m₀ w₀ nt .ret e m F Q := fun a w hs => wp_ret ⟨.ret, e, m, F, rfl, hs, h⟩
theorem x_seq {x y : Code} (h : XRuns P φ₀ m₀ w₀ nt x e m F (XNext (fun e m F => XRuns P φ₀ m₀ w₀ nt y e m F Q) Q)) : XRuns P φ₀ m₀ w₀ nt (.seq x y) e m F Q := fun a w hs => by
  refine wp_seq (wp_mono (h a w hs) fun x a w ⟨y, e, m, F, h1, h2, h3⟩ => ?_)
  subst h1
  cases y with
  | normal => exact h3 a w h2
  | exit id => exact ⟨.exit id, e, m, F, rfl, h2, h3⟩
  | ret => exact ⟨.ret, e, m, F, rfl, h2, h3⟩
theorem x_block {id : Nat} {b : Code} (h : XRuns P φ₀ m₀ w₀ nt b e m F (XInside id Q)) : XRuns P φ₀ m₀ w₀ nt (.block id b) e m F Q := fun a w hs => by
  refine wp_block (wp_mono (h a w hs) fun x a w ⟨y, e, m, F, h1, h2, h3⟩ => ?_)
  subst h1
  cases y with
  | normal => exact ⟨.normal, e, m, F, rfl, h2, h3⟩
  | ret => exact ⟨.ret, e, m, F, rfl, h2, h3⟩
  | exit q =>
    show (if q = id then _ else _)
    have h3' : if q = id then Q .normal e m F else Q (.exit q) e m F := h3
    by_cases hq : q = id
    · rw [if_pos hq] at h3' ⊢
      exact ⟨.normal, e, m, F, rfl, h2, h3'⟩
    · rw [if_neg hq] at h3' ⊢
      exact ⟨.exit q, e, m, F, rfl, h2, h3'⟩
theorem x_cond {c : Operand} {x y : Code} {t : Bool} (hc : opd P e 0 c = .v (.bool t)) (ht : t = true → XRuns P φ₀ m₀ w₀ nt x e m F Q) (hf : t = false → XRuns P φ₀ m₀ w₀ nt y e m F Q) : XRuns P φ₀ m₀ w₀ nt (.cond c x y) e m F Q := fun a w hs => by
  have hc' : a.eval c = .bool t := by
    obtain ⟨φ, _, _, hE, _⟩ := hs
    have := rep_opd (P := P) hE 0 c
    rw [hc] at this
    generalize hv : a.eval c = v at this
    cases this
    rfl
  refine wp_cond hc' ?_
  cases t with
  | true => exact ht rfl a w hs
  | false => exact hf rfl a w hs
theorem x_loop {b : Code} (I : Nat → Env → Mem → Objs → Prop) {k : Nat} (h0 : I k e m F) (round : ∀ k e m F, I k e m F → XRuns P φ₀ m₀ w₀ nt b e m F (XNext (fun e m F => ∃ k', k' < k ∧ I k' e m F) Q)) : XRuns P φ₀ m₀ w₀ nt (.loop b) e m F Q := by
  have key : ∀ n k e m F a w, k < n → I k e m F → StF φ₀ m₀ w₀ nt e m F a w → Code.rounds P b (EndsF φ₀ m₀ w₀ nt Q) n a w := by
    intro n
    induction n with
    | zero => intro k e m F a w h; omega
    | succ n ih =>
      intro k e m F a w hk hI hs
      rw [rounds_succ]
      refine wp_mono (round k e m F hI a w hs) fun x a w ⟨y, e, m, F, h1, h2, h3⟩ => ?_
      subst h1
      cases y with
      | normal =>
        obtain ⟨k', hk', hI'⟩ := h3
        exact ih k' e m F a w (by omega) hI' h2
      | exit id => exact ⟨.exit id, e, m, F, rfl, h2, h3⟩
      | ret => exact ⟨.ret, e, m, F, rfl, h2, h3⟩
  exact fun a w hs => wp_loop_rounds (k + 1) (key (k + 1) k e m F a w (Nat.lt_succ_self _) h0 hs)
/-- Code without such objects of its own. -/
theorem x_lift (hm : P.follows .mixedOrders = true) (hC : CallOk P call) {c : Code} (h : Runs P call nt kp c e m fun x e m => Q x e m F) : XRuns P φ₀ m₀ w₀ nt c e m F Q := fun a w hs => by
  obtain ⟨n, x, e', m', h1, h2⟩ := h
  obtain ⟨φ, hR, hX, hE, hn, hd, hF⟩ := hs
  refine wp_mono (code_sound (φ₀ := φ) (m₀ := m) (w₀ := w) hm hC kp n c e m _ h1 a w ⟨φ, hR, Ext.refl .., hE, hn, hd⟩) fun y a' w' hp => ?_
  obtain ⟨rfl, φ', hR', hX', hE', hn', hd'⟩ := hp
  exact ⟨x, e', m', F, rfl, ⟨φ', hR', hX.trans hX', hE', hn', hd', objs_ext hF hX'⟩, h2⟩
theorem x_region (hm : P.follows .mixedOrders = true) (hC : CallOk P call) {id : Nat} {l : List Oper} (h : Ops P call nt l.toArray false l e m fun e' m' => ∀ e2, restr (kp id) e' = e2 → Q .normal e2 m' F) : XRuns P φ₀ m₀ w₀ nt (.region id l.toArray false) e m F Q :=
  x_lift hm hC (runs_ops_kept h)

/-! ### regions with operations on such objects -/
def XOps (P : Program) (φ₀ : Phi) (m₀ : Mem) (w₀ : World) (nt : Nat) (ops : Array Oper) (l : List Oper) (e : Env) (m : Mem) (F : Objs) (K : Env → Mem → Objs → Prop) : Prop :=
  ∀ (R : Exit → Act → World → Prop), (∀ e m F a w, K e m F → StF φ₀ m₀ w₀ nt e m F a w → R .normal a w) → ∀ a w, StF φ₀ m₀ w₀ nt e m F a w → wpList P ops R l a w
variable {ops : Array Oper}
theorem x_ops {id : Nat} {l : List Oper} {l2 : Option (List Nat)} (h : XOps P φ₀ m₀ w₀ nt l.toArray l e m F fun e' m' F' => ∀ e2, Ev.restr l2 e' = e2 → Q .normal e2 m' F') : XRuns P φ₀ m₀ w₀ nt (.region id l.toArray false) e m F Q := fun a w hs =>
  wp_region_list (h (EndsF φ₀ m₀ w₀ nt Q) (fun e m F a w hK hs => ⟨.normal, _, m, F, rfl, hs.restr l2, hK _ rfl⟩) a w hs)
theorem xo_nil (h : K e m F) : XOps P φ₀ m₀ w₀ nt ops [] e m F K := fun R hR a w hs => hR e m F a w h hs
theorem wanted_none {o : Oper} (hg : o.guard = none) {a : Act} : Region.wanted o (yielded ops a.tmps) = true := by
  unfold Region.wanted
  rw [hg]
theorem xo_op (hC : CallOk P call) {o : Oper} {rest : List Oper} {av : AV} {m1 : Mem} {d : Nat} (hg : o.guard = none) (hd : o.dst = some d) (hlt : d < nt) (hk : evOp P call e m o = some (av, m1)) (h : XOps P φ₀ m₀ w₀ nt ops rest ((d, av) :: e) m1 F K) :
    XOps P φ₀ m₀ w₀ nt ops (o :: rest) e m F K := fun R hR a w hs => by
  obtain ⟨φ, hRM, hX, hE, hn, hdf, hF⟩ := hs
  unfold wpList
  rw [wanted_none hg, if_pos rfl]
  left
  refine op_wp hC hRM hE hk fun x w' φ' g1 g2 g3 => ?_
  refine h R hR _ _ ⟨φ', g1, hX.trans g2, ?_, by rw [put_size]; exact hn, by rw [put_defers]; exact hdf, objs_ext hF g2⟩
  exact (hE.mono g2).put (by rw [hd]; exact putAV_some hlt _ _) hn g3 a.defers
/-- A text's iterator. -/
theorem xo_range {o : Oper} {rest : List Oper} {t : TypeId} {x : Operand} {s : ByteArray} {d : Nat} (hg : o.guard = none) (hd : o.dst = some d) (hlt : d < nt) (ho : o.op = .range t x) (ht : tStr P t = true) (hx : opd P e t x = .v (.string s))
    (h : ∀ b, XOps P φ₀ m₀ w₀ nt ops rest ((d, .v (.pointer (some ⟨b, 0, none⟩))) :: e) m ((b, .stringIter s 0) :: F) K) : XOps P φ₀ m₀ w₀ nt ops (o :: rest) e m F K := fun R hR a w hs => by
  have hv : a.eval x = .string s := by
    obtain ⟨φ, _, _, hE, _⟩ := hs
    have := rep_opd (P := P) hE t x
    rw [hx] at this
    generalize hv : a.eval x = v at this
    cases this
    rfl
  unfold wpList
  rw [wanted_none hg, if_pos rfl]
  left
  have hrun : (execOp a.eval o).run P w = .ok (.value (.pointer (some ⟨w.heap.size, 0, none⟩))) (w.alloc (.stringIter s 0)) := by
    unfold execOp
    rw [ho]
    simp only [hv]
    rw [Sem.run_bind, run_range_string w t s (str_under ht)]
    rfl
  unfold Oper.wp
  rw [hrun, Oper.upon_value, hd]
  exact h _ R hR _ _ (hs.new rfl hlt)
/-- .. and its steps. -/
theorem xo_next {o : Oper} {rest : List Oper} {x : Operand} {s : ByteArray} {d b pos : Nat} (hg : o.guard = none) (hd : o.dst = some d) (hlt : d < nt) (ho : o.op = .next x true) (hx : opd P e o.type x = .v (.pointer (some ⟨b, 0, none⟩))) (hb : (b, .stringIter s pos) ∈ F)
    (h1 : pos < s.size → XOps P φ₀ m₀ w₀ nt ops rest ((d, .tup [.v (.bool true), .v (.int .i64 (pos : Int)), .v (.int .i32 ((Utf8.decode s pos).1 : Nat))]) :: e) m (setObjs F b (.stringIter s (pos + (Utf8.decode s pos).2))) K)
    (h2 : ¬ pos < s.size → XOps P φ₀ m₀ w₀ nt ops rest ((d, .tup [.v (.bool false)]) :: e) m F K) : XOps P φ₀ m₀ w₀ nt ops (o :: rest) e m F K := fun R hR a w hs => by
  have hv : a.eval x = .pointer (some ⟨b, 0, none⟩) := by
    obtain ⟨φ, _, _, hE, _⟩ := hs
    have := rep_opd (P := P) hE o.type x
    rw [hx] at this
    generalize hv : a.eval x = v at this
    cases this
    rfl
  have hheap : w.heap[b]? = some (.stringIter s pos) := by
    obtain ⟨φ, _, _, _, _, _, hF⟩ := hs
    exact (hF _ hb).1
  have tup_rep : ∀ {φ : Phi} {m : Mem} {w : World} (l : List Value), Rep φ m w (.tup (l.map .v)) (.tuple l.toArray) := fun l => .tup _ _ (by simp) fun i a u e1 e2 => by
    simp at e1 e2
    obtain ⟨y, h3, rfl⟩ := e1
    rw [e2] at h3
    cases h3
    exact .v _
  unfold wpList
  rw [wanted_none hg, if_pos rfl]
  left
  by_cases hp : pos < s.size
  · have hrun : (execOp a.eval o).run P w = .ok (.value (.tuple #[.bool true, .int .i64 pos, .int .i32 (Utf8.decode s pos).1])) (putObj w b (.stringIter s (pos + (Utf8.decode s pos).2))) := by
      unfold execOp
      rw [ho]
      simp only [hv]
      simp [Instr.next, getObj, setObj, Sem.run_bind, Sem.run, hheap, Result.andThen, hp, goInt, putObj]
    unfold Oper.wp
    rw [hrun, Oper.upon_value, hd]
    exact h1 hp R hR _ _ (hs.set hb rfl hlt fun φ _ _ => tup_rep [.bool true, .int .i64 pos, .int .i32 (Utf8.decode s pos).1])
  · have hrun : (execOp a.eval o).run P w = .ok (.value (.tuple #[.bool false])) w := by
      unfold execOp
      rw [ho]
      simp only [hv]
      simp [Instr.next, getObj, Sem.run_bind, Sem.run, hheap, Result.andThen, hp]
    unfold Oper.wp
    rw [hrun, Oper.upon_value, hd]
    obtain ⟨φ, hRM, hX, hE, hn, hdf, hF⟩ := hs
    exact h2 hp R hR _ _ ⟨φ, hRM, hX, hE.put (putAV_some hlt _ _) hn (tup_rep [.bool false]) a.defers, by rw [put_size]; exact hn, by rw [put_defers]; exact hdf, hF⟩

/-! ### a function -/
def XLeaves (P : Program) (gr : Bool) (fn : Func) (m₀ : Mem) (r : AV × Mem) : PostF
  | .normal, e, m, _ => evRet P gr fn m₀ e m = some r
  | .ret, e, m, _ => evRet P gr fn m₀ e m = some r
  | .exit _, _, _, _ => False
theorem x_leaves {gr : Bool} {fn : Func} {r : AV × Mem} (h : Leaves P gr fn m₀ r .ret e m) : XLeaves P gr fn m₀ r .ret e m F := h
theorem fun_okX {f : FuncId} {fn : Func} {c : Code} (hf : P.funcs[f]? = some fn) (hb : fn.body = some c) (gr : Bool) {g : List AV → Mem → Option (AV × Mem)} (hn : (fn.name == "runtime.NumGoroutine") = false)
    (h : ∀ args m r, g args m = some r → args.length ≤ fn.ntmps ∧ ∀ φ w, XRuns P φ m w fn.ntmps c (entry args) m [] (XLeaves P gr fn m r)) : FunOk P f g := by
  intro args m r m' hg
  obtain ⟨hl, hx⟩ := h args m (r, m') hg
  refine ⟨⟨fn, hf, by rw [hb]; rfl, hn⟩, fun φ w vals hR hA => ?_⟩
  have hst : StF φ m w fn.ntmps (entry args) m [] { tmps := vals ++ Array.replicate (fn.ntmps - vals.size) undef, defers := [] } w :=
    ⟨φ, hR, Ext.refl .., entry_rep hA _, by simp; omega, rfl, fun p hp => by simp at hp⟩
  refine calls_of_wp hf hb (wp_mono (hx φ w _ _ hst) fun x a w' ⟨y, e, m1, F, h1, h2, h3⟩ => ?_)
  subst h1
  have fin : evRet P gr fn m e m1 = some (r, m') → a.defers = [] ∧ ∃ v, (results fn a.tmps).run P w' = .ok v w' ∧ ∃ x φ', Ending.returned v = .returned x ∧ RM φ' m' w' ∧ Ext φ m w φ' m' w' ∧ Rep φ' m' w' r x := by
    intro hret
    obtain ⟨x, φ', g1, g2, g3, g4⟩ := ret_sound hR h2.drop hret
    obtain ⟨_, _, _, _, _, hd⟩ := h2.drop
    exact ⟨hd, x, g1, x, φ', rfl, g2, g3, g4⟩
  cases y with
  | normal => exact fin h3
  | ret => exact fin h3
  | exit id => exact h3.elim
end
end Go.Proofs.YtojaokhkbmiidaaGreat.Ev

namespace Go.Proofs.YtojaokhkbmiidaaGreat.Ev
open Go
set_option linter.unusedVariables false
set_option linter.unusedSimpArgs false
section
variable {P : Program} {call : CallF} {nt : Nat} {φ₀ : Phi} {m₀ : Mem} {w₀ : World} {ops : Array Oper}
variable {e e1 : Env} {m m1 : Mem} {F : Objs} {K : Env → Mem → Objs → Prop} {o : Oper} {av : AV}
def XStep (P : Program) (φ₀ : Phi) (m₀ : Mem) (w₀ : World) (nt : Nat) (ops : Array Oper) (o : Oper) (e : Env) (m : Mem) (F : Objs) (K : Env → Mem → Objs → Prop) : Prop :=
  ∀ (K' : Act → World → Prop) (Q : Exit → Act → World → Prop), (∀ e m F a w, K e m F → StF φ₀ m₀ w₀ nt e m F a w → K' a w) → ∀ a w, StF φ₀ m₀ w₀ nt e m F a w →
    if Region.wanted o (yielded ops a.tmps) then o.wp P a w K' Q ∨ (o.asks P a w ∧ LetsOut Q) else K' (a.put o.dst undef) w
theorem xops_step {rest : List Oper} (h : XStep P φ₀ m₀ w₀ nt ops o e m F (fun e m F => XOps P φ₀ m₀ w₀ nt ops rest e m F K)) : XOps P φ₀ m₀ w₀ nt ops (o :: rest) e m F K := fun R hR a w hs => by
  unfold wpList
  exact h (wpList P ops R rest) R (fun e m F a w hK hs => hK R hR a w hs) a w hs
/-! ### any order -/
def XAny (P : Program) (φ₀ : Phi) (m₀ : Mem) (w₀ : World) (nt : Nat) (ops : Array Oper) (n : Nat) (listed : Array Bool) (e : Env) (m : Mem) (F : Objs) (K : Env → Mem → Objs → Prop) : Prop :=
  ∀ (R : Exit → Act → World → Prop), (∀ e m F a w, K e m F → StF φ₀ m₀ w₀ nt e m F a w → R .normal a w) → ∀ a w, StF φ₀ m₀ w₀ nt e m F a w → wpAny P .any ops R n listed a w
theorem xany_done {n : Nat} {listed : Array Bool} (hr : Region.ready .any ops listed = []) (h : K e m F) : XAny P φ₀ m₀ w₀ nt ops n listed e m F K := fun R hR a w hs => wpAny_done hr (hR e m F a w h hs) n
theorem xany_step {n : Nat} {listed : Array Bool} {rs : List Nat} (hr : Region.ready .any ops listed = rs) (hne : rs ≠ [])
    (h : ∀ i ∈ rs, ∃ o, ops[i]? = some o ∧ XStep P φ₀ m₀ w₀ nt ops o e m F (fun e m F => XAny P φ₀ m₀ w₀ nt ops n (listed.setIfInBounds i true) e m F K)) : XAny P φ₀ m₀ w₀ nt ops (n + 1) listed e m F K := fun R hR a w hs => by
  refine wpAny_all hr hne fun i hi => ?_
  obtain ⟨o, ho, hx⟩ := h i hi
  unfold wpOp
  rw [ho]
  exact hx (wpAny P .any ops R n (listed.setIfInBounds i true)) R (fun e m F a w hK hs => hK R hR a w hs) a w hs
theorem xany_one {n : Nat} {listed listed1 : Array Bool} {i : Nat} (hr : Region.ready .any ops listed = [i]) (ho : ops.toList[i]? = some o) (hl : listed.setIfInBounds i true = listed1)
    (h : XStep P φ₀ m₀ w₀ nt ops o e m F (fun e m F => XAny P φ₀ m₀ w₀ nt ops n listed1 e m F K)) : XAny P φ₀ m₀ w₀ nt ops (n + 1) listed e m F K :=
  xany_step hr (by simp) fun j hj => by
    rcases List.mem_singleton.1 hj with rfl
    exact ⟨o, by simpa using ho, by rw [hl]; exact h⟩
theorem xany_two {n : Nat} {listed listed1 listed2 : Array Bool} {i j : Nat} {o2 : Oper} (hr : Region.ready .any ops listed = [i, j]) (ho : ops.toList[i]? = some o) (hl : listed.setIfInBounds i true = listed1) (ho2 : ops.toList[j]? = some o2) (hl2 : listed.setIfInBounds j true = listed2)
    (h : XStep P φ₀ m₀ w₀ nt ops o e m F (fun e m F => XAny P φ₀ m₀ w₀ nt ops n listed1 e m F K))
    (h2 : XStep P φ₀ m₀ w₀ nt ops o2 e m F (fun e m F => XAny P φ₀ m₀ w₀ nt ops n listed2 e m F K)) : XAny P φ₀ m₀ w₀ nt ops (n + 1) listed e m F K :=
  xany_step hr (by simp) fun q hq => by
    rcases List.mem_cons.1 hq with rfl | hq
    · exact ⟨o, by simpa using ho, by rw [hl]; exact h⟩
    · rcases List.mem_singleton.1 hq with rfl
      exact ⟨o2, by simpa using ho2, by rw [hl2]; exact h2⟩
theorem x_any (hm : P.follows .mixedOrders = true) {id n : Nat} {l : List Oper} {l2 : Option (List Nat)} {Q : PostF} (hn : l.length = n)
    (h : XAny P φ₀ m₀ w₀ nt l.toArray n (List.replicate n false).toArray e m F fun e' m' F' => ∀ e2, Ev.restr l2 e' = e2 → Q .normal e2 m' F') : XRuns P φ₀ m₀ w₀ nt (.region id l.toArray true) e m F Q := fun a w hs => by
  refine wp_region_any hm ?_
  subst hn
  obtain ⟨φ, hRM, hX, hE, hn, hdf, hF⟩ := hs
  have hx := drew_ext φ m w
  have := h (EndsF φ₀ m₀ w₀ nt Q) (fun e m F a w hK hs => ⟨.normal, _, m, F, rfl, hs.restr l2, hK _ rfl⟩) a _ ⟨φ, drew_rm hRM, hX.trans hx, hE.mono hx, hn, hdf, objs_ext hF hx⟩
  simpa using this
variable {J : Array Bool → Env → Mem → Objs → Prop} {n : Nat} {listed : Array Bool} {o1 o2 o3 o4 : Oper} {i j q s : Nat}
/-! ### steps -/
theorem xs_op (hC : CallOk P call) (hg : wantedAV ops e o = some true) (hk : evOp P call e m o = some (av, m1)) (hp : putAV nt o.dst av e = some e1) (h : K e1 m1 F) : XStep P φ₀ m₀ w₀ nt ops o e m F K := fun K' Q hK a w hs => by
  obtain ⟨φ, hRM, hX, hE, hn, hdf, hF⟩ := hs
  rw [wanted_sound hE hg, if_pos rfl]
  left
  refine op_wp hC hRM hE hk fun x w' φ' g1 g2 g3 => ?_
  exact hK e1 m1 F _ _ h ⟨φ', g1, hX.trans g2, (hE.mono g2).put hp hn g3 a.defers, by rw [put_size]; exact hn, by rw [put_defers]; exact hdf, objs_ext hF g2⟩
theorem xs_off (hg : wantedAV ops e o = some false) (hp : putAV nt o.dst (.v (.tuple #[])) e = some e1) (h : K e1 m F) : XStep P φ₀ m₀ w₀ nt ops o e m F K := fun K' Q hK a w hs => by
  obtain ⟨φ, hRM, hX, hE, hn, hdf, hF⟩ := hs
  rw [wanted_sound hE hg, if_neg (by simp)]
  exact hK e1 m F _ _ h ⟨φ, hRM, hX, hE.put hp hn (.v _) a.defers, by rw [put_size]; exact hn, by rw [put_defers]; exact hdf, hF⟩
theorem xs_val (hg : wantedAV ops e o = some true) (hp : putAV nt o.dst av e = some e1) (hrun : ∀ (φ : Phi) (a : Act) (w : World), RM φ m w → EnvRep φ m w e a.tmps → ObjsIn φ m w₀ w F → ∃ x, (execOp a.eval o).run P w = .ok (.value x) w ∧ Rep φ m w av x) (h : K e1 m F) :
    XStep P φ₀ m₀ w₀ nt ops o e m F K := fun K' Q hK a w hs => by
  obtain ⟨φ, hRM, hX, hE, hn, hdf, hF⟩ := hs
  rw [wanted_sound hE hg, if_pos rfl]
  left
  obtain ⟨x, hr, hx⟩ := hrun φ a w hRM hE hF
  unfold Oper.wp
  rw [hr, Oper.upon_value]
  exact hK e1 m F _ _ h ⟨φ, hRM, hX, hE.put hp hn hx a.defers, by rw [put_size]; exact hn, by rw [put_defers]; exact hdf, hF⟩
theorem xs_new {f : Nat → Value} {ob : Obj} {d : Nat} (hg : wantedAV ops e o = some true) (hd : o.dst = some d) (hlt : d < nt) (ho : plainObj ob = true) (hrun : ∀ (φ : Phi) (a : Act) (w : World), RM φ m w → EnvRep φ m w e a.tmps → ObjsIn φ m w₀ w F → (execOp a.eval o).run P w = .ok (.value (f w.heap.size)) (w.alloc ob))
    (h : ∀ b, (∀ p ∈ F, p.1 ≠ b) → K ((d, .v (f b)) :: e) m ((b, ob) :: F)) : XStep P φ₀ m₀ w₀ nt ops o e m F K := fun K' Q hK a w hs => by
  have hs' := hs.new ho hlt (x := f w.heap.size)
  obtain ⟨φ, hRM, hX, hE, hn, hdf, hF⟩ := hs
  rw [wanted_sound hE hg, if_pos rfl]
  left
  unfold Oper.wp
  rw [hrun φ a w hRM hE hF, Oper.upon_value, hd]
  exact hK _ m _ _ _ (h w.heap.size fun p hp he => by
    obtain ⟨h1, _⟩ := hF p hp
    rw [he] at h1
    have := (Array.getElem?_eq_some_iff.1 h1).1
    omega) hs'
theorem xs_set {b : Nat} {ob ob' : Obj} {x : Value} {d : Nat} (hg : wantedAV ops e o = some true) (hd : o.dst = some d) (hlt : d < nt) (hb : (b, ob) ∈ F) (ho : plainObj ob' = true)
    (hrun : ∀ (φ : Phi) (a : Act) (w : World), RM φ m w → EnvRep φ m w e a.tmps → ObjsIn φ m w₀ w F → (execOp a.eval o).run P w = .ok (.value x) (putObj w b ob') ∧ Rep φ m w av x)
    (h : K ((d, av) :: e) m (setObjs F b ob')) : XStep P φ₀ m₀ w₀ nt ops o e m F K := fun K' Q hK a w hs => by
  obtain ⟨φ, hRM, hX, hE, hn, hdf, hF⟩ := hs
  rw [wanted_sound hE hg, if_pos rfl]
  left
  obtain ⟨hr, hx⟩ := hrun φ a w hRM hE hF
  unfold Oper.wp
  rw [hr, Oper.upon_value, hd]
  obtain ⟨h1, h2, h3, h4⟩ := hF _ hb
  have hlt2 : b < w.heap.size := (Array.getElem?_eq_some_iff.1 h1).1
  obtain ⟨hR', hX', hrep⟩ := put_obj hRM hX h1 h4 ho h3 h2
  have hE' : EnvRep φ m (putObj w b ob') e a.tmps := fun t => hrep (hE t)
  refine hK _ m _ _ _ h ⟨φ, hR', hX', hE'.put (putAV_some hlt _ _) hn (hrep hx) a.defers, by rw [put_size]; exact hn, by rw [put_defers]; exact hdf, fun p hp => ?_⟩
  obtain ⟨q, hq, rfl⟩ := List.mem_map.1 hp
  obtain ⟨g1, g2, g3, g4⟩ := hF q hq
  by_cases e1 : q.1 = b
  · rw [if_pos e1]
    exact ⟨putObj_self w ob' hlt2, h2, h3, ho⟩
  · rw [if_neg e1]
    exact ⟨by rw [putObj_other w ob' e1]; exact g1, g2, g3, g4⟩
theorem xs_set0 {b : Nat} {ob ob' : Obj} (hg : wantedAV ops e o = some true) (hd : o.dst = none) (hb : (b, ob) ∈ F) (ho : plainObj ob' = true)
    (hrun : ∀ (φ : Phi) (a : Act) (w : World), RM φ m w → EnvRep φ m w e a.tmps → ObjsIn φ m w₀ w F → (execOp a.eval o).run P w = .ok .skip (putObj w b ob'))
    (h : K e m (setObjs F b ob')) : XStep P φ₀ m₀ w₀ nt ops o e m F K := fun K' Q hK a w hs => by
  obtain ⟨φ, hRM, hX, hE, hn, hdf, hF⟩ := hs
  rw [wanted_sound hE hg, if_pos rfl]
  left
  unfold Oper.wp
  rw [hrun φ a w hRM hE hF, Oper.upon_skip, hd]
  obtain ⟨h1, h2, h3, h4⟩ := hF _ hb
  have hlt2 : b < w.heap.size := (Array.getElem?_eq_some_iff.1 h1).1
  obtain ⟨hR', hX', hrep⟩ := put_obj hRM hX h1 h4 ho h3 h2
  refine hK _ m _ _ _ h ⟨φ, hR', hX', fun t => hrep (hE t), hn, hdf, fun p hp => ?_⟩
  obtain ⟨q, hq, rfl⟩ := List.mem_map.1 hp
  obtain ⟨g1, g2, g3, g4⟩ := hF q hq
  by_cases e1 : q.1 = b
  · rw [if_pos e1]
    exact ⟨putObj_self w ob' hlt2, h2, h3, ho⟩
  · rw [if_neg e1]
    exact ⟨by rw [putObj_other w ob' e1]; exact g1, g2, g3, g4⟩
/-! ### values of operands -/
/-- The one value that stands for an abstract one. -/
def concCell : AV → Option Value
  | .v x => some x
  | _ => none
def conc : AV → Option Value
  | .v x => some x
  | .agg cs => (cs.mapM concCell).map fun l => .agg l.toArray
  | _ => none
theorem conc_cells {φ : Phi} {w : World} : ∀ {cs : List AV} {l l2 : List Value}, cs.mapM concCell = some l → l2.length = cs.length → (∀ (i : Nat) a u, cs[i]? = some a → l2[i]? = some u → Rep φ m w a u) → l = l2
  | [], l, l2, h, hn, _ => by
    simp at h
    subst h
    exact (List.length_eq_zero_iff.1 hn).symm
  | c :: cs, l, l2, h, hn, hr => by
    cases c with
    | v x =>
      simp only [List.mapM_cons, concCell, Option.pure_def, Option.bind_eq_bind, Option.bind_some] at h
      rw [Option.bind_eq_some_iff] at h
      obtain ⟨r, h1, h2⟩ := h
      cases h2
      cases l2 with
      | nil => simp at hn
      | cons u us =>
        have h0 := hr 0 _ u rfl rfl
        cases h0
        rw [conc_cells h1 (by simpa using hn) fun i a u h3 h4 => hr (i + 1) a u (by simpa using h3) (by simpa using h4)]
    | _ => simp [concCell] at h
theorem conc_rep {φ : Phi} {w : World} {a : AV} {x y : Value} (h : conc a = some y) (hr : Rep φ m w a x) : x = y := by
  cases a with
  | v z => cases h; cases hr; rfl
  | agg cs =>
    cases hr with
    | agg _ arr hn hc =>
      simp only [conc, Option.map_eq_some_iff] at h
      obtain ⟨l, h1, rfl⟩ := h
      have := conc_cells (φ := φ) (m := m) (w := w) (l2 := arr.toList) h1 (by simpa using hn) fun i a u h2 h3 => hc i a u h2 (by simpa using h3)
      rw [this]
  | _ => cases h
theorem opd_conc {φ : Phi} {w : World} {a : Act} (hE : EnvRep φ m w e a.tmps) {t : TypeId} {x : Operand} {y : Value} (h : conc (opd P e t x) = some y) : a.eval x = y := conc_rep h (rep_opd hE t x)
/-! ### maps -/
structure KeyOk (P : Program) (kt : TypeId) (κ : Type) [DecidableEq κ] (enc : κ → Value) : Prop where
  ck : ∀ em k w, (Instr.checkKey em 10000 kt (enc k)).run P w = .ok () w
  eq : ∀ a b w, (Op.equal kt (enc a) (enc b)).run P w = .ok (decide (a = b)) w
  wide : (match P.underlying kt with | some (.array _ _) | some (.struct _) => true | _ => false) = true
  stay : ∀ k, Instr.sameBits 10000 (enc k) (enc k) = true
variable {κ : Type} {enc : κ → Value} {kt et mt : TypeId} {w : World}
def ents (enc : κ → Value) : Nat → List (κ × Value) → List MapEntry
  | _, [] => []
  | i, (k, v) :: r => { key := enc k, val := v, born := i } :: ents enc (i + 1) r
def mapOb (enc : κ → Value) (l : List (κ × Value)) : Obj := .map (ents enc 0 l).toArray l.length
theorem ents_len : ∀ (l : List (κ × Value)) (i : Nat), (ents enc i l).length = l.length
  | [], _ => rfl
  | (k, v) :: r, i => by simp [ents, ents_len r]
theorem ents_get : ∀ (l : List (κ × Value)) (j i : Nat), (ents enc j l)[i]? = (l[i]?).map fun p => { key := enc p.1, val := p.2, born := j + i }
  | [], j, i => by simp [ents]
  | (k, v) :: r, j, 0 => rfl
  | (k, v) :: r, j, i + 1 => by
    simp only [ents, List.getElem?_cons_succ, ents_get r (j + 1) i]
    congr 1
    funext p
    rw [show j + 1 + i = j + (i + 1) by omega]
theorem ents_app : ∀ (l r : List (κ × Value)) (i : Nat), ents enc i (l ++ r) = ents enc i l ++ ents enc (i + l.length) r
  | [], r, i => by simp [ents]
  | (k, v) :: l, r, i => by
    simp only [List.cons_append, ents, ents_app l r (i + 1), List.length_cons]
    rw [show i + 1 + l.length = i + (l.length + 1) by omega]
def setV (l : List (κ × Value)) (i : Nat) (v : Value) : List (κ × Value) := l.modify i fun p => (p.1, v)
theorem store_run {b i : Nat} {l : List (κ × Value)} (hi : i < l.length) (hb : w.heap[b]? = some (mapOb enc l)) (v : Value) :
    (Instr.entryStore mt (.map (some b)) (.int .i64 i) v).run P w = .ok () (putObj w b (mapOb enc (setV l i v))) := by
  unfold Instr.entryStore
  have hf : (ents enc 0 l).findIdx? (fun e => (e.born : Int) == (i : Int)) = some i := by
    rw [List.findIdx?_eq_some_iff_getElem]
    refine ⟨by rw [ents_len]; exact hi, ?_, ?_⟩
    · have := ents_get (enc := enc) l 0 i
      rw [List.getElem?_eq_getElem (by rw [ents_len]; exact hi), List.getElem?_eq_getElem hi] at this
      simp at this
      simp [this]
    · intro j hj
      have hjl : j < l.length := by omega
      have := ents_get (enc := enc) l 0 j
      rw [List.getElem?_eq_getElem (by rw [ents_len]; exact hjl), List.getElem?_eq_getElem hjl] at this
      simp at this
      simp [this]
      omega
  have hmod : (ents enc 0 l).modify i (fun e => { e with val := v }) = ents enc 0 (setV l i v) := by
    apply List.ext_getElem?
    intro j
    rw [List.getElem?_modify, ents_get, ents_get]
    unfold setV
    rw [List.getElem?_modify]
    cases l[j]? with
    | none => rfl
    | some p =>
      by_cases h : i = j
      · simp [h]
      · simp [h]
  simp [Sem.run_bind, Result.andThen, getObj, Sem.run, hb, mapOb, asInt, asIntOf, hf, setObj, hmod, putObj]
  simp [setV]
theorem xs_makeMap {d : Nat} {t : TypeId} (hg : wantedAV ops e o = some true) (hd : o.dst = some d) (hlt : d < nt) (ho : o.op = .makeMap t none)
    (h : ∀ b, (∀ p ∈ F, p.1 ≠ b) → K ((d, .v (.map (some b))) :: e) m ((b, mapOb enc []) :: F)) : XStep P φ₀ m₀ w₀ nt ops o e m F K :=
  xs_new (f := fun b => .map (some b)) hg hd hlt rfl (fun φ a w _ _ _ => by
    unfold execOp
    rw [ho]
    rfl) h
theorem xs_entryStore {b i : Nat} {l : List (κ × Value)} (hb : (b, mapOb enc l) ∈ F) (hi : i < l.length) {v : Value} {x s y : Operand}
    (hg : wantedAV ops e o = some true) (ho : o.op = .entryStore mt x s y) (hx : opd P e mt x = .v (.map (some b))) {t t2 : TypeId} (hs : opd P e t2 s = .v (.int .i64 (i : Int))) (hy : opd P e t y = .v v) (hd : o.dst = none)
    (h : K e m (setObjs F b (mapOb enc (setV l i v)))) : XStep P φ₀ m₀ w₀ nt ops o e m F K :=
  xs_set0 hg hd hb rfl (fun φ a w _ hE hF => by
    unfold execOp
    rw [ho]
    have h1 : a.eval x = .map (some b) := opd_conc (P := P) hE (t := mt) (by rw [hx]; rfl)
    have h2 : a.eval s = .int .i64 (i : Int) := opd_conc (P := P) hE (t := t2) (by rw [hs]; rfl)
    have h3 : a.eval y = v := opd_conc (P := P) hE (t := t) (by rw [hy]; rfl)
    simp only [h1, h2, h3]
    rw [Sem.run_bind, store_run hi (hF _ hb).1 v]
    rfl) h
variable [DecidableEq κ]
def posOf (k : κ) : List (κ × Value) → Nat → Option (Nat × Value)
  | [], _ => none
  | (q, v) :: r, i => if k = q then some (i, v) else posOf k r (i + 1)
theorem posOf_get {k : κ} : ∀ {l : List (κ × Value)} {j i : Nat} {v : Value}, posOf k l j = some (i, v) → j ≤ i ∧ l[i - j]? = some (k, v)
  | [], _, _, _, h => by cases h
  | (q, u) :: r, j, i, v, h => by
    unfold posOf at h
    split at h
    · rename_i e
      cases h
      subst e
      exact ⟨Nat.le_refl _, by simp⟩
    · obtain ⟨h1, h2⟩ := posOf_get h
      refine ⟨by omega, ?_⟩
      rw [show i - j = (i - (j + 1)) + 1 by omega, List.getElem?_cons_succ]
      exact h2
theorem find_run (hk : KeyOk P kt κ enc) (k : κ) : ∀ (l : List (κ × Value)) (j i : Nat), (Instr.findAsking kt (enc k) (ents enc j l) i).run P w = .ok (posOf k l i) w
  | [], j, i => rfl
  | (q, v) :: r, j, i => by
    unfold ents Instr.findAsking posOf
    rw [Sem.run_bind, hk.eq k q w]
    by_cases h : k = q
    · simp only [h, decide_true, Result.andThen, if_true]
      rfl
    · simp only [h, decide_false, Result.andThen, Bool.false_eq_true, if_false]
      exact find_run hk k r (j + 1) (i + 1)
theorem findKey_run (hk : KeyOk P kt κ enc) (k : κ) (l : List (κ × Value)) : (Instr.findKey kt (enc k) (ents enc 0 l)).run P w = .ok (posOf k l 0) w := by
  rw [run_findKey_eq w hk.wide]
  exact find_run hk k l 0 0
def valAt (z : Value) (k : κ) (l : List (κ × Value)) : Value := ((posOf k l 0).map (·.2)).getD z
theorem lookup_run (hk : KeyOk P kt κ enc) (hm : P.underlying mt = some (.map kt et)) {z : Value} (hz : ∀ w, (zeroValue et).run P w = .ok z w) {b : Nat} {l : List (κ × Value)} (hb : w.heap[b]? = some (mapOb enc l)) (k : κ) :
    (Instr.lookup mt (.map (some b)) (enc k) false).run P w = .ok (valAt z k l) w := by
  unfold Instr.lookup valAt
  simp only [Sem.run_bind, run_underlying hm, Result.andThen, getObj, Sem.run, hb, mapOb]
  have h1 := findKey_run (w := w) hk k l
  cases hp : posOf k l 0 with
  | none =>
    rw [hp] at h1
    simp_all [Sem.run_bind, Result.andThen, Sem.run, hk.ck]
  | some p =>
    rw [hp] at h1
    simp_all [Sem.run_bind, Result.andThen, Sem.run, hk.ck]
theorem stays_run (hk : KeyOk P kt κ enc) (k : κ) : (Instr.keyThatStays (enc k) (enc k)).run P w = .ok (enc k) w := by
  unfold Instr.keyThatStays
  rw [hk.stay k]
  rfl
/-- The list behind an entry's making; its stamp; what it has. -/
def mapWith (z : Value) (k : κ) (l : List (κ × Value)) : List (κ × Value) := if (posOf k l 0).isSome then l else l ++ [(k, z)]
def stampOf (k : κ) (l : List (κ × Value)) : Nat := ((posOf k l 0).map (·.1)).getD l.length
theorem entry_run (hk : KeyOk P kt κ enc) (hm : P.underlying mt = some (.map kt et)) {z : Value} (hz : ∀ w, (zeroValue et).run P w = .ok z w) {b : Nat} {l : List (κ × Value)} (hb : w.heap[b]? = some (mapOb enc l)) (k : κ) :
    (Instr.mapEntry mt (.map (some b)) (enc k)).run P w = .ok (.tuple #[valAt z k l, .int .i64 (stampOf k l)]) (putObj w b (mapOb enc (mapWith z k l))) := by
  unfold Instr.mapEntry valAt stampOf mapWith
  simp only [Sem.run_bind, run_underlying hm, Result.andThen, getObj, Sem.run, hb, mapOb, hk.ck]
  have h1 := findKey_run (w := w) hk k l
  cases hp : posOf k l 0 with
  | none =>
    rw [hp] at h1
    rw [h1]
    simp [Sem.run_bind, Result.andThen, Sem.run, hz, setObj, putObj, goInt, hp, ents_app, ents]
    rw [hb]
    rfl
  | some p =>
    obtain ⟨i, v⟩ := p
    rw [hp] at h1
    obtain ⟨_, h2⟩ := posOf_get hp
    rw [Nat.sub_zero] at h2
    have h3 : (ents enc 0 l)[i]? = some { key := enc k, val := v, born := i } := by rw [ents_get, h2]; simp
    rw [h1]
    have hmod : (ents enc 0 l).toArray.modify i (fun e => { e with key := enc k }) = (ents enc 0 l).toArray := by
      apply Array.ext (by simp)
      intro j hj1 hj2
      rw [Array.getElem_modify]
      split
      · rename_i e
        subst e
        have : (ents enc 0 l)[i]'(by simpa using hj2) = { key := enc k, val := v, born := i } := by
          have := List.getElem?_eq_getElem (l := ents enc 0 l) (i := i) (by simpa using hj2)
          rw [h3] at this
          exact (Option.some.inj this).symm
        simp [this]
      · rfl
    have hst := stays_run (w := w) hk k
    simp only [List.getElem?_toArray, h3, Option.map_some, Option.getD_some, Sem.run_bind, hst, Result.andThen, Sem.run, setObj, hmod, hp, Option.isSome_some, if_true, goInt]
    rw [hb]
    rfl
theorem xs_lookup (hk : KeyOk P kt κ enc) (hm : P.underlying mt = some (.map kt et)) {z : Value} (hz : ∀ w, (zeroValue et).run P w = .ok z w) {b : Nat} {l : List (κ × Value)} (hb : (b, mapOb enc l) ∈ F) (k : κ) {x y : Operand}
    (hg : wantedAV ops e o = some true) (ho : o.op = .lookup mt x y false) (hx : opd P e mt x = .v (.map (some b))) {t : TypeId} (hy : conc (opd P e t y) = some (enc k)) (hp : putAV nt o.dst (.v (valAt z k l)) e = some e1) (h : K e1 m F) : XStep P φ₀ m₀ w₀ nt ops o e m F K :=
  xs_val hg hp (fun φ a w _ hE hF => by
    refine ⟨valAt z k l, ?_, .v _⟩
    unfold execOp
    rw [ho]
    have h1 : a.eval x = .map (some b) := opd_conc (P := P) hE (t := mt) (by rw [hx]; rfl)
    have h2 : a.eval y = enc k := opd_conc (P := P) hE hy
    simp only [h1, h2]
    rw [Sem.run_bind, lookup_run hk hm hz (hF _ hb).1 k]
    rfl) h
theorem xs_entry (hk : KeyOk P kt κ enc) (hm : P.underlying mt = some (.map kt et)) {z : Value} (hz : ∀ w, (zeroValue et).run P w = .ok z w) {b : Nat} {l : List (κ × Value)} (hb : (b, mapOb enc l) ∈ F) (k : κ) {x y : Operand} {d : Nat}
    (hg : wantedAV ops e o = some true) (ho : o.op = .mapEntry mt x y) (hx : opd P e mt x = .v (.map (some b))) {t : TypeId} (hy : conc (opd P e t y) = some (enc k)) (hd : o.dst = some d) (hlt : d < nt)
    (h : K ((d, .tup [.v (valAt z k l), .v (.int .i64 (stampOf k l))]) :: e) m (setObjs F b (mapOb enc (mapWith z k l)))) : XStep P φ₀ m₀ w₀ nt ops o e m F K :=
  xs_set hg hd hlt hb rfl (fun φ a w _ hE hF => by
    refine ⟨?_, ?_⟩
    · unfold execOp
      rw [ho]
      have h1 : a.eval x = .map (some b) := opd_conc (P := P) hE (t := mt) (by rw [hx]; rfl)
      have h2 : a.eval y = enc k := opd_conc (P := P) hE hy
      simp only [h1, h2]
      rw [Sem.run_bind, entry_run hk hm hz (hF _ hb).1 k]
      rfl
    · refine .tup _ _ rfl fun i a u e1 e2 => ?_
      match i, e1, e2 with
      | 0, e1, e2 => cases e1; cases e2; exact .v _
      | 1, e1, e2 => cases e1; cases e2; exact .v _
      | i + 2, e1, e2 => simp at e1) h
/-! ### what a map has -/
def vAt (k : κ) : List (κ × Value) → Option Value
  | [] => none
  | (q, v) :: r => if k = q then some v else vAt k r
def putK (k : κ) (v : Value) : List (κ × Value) → List (κ × Value)
  | [] => [(k, v)]
  | (q, u) :: r => if k = q then (q, v) :: r else (q, u) :: putK k v r
theorem posOf_shift (k : κ) : ∀ (l : List (κ × Value)) (i : Nat), posOf k l (i + 1) = (posOf k l i).map fun p => (p.1 + 1, p.2)
  | [], _ => rfl
  | (q, v) :: r, i => by
    unfold posOf
    split
    · rfl
    · exact posOf_shift k r (i + 1)
theorem posOf_vAt (k : κ) : ∀ (l : List (κ × Value)) (i : Nat), (posOf k l i).map (·.2) = vAt k l
  | [], _ => rfl
  | (q, v) :: r, i => by
    unfold posOf vAt
    split
    · rfl
    · exact posOf_vAt k r (i + 1)
theorem valAt_eq (z : Value) (k : κ) (l : List (κ × Value)) : valAt z k l = (vAt k l).getD z := by
  unfold valAt
  rw [posOf_vAt]
theorem putK_eq (z v : Value) (k : κ) : ∀ (l : List (κ × Value)), setV (mapWith z k l) (stampOf k l) v = putK k v l
  | [] => by simp [mapWith, stampOf, posOf, setV, putK]
  | (q, u) :: r => by
    have ih := putK_eq z v k r
    unfold mapWith stampOf setV at ih ⊢
    unfold putK posOf
    by_cases h : k = q
    · simp [h]
    · simp only [if_neg h]
      rw [posOf_shift]
      cases hp : posOf k r 0 with
      | none =>
        simp only [hp, Option.map_none, Option.isSome_none, Bool.false_eq_true, if_false, Option.getD_none, List.length_cons, List.cons_append] at ih ⊢
        rw [List.modify_succ_cons, ih]
      | some p =>
        simp only [hp, Option.map_some, Option.isSome_some, if_true, Option.getD_some] at ih ⊢
        rw [List.modify_succ_cons, ih]
theorem stamp_lt (z : Value) (k : κ) (l : List (κ × Value)) : stampOf k l < (mapWith z k l).length := by
  unfold stampOf mapWith
  cases hp : posOf k l 0 with
  | none => simp
  | some p =>
    obtain ⟨i, v⟩ := p
    obtain ⟨_, h⟩ := posOf_get hp
    have := (List.getElem?_eq_some_iff.1 h).1
    simpa using this
theorem vAt_put (k q : κ) (v : Value) : ∀ (l : List (κ × Value)), vAt q (putK k v l) = if q = k then some v else vAt q l
  | [] => by simp [putK, vAt]
  | (p, u) :: r => by
    unfold putK
    by_cases h : k = p
    · subst h
      rw [if_pos rfl]
      unfold vAt
      split <;> rfl
    · rw [if_neg h]
      unfold vAt
      by_cases h2 : q = p
      · subst h2
        rw [if_pos rfl, if_neg (fun e => h e.symm), if_pos rfl]
      · rw [if_neg h2, if_neg h2]
        exact vAt_put k q v r
theorem vAt_with (z : Value) (k : κ) (l : List (κ × Value)) : (vAt k (mapWith z k l)).getD z = (vAt k l).getD z := by
  unfold mapWith
  cases hp : posOf k l 0 with
  | some p => simp
  | none =>
    have h0 : vAt k l = none := by rw [← posOf_vAt k l 0, hp]; rfl
    have key : ∀ l : List (κ × Value), vAt k l = none → vAt k (l ++ [(k, z)]) = some z := by
      intro l
      induction l with
      | nil => intro _; simp [vAt]
      | cons p r ih =>
        obtain ⟨q, u⟩ := p
        intro h
        unfold vAt at h
        split at h
        · cases h
        · rename_i hq
          rw [List.cons_append, vAt, if_neg hq]
          exact ih h
    simp [h0, key l h0]
end
/-! ### guarded operations, beside such objects -/
section
variable {P : Program} {call : CallF} {nt : Nat} {φ₀ : Phi} {m₀ : Mem} {w₀ : World} {ops : Array Oper} {rest : List Oper}
variable {e : Env} {m m1 : Mem} {F : Objs} {K : Env → Mem → Objs → Prop} {o : Oper} {av : AV}
theorem xo_op0 (hC : CallOk P call) (hg : o.guard = none) (hd : o.dst = none) (hk : evOp P call e m o = some (av, m1)) (h : XOps P φ₀ m₀ w₀ nt ops rest e m1 F K) : XOps P φ₀ m₀ w₀ nt ops (o :: rest) e m F K :=
  xops_step (xs_op hC (by unfold wantedAV; rw [hg]) hk (by unfold putAV; rw [hd]) h)
theorem xo_yes (hC : CallOk P call) {d j g : Nat} {want : Bool} (hg : o.guard = some (j, want)) (hj : (ops[j]?).bind (·.dst) = some g) (hb : get e g = .v (.bool want)) (hd : o.dst = some d) (hlt : d < nt)
    (hk : evOp P call e m o = some (av, m1)) (h : XOps P φ₀ m₀ w₀ nt ops rest ((d, av) :: e) m1 F K) : XOps P φ₀ m₀ w₀ nt ops (o :: rest) e m F K :=
  xops_step (xs_op hC (by unfold wantedAV; rw [hg]; simp [hj, hb]) hk (by rw [hd]; exact putAV_some hlt _ _) h)
theorem xo_no {d j g : Nat} {want b : Bool} (hg : o.guard = some (j, want)) (hj : (ops[j]?).bind (·.dst) = some g) (hb : get e g = .v (.bool b)) (hne : b ≠ want) (hd : o.dst = some d) (hlt : d < nt)
    (h : XOps P φ₀ m₀ w₀ nt ops rest ((d, .v (.tuple #[])) :: e) m F K) : XOps P φ₀ m₀ w₀ nt ops (o :: rest) e m F K :=
  xops_step (xs_off (by unfold wantedAV; rw [hg]; simp [hj, hb, hne]) (by rw [hd]; exact putAV_some hlt _ _) h)
theorem xo_off {d j g : Nat} {want : Bool} {a : Array Value} (hg : o.guard = some (j, want)) (hj : (ops[j]?).bind (·.dst) = some g) (hb : get e g = .v (.tuple a)) (hd : o.dst = some d) (hlt : d < nt)
    (h : XOps P φ₀ m₀ w₀ nt ops rest ((d, .v (.tuple #[])) :: e) m F K) : XOps P φ₀ m₀ w₀ nt ops (o :: rest) e m F K :=
  xops_step (xs_off (by unfold wantedAV; rw [hg]; simp [hj, hb]) (by rw [hd]; exact putAV_some hlt _ _) h)
end
end Go.Proofs.YtojaokhkbmiidaaGreat.Ev

namespace Go.Proofs.YtojaokhkbmiidaaGreat.Ev
open Go Go.Proofs
set_option linter.unusedVariables false
set_option linter.unusedSimpArgs false
attribute [go_sem] evOp opd constAV constCell Ev.get evBinN nilCmp evBin evInt evUn evConvert evBuiltin evLen evField evPart tStr tInt tElem tArr tBool tAgg tField List.zipWith Option.map_some Option.map_none List.length_cons List.length_nil ne_eq not_false_eq_true and_self and_true true_and
attribute [go_sem] evCall List.size_toArray List.append_nil List.nil_append List.map_cons List.map_nil argAV argCell List.toList_toArray fieldTy restr
theorem jn {a b : Prop} (x : a) (y : b) : a ∧ b := ⟨x, y⟩
theorem go0 {A B : Prop} (k : B) (h : B → A := by intro k; (repeat (first | refine runs_seq ?_ | refine runs_block ?_ | refine next_normal ?_ | refine inside_normal ?_ | refine next_exit ?_ | refine inside_exit ?_ | refine inside_other (by decide) ?_ | refine next_ret ?_ | refine inside_ret ?_ | refine runs_ops_kept ?_ | refine runs_skip ?_ | refine runs_exit ?_ | refine runs_ret ?_ | ((first | refine' ops_op rfl rfl (by decide) ?_ ?_ ?_ | refine' ops_yes rfl rfl (by simp only [Ev.get, reduceIte, Nat.reduceEqDiff]; first | done | rfl) rfl (by decide) ?_ ?_ ?_ | refine' ops_op0 rfl rfl ?_ ?_ ?_); rotate_left 2; (focus (simp only [go_sem, reduceIte, Nat.reduceEqDiff, reduceCtorEq, Int.reduceEq]; first | done | rfl)); exact (fun h => by first | rfl | (simp at h; done) | exact absurd (Bool.and_eq_true_iff.mp h).2 (by decide))) | refine ops_no rfl rfl (by simp only [Ev.get, reduceIte, Nat.reduceEqDiff]; first | done | rfl) (by decide) rfl (by decide) ?_ | refine ops_off rfl rfl rfl rfl (by decide) ?_ | (refine ops_nil ?_; intro e2 h2; simp only [go_sem, reduceIte, Nat.reduceEqDiff] at h2; subst h2))); exact k) : A := h k
theorem go1 {A B F1 : Prop} (f1 : F1) (k : B) (h : F1 → B → A := by intro f1 k; (repeat (first | refine runs_seq ?_ | refine runs_block ?_ | refine next_normal ?_ | refine inside_normal ?_ | refine next_exit ?_ | refine inside_exit ?_ | refine inside_other (by decide) ?_ | refine next_ret ?_ | refine inside_ret ?_ | refine runs_ops_kept ?_ | refine runs_skip ?_ | refine runs_exit ?_ | refine runs_ret ?_ | ((first | refine' ops_op rfl rfl (by decide) ?_ ?_ ?_ | refine' ops_yes rfl rfl (by simp only [Ev.get, reduceIte, Nat.reduceEqDiff, f1]; first | done | rfl) rfl (by decide) ?_ ?_ ?_ | refine' ops_op0 rfl rfl ?_ ?_ ?_); rotate_left 2; (focus (simp only [go_sem, reduceIte, Nat.reduceEqDiff, reduceCtorEq, Int.reduceEq, f1]; first | done | rfl)); exact (fun h => by first | rfl | (simp at h; done) | exact absurd (Bool.and_eq_true_iff.mp h).2 (by decide))) | refine ops_no rfl rfl (by simp only [Ev.get, reduceIte, Nat.reduceEqDiff, f1]; first | done | rfl) (by decide) rfl (by decide) ?_ | refine ops_off rfl rfl rfl rfl (by decide) ?_ | (refine ops_nil ?_; intro e2 h2; simp only [go_sem, reduceIte, Nat.reduceEqDiff] at h2; subst h2))); exact k) : A := h f1 k
theorem gos0 {A B : Prop} (k : B) (h : B → A := by intro k; (first | refine runs_seq ?_ | refine runs_block ?_ | refine next_normal ?_ | refine inside_normal ?_ | refine next_exit ?_ | refine inside_exit ?_ | refine inside_other (by decide) ?_ | refine next_ret ?_ | refine inside_ret ?_ | refine runs_ops_kept ?_ | refine runs_skip ?_ | refine runs_exit ?_ | refine runs_ret ?_ | ((first | refine' ops_op rfl rfl (by decide) ?_ ?_ ?_ | refine' ops_yes rfl rfl (by simp only [Ev.get, reduceIte, Nat.reduceEqDiff]; first | done | rfl) rfl (by decide) ?_ ?_ ?_ | refine' ops_op0 rfl rfl ?_ ?_ ?_); rotate_left 2; (focus (simp only [go_sem, reduceIte, Nat.reduceEqDiff, reduceCtorEq, Int.reduceEq]; first | done | rfl)); exact (fun h => by first | rfl | (simp at h; done) | exact absurd (Bool.and_eq_true_iff.mp h).2 (by decide))) | refine ops_no rfl rfl (by simp only [Ev.get, reduceIte, Nat.reduceEqDiff]; first | done | rfl) (by decide) rfl (by decide) ?_ | refine ops_off rfl rfl rfl rfl (by decide) ?_ | (refine ops_nil ?_; intro e2 h2; simp only [go_sem, reduceIte, Nat.reduceEqDiff] at h2; subst h2)); (repeat (first | refine runs_seq ?_ | refine runs_block ?_ | refine next_normal ?_ | refine inside_normal ?_ | refine next_exit ?_ | refine inside_exit ?_ | refine inside_other (by decide) ?_ | refine next_ret ?_ | refine inside_ret ?_ | refine runs_ops_kept ?_ | refine runs_skip ?_ | refine runs_exit ?_ | refine runs_ret ?_ | ((first | refine' ops_op rfl rfl (by decide) ?_ ?_ ?_ | refine' ops_yes rfl rfl (by simp only [Ev.get, reduceIte, Nat.reduceEqDiff]; first | done | rfl) rfl (by decide) ?_ ?_ ?_ | refine' ops_op0 rfl rfl ?_ ?_ ?_); rotate_left 2; (focus (simp only [go_sem, reduceIte, Nat.reduceEqDiff, reduceCtorEq, Int.reduceEq]; first | done | rfl)); exact (fun h => by first | rfl | (simp at h; done) | exact absurd (Bool.and_eq_true_iff.mp h).2 (by decide))) | refine ops_no rfl rfl (by simp only [Ev.get, reduceIte, Nat.reduceEqDiff]; first | done | rfl) (by decide) rfl (by decide) ?_ | refine ops_off rfl rfl rfl rfl (by decide) ?_ | (refine ops_nil ?_; intro e2 h2; simp only [go_sem, reduceIte, Nat.reduceEqDiff] at h2; subst h2))); exact k) : A := h k
theorem gos1 {A B F1 : Prop} (f1 : F1) (k : B) (h : F1 → B → A := by intro f1 k; (first | refine runs_seq ?_ | refine runs_block ?_ | refine next_normal ?_ | refine inside_normal ?_ | refine next_exit ?_ | refine inside_exit ?_ | refine inside_other (by decide) ?_ | refine next_ret ?_ | refine inside_ret ?_ | refine runs_ops_kept ?_ | refine runs_skip ?_ | refine runs_exit ?_ | refine runs_ret ?_ | ((first | refine' ops_op rfl rfl (by decide) ?_ ?_ ?_ | refine' ops_yes rfl rfl (by simp only [Ev.get, reduceIte, Nat.reduceEqDiff, f1]; first | done | rfl) rfl (by decide) ?_ ?_ ?_ | refine' ops_op0 rfl rfl ?_ ?_ ?_); rotate_left 2; (focus (simp only [go_sem, reduceIte, Nat.reduceEqDiff, reduceCtorEq, Int.reduceEq, f1]; first | done | rfl)); exact (fun h => by first | rfl | (simp at h; done) | exact absurd (Bool.and_eq_true_iff.mp h).2 (by decide))) | refine ops_no rfl rfl (by simp only [Ev.get, reduceIte, Nat.reduceEqDiff, f1]; first | done | rfl) (by decide) rfl (by decide) ?_ | refine ops_off rfl rfl rfl rfl (by decide) ?_ | (refine ops_nil ?_; intro e2 h2; simp only [go_sem, reduceIte, Nat.reduceEqDiff] at h2; subst h2)); (repeat (first | refine runs_seq ?_ | refine runs_block ?_ | refine next_normal ?_ | refine inside_normal ?_ | refine next_exit ?_ | refine inside_exit ?_ | refine inside_other (by decide) ?_ | refine next_ret ?_ | refine inside_ret ?_ | refine runs_ops_kept ?_ | refine runs_skip ?_ | refine runs_exit ?_ | refine runs_ret ?_ | ((first | refine' ops_op rfl rfl (by decide) ?_ ?_ ?_ | refine' ops_yes rfl rfl (by simp only [Ev.get, reduceIte, Nat.reduceEqDiff, f1]; first | done | rfl) rfl (by decide) ?_ ?_ ?_ | refine' ops_op0 rfl rfl ?_ ?_ ?_); rotate_left 2; (focus (simp only [go_sem, reduceIte, Nat.reduceEqDiff, reduceCtorEq, Int.reduceEq, f1]; first | done | rfl)); exact (fun h => by first | rfl | (simp at h; done) | exact absurd (Bool.and_eq_true_iff.mp h).2 (by decide))) | refine ops_no rfl rfl (by simp only [Ev.get, reduceIte, Nat.reduceEqDiff, f1]; first | done | rfl) (by decide) rfl (by decide) ?_ | refine ops_off rfl rfl rfl rfl (by decide) ?_ | (refine ops_nil ?_; intro e2 h2; simp only [go_sem, reduceIte, Nat.reduceEqDiff] at h2; subst h2))); exact k) : A := h f1 k
theorem gox0 {A B : Prop} {P : Program} {call : CallF} (hC : CallOk P call) (k : B) (h : CallOk P call → B → A := by intro hC k; (repeat (first | ((first | refine' xo_op hC rfl rfl (by decide) ?_ ?_ | refine' xo_yes hC rfl rfl (by simp only [Ev.get, reduceIte, Nat.reduceEqDiff]; first | done | rfl) rfl (by decide) ?_ ?_ | refine' xo_op0 hC rfl rfl ?_ ?_); rotate_left 2; (focus (simp only [go_sem, reduceIte, Nat.reduceEqDiff, reduceCtorEq, Int.reduceEq]; first | done | rfl))) | refine xo_no rfl rfl (by simp only [Ev.get, reduceIte, Nat.reduceEqDiff]; first | done | rfl) (by decide) rfl (by decide) ?_ | refine xo_off rfl rfl rfl rfl (by decide) ?_ | (refine xo_nil ?_; intro e2 h2; simp only [go_sem, reduceIte, Nat.reduceEqDiff] at h2; subst h2))); exact k) : A := h hC k
theorem gox1 {A B F1 : Prop} {P : Program} {call : CallF} (hC : CallOk P call) (f1 : F1) (k : B) (h : CallOk P call → F1 → B → A := by intro hC f1 k; (repeat (first | ((first | refine' xo_op hC rfl rfl (by decide) ?_ ?_ | refine' xo_yes hC rfl rfl (by simp only [Ev.get, reduceIte, Nat.reduceEqDiff, f1]; first | done | rfl) rfl (by decide) ?_ ?_ | refine' xo_op0 hC rfl rfl ?_ ?_); rotate_left 2; (focus (simp only [go_sem, reduceIte, Nat.reduceEqDiff, reduceCtorEq, Int.reduceEq, f1]; first | done | rfl))) | refine xo_no rfl rfl (by simp only [Ev.get, reduceIte, Nat.reduceEqDiff, f1]; first | done | rfl) (by decide) rfl (by decide) ?_ | refine xo_off rfl rfl rfl rfl (by decide) ?_ | (refine xo_nil ?_; intro e2 h2; simp only [go_sem, reduceIte, Nat.reduceEqDiff] at h2; subst h2))); exact k) : A := h hC f1 k
end Go.Proofs.YtojaokhkbmiidaaGreat.Ev

namespace Go.Proofs.YtojaokhkbmiidaaGreat.Ev
open Go
set_option linter.unusedVariables false
set_option linter.unusedSimpArgs false
/-- What an operation may do: what the evaluator says, or an allocation at whatever place is free. -/
def SOp (P : Program) (call : CallF) (e : Env) (m : Mem) (o : Oper) (a : AV) (m' : Mem) : Prop :=
  evOp P call e m o = some (a, m') ∨ ∃ t z p, o.op = .alloc t ∧ zeroCells P t = some z ∧ z.all okCell = true ∧ newVar m p z = some m' ∧ a = .ptr p 0
theorem sop_wp {P : Program} {call : CallF} (hC : CallOk P call) {φ : Phi} {m m' : Mem} {w : World} (hR : RM φ m w) {e : Env} {a : Act} (hE : EnvRep φ m w e a.tmps) {o : Oper} {av : AV} (h : SOp P call e m o av m')
    {K : Act → World → Prop} {Q : Exit → Act → World → Prop} (hK : ∀ x w' φ', RM φ' m' w' → Ext φ m w φ' m' w' → Rep φ' m' w' av x → K (a.put o.dst x) w') : o.wp P a w K Q := by
  rcases h with h | ⟨t, z, p, ho, hz, hok, hm, rfl⟩
  · exact op_wp hC hR hE h hK
  · obtain ⟨w', φ', h1, h2, h3, h4⟩ := alloc_sound (P := P) hR hz hok hm
    have hr : (execOp a.eval o).run P w = .ok (.value (.pointer (some ⟨w.heap.size, 0, none⟩))) w' := by
      unfold execOp
      rw [ho]
      exact fin_value h1
    unfold Oper.wp
    rw [hr, Oper.upon_value]
    exact hK _ w' φ' h2 h3 h4
structure DrawnS (l : List Oper) : Prop where
  edge : ∀ (j : Nat) o, l[j]? = some o → ∀ e ∈ o.after.toList, Region.binds .any e = true → e.on < j
  dst : ∀ (i j : Nat) oi oj, i < j → l[i]? = some oi → l[j]? = some oj → ∀ d, oi.dst = some d → oj.dst ≠ some d
  apart : ∀ (i j : Nat) oi oj, i < j → l[i]? = some oi → l[j]? = some oj → ((masks l []).getD j 0).testBit i = true ∨ oi.apart l.toArray oj = true
def drawnS (l : List Oper) : Bool :=
  let ms := masks l []
  (List.range l.length).all fun j =>
    ((l.getD j default).after.all fun e => !Region.binds .any e || decide (e.on < j)) &&
    (List.range j).all fun i =>
      ((l.getD i default).dst.isNone || (l.getD i default).dst != (l.getD j default).dst) &&
      ((ms.getD j 0).testBit i || (l.getD i default).apart l.toArray (l.getD j default))
theorem drawnS_of {l : List Oper} (h : drawnS l = true) : DrawnS l := by
  have gd : ∀ (j : Nat) o, l[j]? = some o → l.getD j default = o := fun j o ho => by rw [List.getD_eq_getElem?_getD, ho]; rfl
  have lt : ∀ (j : Nat) o, l[j]? = some o → j < l.length := fun j o ho => (List.getElem?_eq_some_iff.mp ho).1
  simp only [drawnS, List.all_eq_true, List.mem_range, Bool.and_eq_true] at h
  refine ⟨fun j o ho e he hb => ?_, fun i j oi oj hij hi hj d hd => ?_, fun i j oi oj hij hi hj => ?_⟩
  · have h1 := (h j (lt j o ho)).1
    rw [gd j o ho, Array.all_eq_true'] at h1
    have h2 := h1 e (by simpa using he)
    simpa [hb] using h2
  · have h1 := ((h j (lt j oj hj)).2 i hij).1
    rw [gd j oj hj, gd i oi hi, hd] at h1
    intro e
    rw [e] at h1
    simp at h1
  · have h1 := ((h j (lt j oj hj)).2 i hij).2
    rw [gd j oj hj, gd i oi hi, Bool.or_eq_true] at h1
    exact h1
def ins (S : Nat → Bool) (i : Nat) : Nat → Bool := fun j => decide (j = i) || S j
/-- All that must be there before what is there. -/
def ClosedS (l : List Oper) (S : Nat → Bool) : Prop := ∀ (j : Nat) o, l[j]? = some o → S j = true → ∀ e ∈ o.after.toList, Region.binds .any e = true → S e.on = true
section
variable {P : Program} {call : CallF} {l : List Oper} {nt : Nat} {E : Nat → Env} {A : Nat → AV} {MS : (Nat → Bool) → Mem}
section
variable (hD : DrawnS l) (hT : ∀ (k : Nat) o, l[k]? = some o → putAV nt o.dst (A k) (E k) = some (E (k + 1)))
include hT
theorem gets_step {k : Nat} {o : Oper} (h : l[k]? = some o) (t : Nat) : get (E (k + 1)) t = if o.dst = some t then A k else get (E k) t := by
  have hp := hT k o h
  unfold putAV at hp
  split at hp
  · rename_i hd
    simp only [Option.some.injEq] at hp
    rw [← hp, if_neg (by rw [hd]; simp)]
  · rename_i d hd
    split at hp
    · simp only [Option.some.injEq] at hp
      rw [← hp, hd]
      simp [Ev.get]
    · cases hp
theorem gets_miss {t : Nat} : ∀ k, k ≤ l.length → (∀ (j : Nat) o, j < k → l[j]? = some o → o.dst ≠ some t) → get (E k) t = get (E 0) t
  | 0, _, _ => rfl
  | k + 1, hk, h => by
    have ho : l[k]? = some l[k] := List.getElem?_eq_getElem (by omega)
    rw [gets_step hT ho, if_neg (h k _ (by omega) ho)]
    exact gets_miss k (by omega) fun j o hj => h j o (by omega)
include hD
theorem gets_hit {t j : Nat} {o : Oper} (hj : l[j]? = some o) (hd : o.dst = some t) : ∀ k, k ≤ l.length → j < k → get (E k) t = A j
  | 0, _, h => by omega
  | k + 1, hk, h => by
    have ho : l[k]? = some l[k] := List.getElem?_eq_getElem (by omega)
    by_cases e : j = k
    · subst e
      rw [hj] at ho
      rw [gets_step hT hj, if_pos hd]
    · rw [gets_step hT ho, if_neg (hD.dst j k o _ (by omega) hj ho t hd)]
      exact gets_hit hj hd k (by omega) (by omega)
end
structure InvS (l : List Oper) (nt : Nat) (MS : (Nat → Bool) → Mem) (A : Nat → AV) (e : Env) (φ₀ : Phi) (m₀ : Mem) (w₀ : World) (S : Nat → Bool) (a : Act) (w : World) : Prop where
  st : ∃ φ, RM φ (MS S) w ∧ Ext φ₀ m₀ w₀ φ (MS S) w ∧ Slots l (fun j => S j = true) A e φ (MS S) w a.tmps
  size : nt ≤ a.tmps.size
  defers : a.defers = []
  closed : ClosedS l S
variable {φ₀ : Phi} {m₀ : Mem} {w₀ : World}
theorem invS_step (hC : CallOk P call) (hD : DrawnS l) (hT : ∀ (k : Nat) o, l[k]? = some o → putAV nt o.dst (A k) (E k) = some (E (k + 1)))
    (hW : ∀ (k : Nat) o, l[k]? = some o → ∃ b, wantedAV l.toArray (E k) o = some b ∧ (b = false → A k = .v (.tuple #[])))
    (hM : ∀ S (i : Nat) o, l[i]? = some o → ClosedS l S → S i = false → (∀ e ∈ o.after.toList, Region.binds .any e = true → S e.on = true) →
      (wantedAV l.toArray (E i) o = some true → SOp P call (E i) (MS S) o (A i) (MS (ins S i))) ∧ (wantedAV l.toArray (E i) o = some false → MS (ins S i) = MS S))
    {S : Nat → Bool} {a : Act} {w : World} (hI : InvS l nt MS A (E 0) φ₀ m₀ w₀ S a w) {i : Nat} {o : Oper} (ho : l[i]? = some o) (hni : S i = false)
    (hready : ∀ e ∈ o.after.toList, Region.binds .any e = true → S e.on = true) {K : Act → World → Prop} {Q : Exit → Act → World → Prop}
    (hK : ∀ a' w', InvS l nt MS A (E 0) φ₀ m₀ w₀ (ins S i) a' w' → K a' w') : wpOp P l.toArray Q i K a w := by
  obtain ⟨⟨φ, hR, hX, hS⟩, hsize, hdef, hclosed⟩ := hI
  have hil : i < l.length := (List.getElem?_eq_some_iff.mp ho).1
  have hni' : ¬ S i = true := by rw [hni]; simp
  have hlook : ∀ t, t ∈ o.looksAt l.toArray → Rep φ (MS S) w (get (E i) t) (a.tmps.getD t undef) := by
    intro t ht
    by_cases hx : ∃ (j : Nat) (oj : Oper), j < i ∧ l[j]? = some oj ∧ oj.dst = some t
    · obtain ⟨j, oj, hji, hj, hd⟩ := hx
      rw [gets_hit hD hT hj hd i (by omega) hji]
      refine (hS t).1 j oj hj hd ?_
      rcases hD.apart j i oj o hji hj ho with hb | hap
      · exact mask_listed (S := fun j => S j = true) hD.edge hclosed i o ho hready j hb
      · exact absurd ht ((Oper.apart_spec hap).1 t hd)
    · rw [gets_miss hT i (by omega) fun j oj hji hj hd => hx ⟨j, oj, hji, hj, hd⟩]
      refine (hS t).2 fun j oj hj hd hl => ?_
      rcases Nat.lt_trichotomy j i with hlt | heq | hgt
      · exact hx ⟨j, oj, hlt, hj, hd⟩
      · subst heq; exact hni' hl
      · rcases hD.apart i j o oj hgt ho hj with hb | hap
        · exact hni' (mask_listed (S := fun j => S j = true) hD.edge hclosed j oj hj (hclosed j oj hj hl) i hb)
        · exact absurd ht ((Oper.apart_spec hap).2.2 t hd)
  have hput := hT i o ho
  have after : ∀ x w' φ', RM φ' (MS (ins S i)) w' → Ext φ (MS S) w φ' (MS (ins S i)) w' → Rep φ' (MS (ins S i)) w' (A i) x → InvS l nt MS A (E 0) φ₀ m₀ w₀ (ins S i) (a.put o.dst x) w' := by
    intro x w' φ' g1 g2 g3
    refine ⟨⟨φ', g1, hX.trans g2, fun t => ⟨fun j oj hj hd hl => ?_, fun hno => ?_⟩⟩, by rw [put_size]; exact hsize, by rw [put_defers]; exact hdef, fun j oj hj hl e he hb => ?_⟩
    · by_cases e : j = i
      · subst e
        rw [hj] at ho
        cases ho
        rw [put_same hd hput hsize]
        exact g3
      · have hne : o.dst ≠ some t := by
          rcases Nat.lt_or_gt_of_ne e with h | h
          · exact hD.dst j i oj o h hj ho t hd
          · exact fun hod => hD.dst i j o oj h ho hj t hod hd
        rw [put_other hne]
        have hl' : S j = true := by simpa [ins, e] using hl
        exact ((hS t).1 j oj hj hd hl').mono g2
    · have hne : o.dst ≠ some t := fun hd => hno i o ho hd (by simp [ins])
      rw [put_other hne]
      exact ((hS t).2 fun j oj hj hd hl => hno j oj hj hd (by simp [ins, hl])).mono g2
    · by_cases h : j = i
      · subst h
        rw [hj] at ho
        cases ho
        simp [ins, hready e he hb]
      · have hl' : S j = true := by simpa [ins, h] using hl
        simp [ins, hclosed j oj hj hl' e he hb]
  let E' : Env := (o.looksAt l.toArray).map fun s => (s, get (E i) s)
  have hE' : EnvRep φ (MS S) w E' a.tmps := by
    intro t
    rw [get_restr]
    split
    · exact hlook t ‹_›
    · exact .junk _
  have hget : ∀ t, t ∈ o.looksAt l.toArray → get E' t = get (E i) t := fun t ht => by rw [get_restr, if_pos ht]
  have hwant : wantedAV l.toArray E' o = wantedAV l.toArray (E i) o := by
    unfold wantedAV
    cases hg : o.guard with
    | none => rfl
    | some g =>
      obtain ⟨j, want⟩ := g
      simp only []
      cases hj : (l.toArray[j]?).bind (·.dst) with
      | none => rfl
      | some d =>
        simp only []
        rw [hget d (by simp [Oper.looksAt, hg]; right; simpa using hj)]
  have hop : ∀ m, evOp P call E' m o = evOp P call (E i) m o := by
    intro m
    refine evOp_congr fun x hx t => ?_
    cases x with
    | tmp s => exact hget s (by simp only [Oper.looksAt, List.mem_append, List.mem_filterMap]; exact .inl ⟨_, hx, rfl⟩)
    | const v => rfl
    | func f => rfl
    | global g => rfl
  unfold wpOp
  rw [List.getElem?_toArray, ho]
  simp only []
  obtain ⟨h1, h2⟩ := hM S i o ho hclosed hni hready
  obtain ⟨b, hb, hA⟩ := hW i o ho
  cases b with
  | true =>
    rw [wanted_sound hE' (hwant.trans hb), if_pos rfl]
    left
    refine sop_wp hC hR hE' ?_ fun x w' φ' g1 g2 g3 => hK _ _ (after x w' φ' g1 g2 g3)
    rcases h1 hb with h | h
    · exact .inl (by rw [hop]; exact h)
    · exact .inr h
  | false =>
    rw [wanted_sound hE' (hwant.trans hb), if_neg (by simp)]
    have e := h2 hb
    refine hK _ _ (after undef w φ ?_ ?_ ?_)
    · rw [e]; exact hR
    · rw [e]; exact Ext.refl ..
    · rw [hA rfl]; exact .v _
theorem wpAny_invS (hC : CallOk P call) (hD : DrawnS l) (hT : ∀ (k : Nat) o, l[k]? = some o → putAV nt o.dst (A k) (E k) = some (E (k + 1)))
    (hW : ∀ (k : Nat) o, l[k]? = some o → ∃ b, wantedAV l.toArray (E k) o = some b ∧ (b = false → A k = .v (.tuple #[])))
    (hM : ∀ S (i : Nat) o, l[i]? = some o → ClosedS l S → S i = false → (∀ e ∈ o.after.toList, Region.binds .any e = true → S e.on = true) →
      (wantedAV l.toArray (E i) o = some true → SOp P call (E i) (MS S) o (A i) (MS (ins S i))) ∧ (wantedAV l.toArray (E i) o = some false → MS (ins S i) = MS S))
    {m' : Mem} (hend : ∀ S, (∀ j, j < l.length → S j = true) → MS S = m') {Q : Exit → Act → World → Prop} (hQ : ∀ a w, St φ₀ m₀ w₀ nt (E l.length) m' a w → Q .normal a w) :
    ∀ (n : Nat) (listed : Array Bool) (a : Act) (w : World), listed.size = l.length → unl (fun j => listed.getD j false) l.length ≤ n →
      InvS l nt MS A (E 0) φ₀ m₀ w₀ (fun j => listed.getD j false) a w → wpAny P .any l.toArray Q n listed a w := by
  have done : ∀ (listed : Array Bool) a w, (∀ j, j < l.length → listed.getD j false = true) → InvS l nt MS A (E 0) φ₀ m₀ w₀ (fun j => listed.getD j false) a w → Q .normal a w := by
    intro listed a w hall hI
    obtain ⟨⟨φ, hR, hX, hS⟩, hsize, hdef, hclosed⟩ := hI
    have hMe := hend _ hall
    rw [hMe] at hR hX hS
    refine hQ a w ⟨φ, hR, hX, fun t => ?_, hsize, hdef⟩
    by_cases hx : ∃ (j : Nat) (oj : Oper), l[j]? = some oj ∧ oj.dst = some t
    · obtain ⟨j, oj, hj, hd⟩ := hx
      have hjl : j < l.length := (List.getElem?_eq_some_iff.mp hj).1
      rw [gets_hit hD hT hj hd l.length (Nat.le_refl _) hjl]
      exact (hS t).1 j oj hj hd (hall j hjl)
    · rw [gets_miss hT l.length (Nat.le_refl _) fun j oj hji hj hd => hx ⟨j, oj, hj, hd⟩]
      exact (hS t).2 fun j oj hj hd => absurd ⟨j, oj, hj, hd⟩ hx
  have rdy : ∀ (listed : Array Bool) i, listed.size = l.length → (i ∈ Region.ready .any l.toArray listed ↔ ∃ o, l[i]? = some o ∧ listed.getD i false = false ∧ ∀ e ∈ o.after.toList, Region.binds .any e = true → listed.getD e.on false = true) := by
    intro listed i hs
    have gd : ∀ j, j < l.length → listed.getD j true = listed.getD j false := by
      intro j hj
      simp [Array.getD, hs, hj]
    rw [mem_ready]
    constructor
    · rintro ⟨h1, o, h2, h3⟩
      have ho : l[i]? = some o := by simpa using h2
      exact ⟨o, ho, by rw [← gd i (List.getElem?_eq_some_iff.mp ho).1]; exact h1, fun e he hb => h3 e (by simpa using he) hb⟩
    · rintro ⟨o, ho, h1, h3⟩
      exact ⟨by rw [gd i (List.getElem?_eq_some_iff.mp ho).1]; exact h1, o, by simpa using ho, fun e he hb => h3 e (by simpa using he) hb⟩
  have noneReady : ∀ (listed : Array Bool), listed.size = l.length → Region.ready .any l.toArray listed = [] → ∀ j, j < l.length → listed.getD j false = true := by
    intro listed hs hn j
    induction j using Nat.strongRecOn with
    | _ j ih =>
      intro hj
      have ho : l[j]? = some l[j] := List.getElem?_eq_getElem hj
      cases hl : listed.getD j false with
      | true => rfl
      | false =>
        have : j ∈ Region.ready .any l.toArray listed := (rdy listed j hs).mpr ⟨_, ho, hl, fun e he hb => ih e.on (hD.edge j _ ho e he hb) (Nat.lt_trans (hD.edge j _ ho e he hb) hj)⟩
        rw [hn] at this
        cases this
  intro n
  induction n with
  | zero =>
    intro listed a w hs hu hI
    have hall := unl_zero l.length (by omega : unl (fun j => listed.getD j false) l.length = 0)
    refine ⟨?_, done listed a w hall hI⟩
    cases hr : Region.ready .any l.toArray listed with
    | nil => rfl
    | cons i r =>
      obtain ⟨o, ho, h2, _⟩ := (rdy listed i hs).mp (by rw [hr]; simp)
      rw [hall i (List.getElem?_eq_some_iff.mp ho).1] at h2
      cases h2
  | succ n ih =>
    intro listed a w hs hu hI
    refine ⟨fun hn => done listed a w (noneReady listed hs hn) hI, fun i hi => ?_⟩
    obtain ⟨o, ho, h2, h3⟩ := (rdy listed i hs).mp hi
    have hil : i < l.length := (List.getElem?_eq_some_iff.mp ho).1
    have hset : ∀ j, (listed.setIfInBounds i true).getD j false = (decide (j = i) || listed.getD j false) := by
      intro j
      by_cases e : j = i
      · subst e; simp [Array.getD, hs, hil]
      · have e' : i ≠ j := fun h => e h.symm
        simp only [Array.getD_eq_getD_getElem?, Array.getElem?_setIfInBounds_ne e', e, decide_false, Bool.false_or]
    refine invS_step hC hD hT hW hM hI ho h2 h3 fun a' w' hI' => ih _ a' w' (by simpa using hs) ?_ ?_
    · have := unl_set (f := fun j => listed.getD j false) (g := fun j => (listed.setIfInBounds i true).getD j false) h2 hset l.length
      rw [if_pos hil] at this
      omega
    · have e : (fun j => (listed.setIfInBounds i true).getD j false) = ins (fun j => listed.getD j false) i := by
        funext j
        rw [hset j]
        rfl
      rw [e]
      exact hI'
theorem same_ext {φ : Phi} {m m' : Mem} {w w' : World} (hv : ∀ r, m.var r = m'.var r) (ht : m.toks = m'.toks) (h : Ext φ m w φ m w') : Ext φ m w φ m' w' where
  os := h.os
  tape := h.tape
  output := h.output
  size := h.size
  im := h.im
  vb r cs hc := ⟨rfl, cs, by rw [← hv]; exact hc, rfl⟩
  tk id v hc := ⟨v, by rw [← ht]; exact hc, Nat.le_refl _, fun _ => rfl⟩
  blk := h.blk
  own b hb := h.own b (by
    rcases hb with ⟨r, cs, h1, h2⟩ | ⟨id, s, e, h1, h2, h3⟩
    · exact .inl ⟨r, cs, by rw [hv]; exact h1, h2⟩
    · exact .inr ⟨id, s, e, by rw [ht]; exact h1, h2, h3⟩)
theorem same_rm {φ : Phi} {m m' : Mem} {w : World} (hv : ∀ r, m.var r = m'.var r) (ht : m.toks = m'.toks) (h : RM φ m w) : RM φ m' w where
  var r cs hc := by
    obtain ⟨arr, T, h1, h2, h3⟩ := h.var r cs (by rw [hv]; exact hc)
    exact ⟨arr, T, h1, h2.mono (same_ext hv ht (Ext.refl ..)), h3⟩
  inj r r' cs cs' h1 h2 := h.inj r r' cs cs' (by rw [hv]; exact h1) (by rw [hv]; exact h2)
  vim r cs o h1 := h.vim r cs o (by rw [hv]; exact h1)
  tok id b s e h1 h2 h3 := by
    obtain ⟨arr, T, g1, g2, g3, g4, g5⟩ := h.tok id b s e (by rw [ht]; exact h1) h2 h3
    exact ⟨arr, T, g1, g2, g3, fun r cs hc => g4 r cs (by rw [hv]; exact hc), g5⟩
  tinj id id' b s e s' e' h1 h2 := h.tinj id id' b s e s' e' (by rw [ht]; exact h1) (by rw [ht]; exact h2)
  imlt := h.imlt
/-- Such a region, in a walk. -/
theorem x_sets (hm : P.follows .mixedOrders = true) (hC : CallOk P call) {id : Nat} {l2 : Option (List Nat)} {F : Objs} {Q : PostF} {e : Env} {m m' : Mem} (hD : drawnS l = true)
    (hE0 : E 0 = e) (hM0 : ∀ r, m.var r = (MS fun _ => false).var r) (hM1 : m.toks = (MS fun _ => false).toks) (hT : ∀ (k : Nat) o, l[k]? = some o → putAV nt o.dst (A k) (E k) = some (E (k + 1)))
    (hW : ∀ (k : Nat) o, l[k]? = some o → ∃ b, wantedAV l.toArray (E k) o = some b ∧ (b = false → A k = .v (.tuple #[])))
    (hM : ∀ S (i : Nat) o, l[i]? = some o → ClosedS l S → S i = false → (∀ e ∈ o.after.toList, Region.binds .any e = true → S e.on = true) →
      (wantedAV l.toArray (E i) o = some true → SOp P call (E i) (MS S) o (A i) (MS (ins S i))) ∧ (wantedAV l.toArray (E i) o = some false → MS (ins S i) = MS S))
    (hend : ∀ S, (∀ j, j < l.length → S j = true) → MS S = m') (hQ : ∀ e2, Ev.restr l2 (E l.length) = e2 → Q .normal e2 m' F) : XRuns P φ₀ m₀ w₀ nt (.region id l.toArray true) e m F Q := fun a w hs => by
  obtain ⟨φ, hRM, hX, hE, hn, hdf, hF⟩ := hs
  have hx := drew_ext φ m w
  have key := wpAny_invS (φ₀ := φ) (m₀ := m) (w₀ := w) (Q := EndsF φ₀ m₀ w₀ nt Q) hC (drawnS_of hD) hT hW hM hend (fun a' w' hst => by
    obtain ⟨φ', h1, h2, h3, h4, h5⟩ := hst
    exact ⟨.normal, _, m', F, rfl, ⟨φ', h1, hX.trans h2, h3.restr l2, h4, h5, objs_ext hF h2⟩, hQ _ rfl⟩)
    l.length (Array.replicate l.length false) a { w with drawn := w.drawn + 1 } (by simp) (unl_le ..)
  have no : ∀ j, (Array.replicate l.length false).getD j false = false := by
    intro j
    simp [Array.getD]
  have e0 : (fun j => (Array.replicate l.length false).getD j false) = fun _ => false := by funext j; exact no j
  rw [e0] at key
  refine wp_region_any hm ?_
  have hrm := same_rm hM0 hM1 (drew_rm hRM)
  have hxx := same_ext hM0 hM1 hx
  have hsl : Slots l (fun j => (fun _ : Nat => false) j = true) A (E 0) φ (MS fun _ => false) { w with drawn := w.drawn + 1 } a.tmps := fun t =>
    ⟨fun j o _ _ hl => absurd hl (by simp), fun _ => by rw [hE0]; exact (hE t).mono hxx⟩
  have := key ⟨⟨φ, hrm, hxx, hsl⟩, hn, hdf, fun j o _ hl => absurd hl (by simp)⟩
  simpa using this
/-! ### where nothing is guarded -/
def envOf (l : List Oper) (A : Nat → AV) (e : Env) : Nat → Env
  | 0 => e
  | k + 1 =>
    match (l[k]?).bind (·.dst) with
    | some d => (d, A k) :: envOf l A e k
    | none => envOf l A e k
def freeB (l : List Oper) (nt : Nat) : Bool := l.all fun o => o.guard.isNone && match o.dst with | some d => decide (d < nt) | none => true
theorem x_sets0 (hm : P.follows .mixedOrders = true) (hC : CallOk P call) {id : Nat} {l2 : Option (List Nat)} {F : Objs} {Q : PostF} {e : Env} {m m' : Mem} (hD : drawnS l = true) (hf : freeB l nt = true) (A : Nat → AV) (MS : (Nat → Bool) → Mem)
    (hM0 : ∀ r, m.var r = (MS fun _ => false).var r) (hM1 : m.toks = (MS fun _ => false).toks)
    (hM : ∀ S (i : Nat) o, l[i]? = some o → ClosedS l S → S i = false → (∀ e ∈ o.after.toList, Region.binds .any e = true → S e.on = true) → SOp P call (envOf l A e i) (MS S) o (A i) (MS (ins S i)))
    (hend : ∀ S, (∀ j, j < l.length → S j = true) → MS S = m') (hQ : ∀ e2, Ev.restr l2 (envOf l A e l.length) = e2 → Q .normal e2 m' F) : XRuns P φ₀ m₀ w₀ nt (.region id l.toArray true) e m F Q := by
  have hfr : ∀ (k : Nat) o, l[k]? = some o → o.guard = none ∧ ∀ d, o.dst = some d → d < nt := by
    intro k o ho
    have := List.all_eq_true.1 hf o (List.mem_of_getElem? ho)
    simp only [Bool.and_eq_true, Option.isNone_iff_eq_none] at this
    refine ⟨this.1, fun d hd => ?_⟩
    have h2 := this.2
    rw [hd] at h2
    simpa using h2
  refine x_sets (E := envOf l A e) (A := A) (MS := MS) hm hC hD rfl hM0 hM1 (fun k o ho => ?_) (fun k o ho => ⟨true, ?_, fun h => by cases h⟩) (fun S i o ho h1 h2 h3 => ⟨fun _ => hM S i o ho h1 h2 h3, fun hw => ?_⟩) hend hQ
  · show putAV nt o.dst (A k) _ = some (match (l[k]?).bind (·.dst) with | some d => (d, A k) :: envOf l A e k | none => envOf l A e k)
    rw [ho]
    simp only [Option.bind_some]
    cases hd : o.dst with
    | none => rfl
    | some d => exact putAV_some ((hfr k o ho).2 d hd) _ _
  · unfold wantedAV
    rw [(hfr k o ho).1]
  · unfold wantedAV at hw
    rw [(hfr i o ho).1] at hw
    cases hw
end
end Go.Proofs.YtojaokhkbmiidaaGreat.Ev

namespace Go.Proofs.YtojaokhkbmiidaaGreat.Ev
open Go
set_option linter.unusedVariables false
set_option linter.unusedSimpArgs false
/-! ### are two things the same? (where that can be told) -/
def both : Option Bool → Option Bool → Option Bool
  | some false, _ => some false
  | some true, q => q
  | none, some false => some false
  | none, _ => none
theorem both_true {p q : Option Bool} (h : both p q = some true) : p = some true ∧ q = some true := by
  unfold both at h
  split at h
  · cases h
  · exact ⟨rfl, h⟩
  · cases h
  · cases h
theorem both_false {p q : Option Bool} (h : both p q = some false) : p = some false ∨ q = some false := by
  unfold both at h
  split at h
  · exact .inl rfl
  · exact .inr h
  · exact .inr rfl
  · cases h
def valQ : Value → Value → Option Bool
  | .int k a, .int k' b => some (decide (k = k') && decide (a = b))
  | .bool a, .bool b => some (decide (a = b))
  | .string a, .string b => some (decide (a = b))
  | _, _ => none
theorem valQ_spec {x y : Value} {b : Bool} (h : valQ x y = some b) : b = true ↔ x = y := by
  unfold valQ at h
  split at h
  · cases h; simp
  · cases h; simp
  · cases h; simp
  · cases h
def listQ {α : Type} (q : α → α → Option Bool) : List α → List α → Option Bool
  | [], [] => some true
  | a :: as, b :: bs => both (q a b) (listQ q as bs)
  | _, _ => some false
theorem listQ_spec {α : Type} {q : α → α → Option Bool} (hq : ∀ a b r, q a b = some r → (r = true ↔ a = b)) : ∀ {l l2 : List α} {r : Bool}, listQ q l l2 = some r → (r = true ↔ l = l2)
  | [], [], r, h => by cases h; simp
  | a :: l, b :: l2, r, h => by
    unfold listQ at h
    cases r with
    | true =>
      obtain ⟨h1, h2⟩ := both_true h
      simp [(hq a b _ h1).1 rfl, (listQ_spec hq h2).1 rfl]
    | false =>
      simp only [Bool.false_eq_true, false_iff, List.cons.injEq, not_and]
      rintro rfl rfl
      rcases both_false h with h1 | h1
      · exact absurd ((hq a a _ h1).2 rfl) (by simp)
      · exact absurd ((listQ_spec hq h1).2 rfl) (by simp)
  | [], _ :: _, r, h => by cases h; simp
  | _ :: _, [], r, h => by cases h; simp
def avQ : Nat → AV → AV → Option Bool
  | 0, _, _ => none
  | d + 1, a, b =>
    match a, b with
    | .junk, .junk => some true
    | .v x, .v y => valQ x y
    | .agg x, .agg y => listQ (avQ d) x y
    | .lst g s x, .lst g' s' y => both (some (decide (g = g') && decide (s = s'))) (listQ (listQ (avQ d)) x y)
    | .ptr r o, .ptr r' o' => some (decide (r = r') && decide (o = o'))
    | .fn (.func f) x y, .fn (.func f') x' y' => both (some (decide (f = f'))) (both (listQ (avQ d) x x') (listQ (avQ d) y y'))
    | .v _, .fn _ _ _ => some false
    | .fn _ _ _, .v _ => some false
    | .v _, .lst _ _ _ => some false
    | .lst _ _ _, .v _ => some false
    | .v _, .ptr _ _ => some false
    | .ptr _ _, .v _ => some false
    | _, _ => none
theorem avQ_spec : ∀ (d : Nat) (a b : AV) (r : Bool), avQ d a b = some r → (r = true ↔ a = b)
  | 0, a, b, r, h => by cases h
  | d + 1, a, b, r, h => by
    unfold avQ at h
    split at h
    · cases h; simp
    · rename_i x y
      have := valQ_spec h
      simp [this]
    · rename_i x y
      have := listQ_spec (avQ_spec d) h
      simp [this]
    · rename_i g s x g' s' y
      have hl : ∀ r, listQ (listQ (avQ d)) x y = some r → (r = true ↔ x = y) := fun r h => listQ_spec (fun a b r h => listQ_spec (avQ_spec d) h) h
      cases r with
      | true =>
        obtain ⟨h1, h2⟩ := both_true h
        simp only [Option.some.injEq, Bool.and_eq_true, decide_eq_true_eq] at h1
        simp [h1.1, h1.2, (hl _ h2).1 rfl]
      | false =>
        simp only [Bool.false_eq_true, false_iff, AV.lst.injEq, not_and]
        rintro rfl rfl rfl
        rcases both_false h with h1 | h1
        · simp at h1
        · exact absurd ((hl _ h1).2 rfl) (by simp)
    · cases h; simp
    · rename_i f x y f' x' y'
      have hl : ∀ {x y : List AV} {r : Bool}, listQ (avQ d) x y = some r → (r = true ↔ x = y) := fun h => listQ_spec (avQ_spec d) h
      cases r with
      | true =>
        obtain ⟨h1, h2⟩ := both_true h
        obtain ⟨h2, h3⟩ := both_true h2
        simp only [Option.some.injEq, decide_eq_true_eq] at h1
        simp [h1, (hl h2).1 rfl, (hl h3).1 rfl]
      | false =>
        simp only [Bool.false_eq_true, false_iff, AV.fn.injEq, Fn.func.injEq, not_and]
        rintro rfl rfl rfl
        rcases both_false h with h1 | h1
        · simp at h1
        · rcases both_false h1 with h1 | h1
          · exact absurd ((hl h1).2 rfl) (by simp)
          · exact absurd ((hl h1).2 rfl) (by simp)
    · cases h; simp
    · cases h; simp
    · cases h; simp
    · cases h; simp
    · cases h; simp
    · cases h; simp
    · cases h
def cellsQ (a b : Option (List AV)) : Option Bool :=
  match a, b with
  | none, none => some true
  | some x, some y => listQ (avQ 16) x y
  | _, _ => some false
theorem cellsQ_spec {a b : Option (List AV)} {r : Bool} (h : cellsQ a b = some r) : r = true ↔ a = b := by
  unfold cellsQ at h
  split at h
  · cases h; simp
  · have := listQ_spec (avQ_spec 16) h
    simp [this]
  · rename_i h1 h2
    cases h
    simp only [Bool.false_eq_true, false_iff]
    rintro rfl
    cases a with
    | none => exact h1 rfl rfl
    | some x => exact h2 x x rfl rfl
def memQ (m m' : Mem) : Option Bool := both (some (decide (m.toks = m'.toks))) (listQ cellsQ m.vars m'.vars)
theorem memQ_spec {m m' : Mem} (h : memQ m m' = some true) : m = m' := by
  obtain ⟨h1, h2⟩ := both_true h
  have e1 : m.toks = m'.toks := by simpa using h1
  have e2 := (listQ_spec (fun a b r h => cellsQ_spec h) h2).1 rfl
  cases m; cases m'; simp_all
def finMemC (m0 m : Mem) : Option Mem :=
  match listQ cellsQ (m.vars.take m0.vars.length) m0.vars with
  | some true => some { vars := m0.vars, toks := m.toks.take m0.toks.length }
  | some false => some { vars := m.vars.take m0.vars.length, toks := m.toks }
  | none => none
theorem finMemC_spec {m0 m r : Mem} (h : finMemC m0 m = some r) : finMem m0 m = r := by
  unfold finMemC at h
  unfold finMem
  split at h
  · rename_i hq
    cases h
    rw [if_pos ((listQ_spec (fun a b r h => cellsQ_spec h) hq).1 rfl)]
  · rename_i hq
    cases h
    rw [if_neg (fun e => absurd ((listQ_spec (fun a b r h => cellsQ_spec h) hq).2 e) (by simp))]
  · cases h

/-! ### operations, regions, code -/
def keepsC (P : Program) (pu : Bool) (o : Oper) (m : Mem) (x : Option (AV × Mem)) : Option (AV × Mem) :=
  match x with
  | some (a, m') => if (pu && clsOf P o == .ca) = true then (if memQ m' m = some true then some (a, m') else none) else some (a, m')
  | none => none
theorem keepsC_spec {P : Program} {pu : Bool} {o : Oper} {m : Mem} {x y : Option (AV × Mem)} (hxy : ∀ r, x = some r → y = some r) {r : AV × Mem} (h : keepsC P pu o m x = some r) : keeps P pu o m y = some r := by
  unfold keepsC at h
  split at h
  · rename_i a m'
    unfold keeps
    rw [hxy _ rfl]
    dsimp only
    split at h
    · split at h
      · rename_i hq
        cases h
        rw [if_pos (fun _ => memQ_spec hq)]
      · cases h
    · rename_i hn
      cases h
      rw [if_pos (fun h => absurd h hn)]
  · cases h
def evOpsC (P : Program) (call : CallF) (nt : Nat) (ops : Array Oper) (pu : Bool) : List Oper → Env → Mem → Option (Env × Mem)
  | [], e, m => some (e, m)
  | o :: rest, e, m =>
    match wantedAV ops e o with
    | none => none
    | some true =>
      match keepsC P pu o m (evOp P call e m o) with
      | some (a, m') =>
        match putAV nt o.dst a e with
        | some e' => evOpsC P call nt ops pu rest e' m'
        | none => none
      | none => none
    | some false =>
      match putAV nt o.dst (.v (.tuple #[])) e with
      | some e' => evOpsC P call nt ops pu rest e' m
      | none => none
def Sub (c c' : CallF) : Prop := ∀ f args m r, c f args m = some r → c' f args m = some r
theorem evCall_sub {c c' : CallF} (hs : Sub c c') {f : AV} {xs : List AV} {m : Mem} {r : AV × Mem} (h : evCall c f xs m = some r) : evCall c' f xs m = some r := by
  unfold evCall at h ⊢
  split at h
  · exact hs _ _ _ _ h
  · cases h
theorem evOp_sub {P : Program} {c c' : CallF} (hs : Sub c c') {e : Env} {m : Mem} {o : Oper} {r : AV × Mem} (h : evOp P c e m o = some r) : evOp P c' e m o = some r := by
  unfold evOp at h ⊢
  cases hop : o.op with
  | call cl =>
    rw [hop] at h
    dsimp only at h ⊢
    split at h
    · rename_i hsz
      rw [if_pos hsz]
      cases hce : cl.callee with
      | builtin b => rw [hce] at h; exact h
      | value f => rw [hce] at h; exact evCall_sub hs h
      | invoke a b => rw [hce] at h; exact h
    · cases h
  | _ => rw [hop] at h; exact h
theorem evOpsC_sub {P : Program} {c c' : CallF} (hs : Sub c c') {nt : Nat} {ops : Array Oper} {pu : Bool} {r : Env × Mem} : ∀ (l : List Oper) (e : Env) (m : Mem), evOpsC P c nt ops pu l e m = some r → evOps P c' nt ops pu l e m = some r
  | [], e, m, h => h
  | o :: rest, e, m, h => by
    unfold evOpsC at h
    unfold evOps
    split at h
    · cases h
    · rename_i hw
      rw [hw]
      dsimp only
      split at h
      · rename_i a m' hk
        rw [keepsC_spec (fun r h => evOp_sub hs h) hk]
        dsimp only
        split at h
        · rename_i e' he
          rw [he]
          exact evOpsC_sub hs rest e' m' h
        · cases h
      · cases h
    · rename_i hw
      rw [hw]
      dsimp only
      split at h
      · rename_i e' he
        rw [he]
        exact evOpsC_sub hs rest e' m h
      · cases h
def codeC (P : Program) (call : CallF) (nt : Nat) (kp : Nat → Option (List Nat)) (n : Nat) : Code → Env → Mem → Res
  | .skip, e, m => some (.normal, e, m)
  | .region id ops draw, e, m =>
    match (if draw then (if drawnOk P ops.toList = true then evOpsC P call nt ops.toList.toArray (anyLoose P ops.toList) ops.toList e m else none) else evOpsC P call nt ops false ops.toList e m) with
    | some (e', m') => some (.normal, restr (kp id) e', m')
    | none => none
  | .seq a b, e, m =>
    match codeC P call nt kp n a e m with
    | some (.normal, e', m') => codeC P call nt kp n b e' m'
    | x => x
  | .cond c a b, e, m =>
    match opd P e 0 c with
    | .v (.bool t) => if t then codeC P call nt kp n a e m else codeC P call nt kp n b e m
    | _ => none
  | .block id b, e, m =>
    match codeC P call nt kp n b e m with
    | some (.exit q, e', m') => if q = id then some (.normal, e', m') else some (.exit q, e', m')
    | x => x
  | .loop b, e, m => loopN (codeC P call nt kp n b) n e m
  | .exit id, e, m => some (.exit id, e, m)
  | .ret, e, m => some (.ret, e, m)
  | _, _, _ => none
theorem codeC_sub {P : Program} {c c' : CallF} (hs : Sub c c') {nt : Nat} {kp : Nat → Option (List Nat)} {n : Nat} : ∀ (k : Code) (e : Env) (m : Mem) (r : Ex × Env × Mem), codeC P c nt kp n k e m = some r → code P c' nt kp n k e m = some r := by
  intro k
  induction k with
  | region id ops draw =>
    intro e m r h
    unfold codeC at h
    unfold code
    split at h
    · rename_i e' m' h1
      have : (if draw then evDrawn P c' nt ops.toList e m else evOps P c' nt ops false ops.toList e m) = some (e', m') := by
        cases draw with
        | true =>
          simp only [if_true] at h1 ⊢
          unfold evDrawn
          split at h1
          · rename_i hd
            rw [if_pos hd]
            exact evOpsC_sub hs _ _ _ h1
          · cases h1
        | false =>
          simp only [Bool.false_eq_true, if_false] at h1 ⊢
          exact evOpsC_sub hs _ _ _ h1
      rw [this]
      exact h
    · cases h
  | seq x y ihx ihy =>
    intro e m r h
    unfold codeC at h
    unfold code
    split at h
    · rename_i e' m' h1
      rw [ihx e m _ h1]
      exact ihy e' m' r h
    · rename_i h1
      rw [ihx e m _ h]
      obtain ⟨x, e', m'⟩ := r
      cases x with
      | normal => exact absurd h (h1 e' m')
      | exit id => rfl
      | ret => rfl
  | cond cc x y ihx ihy =>
    intro e m r h
    unfold codeC at h
    unfold code
    split at h
    · rename_i t ht
      rw [ht]
      cases t with
      | true => exact ihx e m r h
      | false => exact ihy e m r h
    · cases h
  | block id b ih =>
    intro e m r h
    unfold codeC at h
    unfold code
    split at h
    · rename_i q e' m' h1
      rw [ih e m _ h1]
      exact h
    · rename_i h1
      rw [ih e m _ h]
      obtain ⟨x, e', m'⟩ := r
      cases x with
      | normal => rfl
      | exit id => exact absurd h (h1 id e' m')
      | ret => rfl
  | loop b ih =>
    intro e m r h
    unfold codeC at h
    unfold code
    exact loopN_mono ih n n e m (Nat.le_refl _) h
  | _ => intro e m r h; exact h

/-! ### functions -/
def growResC (gr : Bool) (m0 m : Mem) (a : AV) : Option (AV × Mem) :=
  match finMemC m0 m with
  | none => none
  | some mf =>
    match gr, a with
    | true, .lst .full sz rows => some (.lst (.tok mf.toks.length 0) sz rows, { mf with toks := mf.toks ++ [0] })
    | true, .lst (.tok id ver) sz rows =>
      if m.toks[id]? = some ver ∧ m0.toks.length ≤ id then some (.lst (.tok mf.toks.length 0) sz rows, { mf with toks := mf.toks.set id (ver + 1) ++ [0] }) else none
    | true, _ => none
    | false, a => (resAV m0.vars.length m a).map (·, mf)
theorem growResC_spec {gr : Bool} {m0 m : Mem} {a : AV} {r : AV × Mem} (h : growResC gr m0 m a = some r) : growRes gr m0 m a = some r := by
  unfold growResC at h
  split at h
  · cases h
  · rename_i mf hf
    obtain rfl := finMemC_spec hf
    exact h
def evRetC (P : Program) (gr : Bool) (fn : Func) (m0 : Mem) (e : Env) (m : Mem) : Option (AV × Mem) :=
  match fn.results.toList with
  | [r] => (evResult P e m r).bind (growResC gr m0 m)
  | rs =>
    match finMemC m0 m with
    | some mf => ((rs.mapM (evResult P e m)).bind fun vs => vs.mapM (resAV m0.vars.length m)).map fun vs => (.tup vs, mf)
    | none => none
theorem evRetC_spec {P : Program} {gr : Bool} {fn : Func} {m0 : Mem} {e : Env} {m : Mem} {r : AV × Mem} (h : evRetC P gr fn m0 e m = some r) : evRet P gr fn m0 e m = some r := by
  unfold evRetC at h
  unfold evRet
  split at h
  · rename_i rv hrv
    rw [hrv]
    rw [Option.bind_eq_some_iff] at h ⊢
    obtain ⟨b, h1, h2⟩ := h
    exact ⟨b, h1, growResC_spec h2⟩
  · rename_i rs hrs
    split at h
    · rename_i mf hf
      obtain rfl := finMemC_spec hf
      split
      · rename_i rv hrv
        exact absurd hrv (hrs rv)
      · exact h
    · cases h
def evBodyC (P : Program) (C : Ctx) (call : CallF) (n : Nat) (f : FuncId) (fn : Func) (c : Code) (args : List AV) (m : Mem) : Option (AV × Mem) :=
  if args.length ≤ fn.ntmps ∧ (fn.name == "runtime.NumGoroutine") = false then
    match codeC P call fn.ntmps (C.kp f) n c (entry args) m with
    | some (.normal, e, m') => evRetC P (C.gr f) fn m e m'
    | some (.ret, e, m') => evRetC P (C.gr f) fn m e m'
    | _ => none
  else none
def runC (P : Program) (C : Ctx) : Nat → CallF
  | 0, _, _, _ => none
  | n + 1, f, args, m =>
    match C.ext f with
    | some g => g args m
    | none =>
      match P.funcs[f]? with
      | some fn =>
        match fn.body with
        | some c => evBodyC P C (runC P C n) n f fn c args m
        | none => none
      | none => none
theorem evBodyC_sub {P : Program} {C : Ctx} {c c' : CallF} (hs : Sub c c') {n : Nat} {f : FuncId} {fn : Func} {k : Code} {args : List AV} {m : Mem} {r : AV × Mem} (h : evBodyC P C c n f fn k args m = some r) : evBody P C c' n f fn k args m = some r := by
  unfold evBodyC at h
  unfold evBody
  split at h
  · rename_i hc
    rw [if_pos hc]
    split at h
    · rename_i e m' h1
      rw [codeC_sub hs _ _ _ _ h1]
      exact evRetC_spec h
    · rename_i e m' h1
      rw [codeC_sub hs _ _ _ _ h1]
      exact evRetC_spec h
    · cases h
  · cases h
theorem runC_sub {P : Program} {C : Ctx} : ∀ n, Sub (runC P C n) (run P C n)
  | 0 => fun f args m r h => by cases h
  | n + 1 => fun f args m r h => by
    unfold runC at h
    unfold run
    split at h
    · rename_i g hg
      rw [hg]
      exact h
    · rename_i hg
      rw [hg]
      dsimp only
      split at h
      · rename_i fn hfn
        rw [hfn]
        dsimp only
        split at h
        · rename_i c hc
          rw [hc]
          exact evBodyC_sub (runC_sub n) h
        · cases h
      · cases h
theorem runC_ok {P : Program} (hm : P.follows .mixedOrders = true) {C : Ctx} (hx : ∀ f g, C.ext f = some g → FunOk P f g) (n : Nat) : CallOk P (runC P C n) :=
  fun f args m r m' h => run_ok hm hx n f args m r m' (runC_sub n _ _ _ _ h)

/-! ### a function of nothing, wherever it is called -/
theorem wide_ok {P : Program} {f : FuncId} {x : Value} (h : FunOk P f fun args m => if args = [] ∧ m.vars = [] ∧ m.toks = [] then some (.v x, m) else none) :
    FunOk P f fun args m => match args with | [] => some (.v x, m) | _ => none := by
  intro args m r m' hg
  dsimp only at hg
  split at hg
  · cases hg
    obtain ⟨h1, h2⟩ := h [] ⟨[], []⟩ (.v x) ⟨[], []⟩ (if_pos ⟨rfl, rfl, rfl⟩)
    refine ⟨h1, fun φ w vals hR hA => ?_⟩
    have hR0 : RM φ ⟨[], []⟩ w := {
      var := fun r cs h => by simp [Mem.var] at h
      inj := fun r r' cs cs' h => by simp [Mem.var] at h
      vim := fun r cs o h => by simp [Mem.var] at h
      tok := fun id b s e h => by simp at h
      tinj := fun id id' b s e s' e' h => by simp at h
      imlt := hR.imlt }
    refine (h2 φ w vals hR0 ⟨hA.1, fun i a u e => by simp at e⟩).mono fun e w' ⟨y, φ', he, hR', hX, hr⟩ => ?_
    have hno : ∀ b, ¬ Own φ ⟨[], []⟩ b := by
      rintro b (⟨r, cs, h, _⟩ | ⟨id, s, e, h, _⟩)
      · simp [Mem.var] at h
      · simp at h
    have hblk : ∀ b, b < w.heap.size → w'.heap[b]? = w.heap[b]? := fun b hb => hX.blk b hb (hno b)
    have hcell : ∀ b o, φ.im b o → w'.cell? ⟨b, o, none⟩ = w.cell? ⟨b, o, none⟩ := fun b o hi => (hX.im b o hi).2
    have lt_of : ∀ b o, w.heap[b]? = some o → b < w.heap.size := fun b o h => (Array.getElem?_eq_some_iff.1 h).1
    have hext : Ext φ m w φ m w' := {
      os := hX.os, tape := hX.tape, output := hX.output, size := hX.size
      im := fun b o hi => ⟨hi, hcell b o hi⟩
      vb := fun r cs hv => ⟨rfl, cs, hv, rfl⟩
      tk := fun id v hv => ⟨v, hv, Nat.le_refl _, fun _ => rfl⟩
      blk := fun b hb _ => hblk b hb
      own := fun b hb => .inl hb }
    refine ⟨y, φ, he, ?_, hext, ?_⟩
    · exact {
        var := fun r cs hv => by
          obtain ⟨arr, T, g1, g2, g3⟩ := hR.var r cs hv
          exact ⟨arr, T, by rw [hblk _ (lt_of _ _ g1)]; exact g1, g2.mono hext, g3⟩
        inj := hR.inj
        vim := hR.vim
        tok := fun id b s e hlt hk hse => by
          obtain ⟨arr, T, g1, g2⟩ := hR.tok id b s e hlt hk hse
          exact ⟨arr, T, by rw [hblk _ (lt_of _ _ g1)]; exact g1, g2⟩
        tinj := hR.tinj
        imlt := fun b o hi => Nat.lt_of_lt_of_le (hR.imlt b o hi) hX.size }
    · cases hr
      exact .v _
  · cases hg
end Go.Proofs.YtojaokhkbmiidaaGreat.Ev
