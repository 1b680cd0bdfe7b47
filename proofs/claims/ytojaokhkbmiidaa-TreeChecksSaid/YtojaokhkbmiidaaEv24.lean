/- A law's arguments, opened: plain data of whatever shape. -/
import Derived.Test.YtojaokhkbmiidaaEv23
import Derived.ChangeBears
import Derived.ChangeShapes
import Derived.WideShapes
import Derived.Carry
import Derived.OpenShut
import Derived.Deep.Slices
namespace Go.Proofs.Ytojaokhkbmiidaa.Ev
open Go
set_option linter.unusedVariables false
set_option linter.unusedSimpArgs false
/-- Types of plain data. -/
def plainT (P : Program) : Nat → TypeId → Bool
  | 0, _ => false
  | d + 1, t =>
    match P.underlying t with
    | some .bool => true
    | some (.int _) => true
    | some .string => true
    | some (.slice e) => plainT P d e && decide (0 < P.cellsOf e)
    | some (.array _ e) => plainT P d e
    | some (.struct fs) => fs.toList.all fun f => plainT P d f.type
    | _ => false
/-- The cells of a value of such a type. -/
def Typed (P : Program) : Nat → TypeId → List AV → Prop
  | 0, _, _ => False
  | d + 1, t, as =>
    match P.underlying t with
    | some .bool => ∃ b, as = [.v (.bool b)]
    | some (.int k) => ∃ n, as = [.v (.int k n)] ∧ k.min ≤ n ∧ n ≤ k.max
    | some .string => ∃ s, as = [.v (.string s)] ∧ s.size ≤ 9223372036854775807
    | some (.slice e) => ∃ rows, as = [.lst .no (P.cellsOf e) rows] ∧ rows.length ≤ 9223372036854775807 ∧ ∀ row ∈ rows, Typed P d e row
    | some (.array n e) => ∃ parts : List (List AV), as = parts.flatten ∧ parts.length = n ∧ ∀ p ∈ parts, Typed P d e p
    | some (.struct fs) => ∃ parts : List (List AV), as = parts.flatten ∧ parts.length = fs.toList.length ∧ ∀ (i : Nat) f p, fs.toList[i]? = some f → parts[i]? = some p → Typed P d f.type p
    | _ => False
/-- An argument of such a type. -/
def TypedArg (P : Program) (d : Nat) (t : TypeId) (a : AV) : Prop :=
  match P.underlying t with
  | some (.struct _) => ∃ as, a = .agg as ∧ Typed P d t as
  | some (.array _ _) => ∃ as, a = .agg as ∧ Typed P d t as
  | _ => Typed P d t [a]
section
variable {H : Type} {enc : TypeId × Value → H} {P : Program} {w : World} {held : Bool}
def CellRep (w : World) (a : AV) (u : Value) : Prop := Rep (phiW w) ⟨[], []⟩ w a u ∧ isRow a = true ∧ one u = true
def Same (w : World) : List AV → List Value → Prop
  | [], [] => True
  | a :: as, u :: us => CellRep w a u ∧ Same w as us
  | _, _ => False
theorem Same.app : ∀ {as : List AV} {us : List Value} {bs : List AV} {vs : List Value}, Same w as us → Same w bs vs → Same w (as ++ bs) (us ++ vs)
  | [], [], _, _, _, h2 => h2
  | a :: as, u :: us, _, _, h1, h2 => ⟨h1.1, Same.app h1.2 h2⟩
  | [], _ :: _, _, _, h1, _ => h1.elim
  | _ :: _, [], _, _, h1, _ => h1.elim
theorem Same.len : ∀ {as : List AV} {us : List Value}, Same w as us → us.length = as.length
  | [], [], _ => rfl
  | a :: as, u :: us, h => by simp [Same.len h.2]
  | [], _ :: _, h => h.elim
  | _ :: _, [], h => h.elim
theorem Same.at : ∀ {as : List AV} {us : List Value}, Same w as us → ∀ (i : Nat) a u, as[i]? = some a → us[i]? = some u → CellRep w a u
  | [], [], _, i, a, u, h1, _ => by simp at h1
  | a :: as, u :: us, h, 0, a', u', h1, h2 => by simp at h1 h2; subst h1; subst h2; exact h.1
  | a :: as, u :: us, h, i + 1, a', u', h1, h2 => Same.at h.2 i a' u' (by simpa using h1) (by simpa using h2)
  | [], _ :: _, h, _, _, _, _, _ => h.elim
  | _ :: _, [], h, _, _, _, _, _ => h.elim
theorem Same.one {a : AV} {u : Value} (h : CellRep w a u) : Same w [a] [u] := ⟨h, trivial⟩
/-- Cells below the heap's end. -/
theorem cell_lt {a : Addr} {v : Value} (h : w.cell? a = some v) : a.block < w.heap.size := by
  unfold World.cell? at h
  split at h
  · rename_i he
    exact (Array.getElem?_eq_some_iff.1 he).1
  · cases h
theorem cell_add {a : Addr} {n : Nat} {v : Value} (h : w.cell? (a.add n) = some v) (hs : a.spot = none) : w.cell? ⟨a.block, a.off + n, none⟩ = some v := by rw [← addr_add hs]; exact h
theorem add_block (a : Addr) (n : Nat) : (a.add n).block = a.block := by unfold Addr.add; split <;> rfl
theorem flat_same (hl : laidOutB P = true) : ∀ (d : Nat) (t : TypeId), plainT P d t = true → t < P.types.size →
    ∀ fuel cs x, DataW.trod enc P w 0 (fun _ => true) held fuel t cs = some x → cs.length = P.cellsOf t → ∃ as, Typed P d t as ∧ Same w as cs
  | 0, t, hp, _ => by simp [plainT] at hp
  | d + 1, t, hp, ht => by
    intro fuel cs x h hlen
    have hp' := hp
    unfold plainT at hp'
    unfold Typed
    split at hp'
    · rename_i hu
      obtain ⟨b, rfl, _⟩ := DataW.trod_bool hu h
      exact ⟨_, ⟨b, rfl⟩, Same.one ⟨.v _, rfl, rfl⟩⟩
    · rename_i k hu
      obtain ⟨n, rfl, _, hw⟩ := DataW.trod_int hu h
      simp only [Lit.wf, Bool.and_eq_true, decide_eq_true_eq] at hw
      exact ⟨_, ⟨n, rfl, hw⟩, Same.one ⟨.v _, rfl, rfl⟩⟩
    · rename_i hu
      obtain ⟨s, rfl, _, hw⟩ := DataW.trod_string hu h
      exact ⟨_, ⟨s, rfl, hw⟩, Same.one ⟨.v _, rfl, rfl⟩⟩
    · rename_i e hu
      simp only [Bool.and_eq_true, decide_eq_true_eq] at hp'
      obtain ⟨hpe, hpos⟩ := hp'
      have ih := flat_same hl d e hpe (kid_slice hl ht hu)
      rcases Go.Deep.open_slice hu h with ⟨rfl, _⟩ | ⟨a, len, cap, m, n, D, Pl, rfl, _, hle, hcap, hm, _, hel⟩
      · refine ⟨_, ⟨[], rfl, by simp, by simp⟩, Same.one ⟨?_, rfl, rfl⟩⟩
        exact .lst .no _ [] none 0 (fun _ _ => undef) (Nat.le_refl _) (fun i row h => by simp at h) (fun _ => rfl) (fun ad h => by cases h) (fun ad i row j x h => by cases h) (fun i row j x h => by simp at h) trivial
      · simp only [if_true] at hm
        subst hm
        have all : ∀ i, i < m → ∃ row : List AV, ∃ cs', w.cells? 0 (a.add (i * P.cellsOf e)) (P.cellsOf e) = some cs' ∧ Typed P d e row ∧ Same w row cs' := by
          intro i hi
          obtain ⟨cs', h1, h2⟩ := hel i hi
          have hcl : cs'.length = P.cellsOf e := by
            unfold World.cells? at h1
            split at h1
            · simpa using mapM_some_length h1
            · cases h1
          obtain ⟨row, h3, h4⟩ := ih n cs' _ h2 hcl
          exact ⟨row, cs', h1, h3, h4⟩
        obtain ⟨rf, hrf⟩ := Go.Deep.choose_lt all
        have cellAt : ∀ i, i < m → ∀ j, j < P.cellsOf e → ∃ v, w.cell? ((a.add (i * P.cellsOf e)).add j) = some v ∧ ∀ b, (rf i)[j]? = some b → CellRep w b v := by
          intro i hi j hj
          obtain ⟨cs', h1, h2, h3⟩ := hrf i hi
          unfold World.cells? at h1
          rw [if_pos (Nat.zero_le _)] at h1
          have hl2 : cs'.length = P.cellsOf e := by simpa using mapM_some_length h1
          have hg := mapM_some_get h1 j j (by simp [hj])
          rw [List.getElem?_eq_getElem (by omega)] at hg
          exact ⟨_, hg, fun b hb => h3.at j b _ hb (List.getElem?_eq_getElem (by omega))⟩
        have hspot : 0 < m → a.spot = none := by
          intro h0
          obtain ⟨v, hv, _⟩ := cellAt 0 h0 0 hpos
          simpa [Addr.add] using World.cell?_spot hv
        have cellAt' : ∀ i, i < m → ∀ j, j < P.cellsOf e → ∃ v, w.cell? ⟨a.block, a.off + i * P.cellsOf e + j, none⟩ = some v ∧ ∀ b, (rf i)[j]? = some b → CellRep w b v := by
          intro i hi j hj
          obtain ⟨v, hv, hr⟩ := cellAt i hi j hj
          rw [Go.Deep.add_add, addr_add (hspot (by omega)), ← Nat.add_assoc] at hv
          exact ⟨v, hv, hr⟩
        let rows : List (List AV) := (List.range len).map rf
        have hrl : rows.length = len := by simp [rows]
        have hrow : ∀ (i : Nat) row, rows[i]? = some row → i < len ∧ row = rf i := by
          intro i row hi
          simp only [rows, List.getElem?_map, Option.map_eq_some_iff] at hi
          obtain ⟨i', h1, h2⟩ := hi
          rw [List.getElem?_eq_some_iff] at h1
          obtain ⟨h3, h4⟩ := h1
          simp at h3 h4
          subst h4
          exact ⟨h3, h2.symm⟩
        have hlenr : ∀ i, i < m → (rf i).length = P.cellsOf e := by
          intro i hi
          obtain ⟨cs', h1, h2, h3⟩ := hrf i hi
          have hcl : cs'.length = P.cellsOf e := by
            unfold World.cells? at h1
            rw [if_pos (Nat.zero_le _)] at h1
            simpa using mapM_some_length h1
          rw [← hcl, h3.len]
        refine ⟨_, ⟨rows, rfl, by rw [hrl]; simp [maxLen] at hcap; omega, fun row hr => ?_⟩, Same.one ⟨?_, rfl, rfl⟩⟩
        · obtain ⟨i, hi, rfl⟩ := List.mem_map.1 hr
          exact (hrf i (by have := List.mem_range.1 hi; omega)).elim fun _ h => h.2.1
        · rw [← hrl]
          refine .lst .no _ rows (some a) m (fun i j => (w.cell? ⟨a.block, a.off + i * P.cellsOf e + j, none⟩).getD undef) (by omega) (fun i row hi => ?_) (fun e => by cases e) (fun ad had h0 => by cases had; exact hspot h0) (fun ad i row j x had h1 h2 => ?_) (fun i row j x h1 h2 => ?_) trivial
          · obtain ⟨h1, rfl⟩ := hrow i row hi
            refine ⟨hlenr i (by omega), ?_⟩
            rw [List.all_eq_true]
            intro b hb
            obtain ⟨j, hj⟩ := List.getElem?_of_mem hb
            have hjl : j < P.cellsOf e := by rw [← hlenr i (by omega)]; exact (List.getElem?_eq_some_iff.1 hj).1
            obtain ⟨v, _, hr⟩ := cellAt' i (by omega) j hjl
            exact (hr b hj).2.1
          · cases had
            obtain ⟨h3, rfl⟩ := hrow i row h1
            have hjl : j < P.cellsOf e := by rw [← hlenr i (by omega)]; exact (List.getElem?_eq_some_iff.1 h2).1
            obtain ⟨v, hv, hr⟩ := cellAt' i (by omega) j hjl
            refine ⟨(by have := cell_lt hv; exact this), ?_, ?_⟩
            · rw [hv]; rfl
            · rw [hv]; exact (hr x h2).2.2
          · obtain ⟨h3, rfl⟩ := hrow i row h1
            have hjl : j < P.cellsOf e := by rw [← hlenr i (by omega)]; exact (List.getElem?_eq_some_iff.1 h2).1
            obtain ⟨v, hv, hr⟩ := cellAt' i (by omega) j hjl
            rw [hv]
            exact (hr x h2).1
    · rename_i n e hu
      obtain ⟨xs, m, _, _, _, hxs, hel⟩ := DataW.trod_array hu h
      obtain ⟨het, hcells⟩ := kid_array hl ht hu
      have ih := flat_same hl d e hp' het
      have all : ∀ i, i < n → ∃ p : List AV, Typed P d e p ∧ Same w p ((cs.drop (i * P.cellsOf e)).take (P.cellsOf e)) := by
        intro i hi
        have h1 := hel i hi
        rw [List.getElem?_eq_getElem (by omega)] at h1
        refine ih m _ _ h1 ?_
        have : (i + 1) * P.cellsOf e ≤ n * P.cellsOf e := Nat.mul_le_mul_right _ hi
        rw [Nat.add_mul] at this
        simp
        omega
      obtain ⟨pf, hpf⟩ := Go.Deep.choose_lt all
      refine ⟨_, ⟨(List.range n).map pf, rfl, by simp, fun p hp => ?_⟩, ?_⟩
      · obtain ⟨i, hi, rfl⟩ := List.mem_map.1 hp
        exact (hpf i (List.mem_range.1 hi)).1
      · have go : ∀ k, k ≤ n → Same w ((List.range k).map pf).flatten (cs.take (k * P.cellsOf e)) := by
          intro k
          induction k with
          | zero => intro _; simp [Same]
          | succ k ih =>
            intro hk
            rw [List.range_succ, List.map_append, List.flatten_append, Nat.add_mul, Nat.one_mul, List.take_add]
            refine (ih (by omega)).app ?_
            simpa using (hpf k (by omega)).2
        have := go n (Nat.le_refl _)
        rwa [List.take_of_length_le (by omega)] at this
    · rename_i fs hu
      obtain ⟨xs, m, _, _, _, hxs, hel⟩ := DataW.trod_struct hu h
      obtain ⟨hty, htot, hoff⟩ := kid_struct hl ht hu
      rw [List.all_eq_true] at hp'
      have all : ∀ i, i < fs.toList.length → ∃ p : List AV, ∀ f, fs.toList[i]? = some f → Typed P d f.type p ∧ Same w p ((cs.drop f.offset).take (P.cellsOf f.type)) := by
        intro i hi
        have hmem : fs.toList[i] ∈ fs.toList := List.getElem_mem hi
        have h1 := hel i fs.toList[i] (by simp at hi ⊢)
        have hix : i < xs.length := by rw [hxs]; simpa using hi
        rw [List.getElem?_eq_getElem hix] at h1
        have ho := hoff i _ (List.getElem?_eq_getElem hi)
        obtain ⟨p, h2, h3⟩ := flat_same hl d _ (hp' _ hmem) (hty _ hmem) m _ _ h1 (by
          have hsum : ((fs.toList.take i).map fun f => P.cellsOf f.type).sum + P.cellsOf fs.toList[i].type ≤ (fs.toList.map fun f => P.cellsOf f.type).sum := by
            have e : fs.toList = fs.toList.take i ++ fs.toList[i] :: fs.toList.drop (i + 1) := by rw [← List.drop_eq_getElem_cons hi, List.take_append_drop]
            generalize fs.toList[i] = y at e ⊢
            generalize fs.toList.take i = l1 at e ⊢
            rw [e]
            simp
          rw [List.length_take, List.length_drop, ho]
          omega)
        exact ⟨p, fun f hf => by rw [List.getElem?_eq_getElem hi] at hf; cases hf; exact ⟨h2, h3⟩⟩
      obtain ⟨pf, hpf⟩ := Go.Deep.choose_lt all
      refine ⟨_, ⟨(List.range fs.toList.length).map pf, rfl, by simp, fun i f p hf hp => ?_⟩, ?_⟩
      · have hi := (List.getElem?_eq_some_iff.1 hf).1
        simp only [List.getElem?_map, Option.map_eq_some_iff] at hp
        obtain ⟨i', h1, h2⟩ := hp
        rw [List.getElem?_eq_some_iff] at h1
        obtain ⟨h3, h4⟩ := h1
        simp at h4
        subst h4
        subst h2
        exact (hpf i hi f hf).1
      · have go : ∀ k, k ≤ fs.toList.length → Same w ((List.range k).map pf).flatten (cs.take ((fs.toList.take k).map fun f => P.cellsOf f.type).sum) := by
          intro k
          induction k with
          | zero => intro _; simp [Same]
          | succ k ih =>
            intro hk
            have hi : k < fs.toList.length := hk
            have e1 : ((fs.toList.take (k + 1)).map fun f => P.cellsOf f.type).sum = ((fs.toList.take k).map fun f => P.cellsOf f.type).sum + P.cellsOf fs.toList[k].type := by
              rw [List.take_add_one, List.getElem?_eq_getElem hi]
              simp
            rw [List.range_succ, List.map_append, List.flatten_append, e1, List.take_add]
            refine (ih (by omega)).app ?_
            have := (hpf k hi _ (List.getElem?_eq_getElem hi)).2
            rw [hoff k _ (List.getElem?_eq_getElem hi)] at this
            simpa using this
        have := go fs.toList.length (Nat.le_refl _)
        rw [List.take_length, ← htot, ← hlen, List.take_length] at this
        exact this
    · cases hp'
end
end Go.Proofs.Ytojaokhkbmiidaa.Ev
