/- Values built out of parts, lists' rows: sound. -/
import Derived.Test.YtojaokhkbmiidaaEv8
namespace Go.Proofs.Ytojaokhkbmiidaa.Ev
open Go
set_option linter.unusedVariables false
set_option linter.unusedSimpArgs false
section
variable {P : Program} {φ : Phi} {m : Mem} {w : World}

/-! ### cells of a value -/
theorem okCell_one {a : AV} {x : Value} (h : Rep φ m w a x) (hok : okCell a = true) : one x = true := by
  cases h <;> simp_all [okCell, one]
theorem cells_of {a : AV} {x : Value} {cs : List AV} (h : Rep φ m w a x) (hc : cellsOf a = some cs) : Reps φ m w cs x.cells ∧ cs.all okCell = true := by
  unfold cellsOf at hc
  split at hc
  · rename_i hok
    simp only [Option.some.injEq] at hc
    subst hc
    refine ⟨?_, hok⟩
    have single : ∀ a x, Rep φ m w a x → one x = true → Reps φ m w [a] x.cells := fun a x h ho => by
      have e : x.cells = #[x] := by cases x <;> simp_all [one, Value.cells]
      rw [e]
      refine ⟨rfl, fun i b u h1 h2 => ?_⟩
      cases i with
      | zero => simp at h1 h2; subst h1; subst h2; exact h
      | succ i => simp at h1
    cases h with
    | agg cs arr hn hr => exact ⟨hn, hr⟩
    | junk x => simp [flat, okCell] at hok
    | v x => exact single _ _ (.v x) (by simpa [flat, okCell] using hok)
    | tup cs arr hn hr => simp [flat, okCell] at hok
    | lst g sz rows a c val h1 h2 h3 h4 h5 h6 h7 => exact single _ _ (.lst g sz rows a c val h1 h2 h3 h4 h5 h6 h7) rfl
    | ptr r off cs h => exact single _ _ (.ptr r off cs h) rfl
    | eptr cs ad val h1 h2 h3 => simp [flat, okCell] at hok
    | vs r off sz n c cs h1 h2 h3 => exact single _ _ (.vs r off sz n c cs h1 h2 h3) rfl
    | fn f a b c d h1 h2 h3 h4 => exact single _ _ (.fn f a b c d h1 h2 h3 h4) rfl
  · cases hc
theorem rep_rowCell {a b : AV} {x : Value} (h : Rep φ m w a x) (hb : rowCell a = some b) : Rep φ m w b x ∧ one x = true := by
  unfold rowCell at hb
  split at hb
  · split at hb
    · rename_i ho
      simp only [Option.some.injEq] at hb
      subst hb
      cases h
      exact ⟨.v _, ho⟩
    · cases hb
  · simp only [Option.some.injEq] at hb
    subst hb
    cases h with
    | lst g sz rows a c val h1 h2 h3 h4 h5 h6 h7 => exact ⟨.lst .no _ _ a c val h1 h2 h3 h4 h5 h6 trivial, rfl⟩
  · cases hb
theorem mapM_spec {α β : Type} {f : α → Option β} : ∀ {l : List α} {r : List β}, l.mapM f = some r → r.length = l.length ∧ ∀ (i : Nat) b, r[i]? = some b → ∃ a, l[i]? = some a ∧ f a = some b
  | [], r, h => by simp at h; subst h; exact ⟨rfl, fun i b h => by simp at h⟩
  | a :: l, r, h => by
    simp only [List.mapM_cons, Option.bind_eq_bind, Option.bind_eq_some_iff] at h
    obtain ⟨b, hb, r', hr', h⟩ := h
    simp only [Option.pure_def, Option.some.injEq] at h
    subst h
    obtain ⟨h1, h2⟩ := mapM_spec hr'
    refine ⟨by simp [h1], fun i c hc => ?_⟩
    cases i with
    | zero => simp at hc; subst hc; exact ⟨a, rfl, hb⟩
    | succ i => exact h2 i c (by simpa using hc)
theorem flat_reps {a : AV} {x : Value} (h : Rep φ m w a x) (hne : ∀ cs, a = .agg cs ∨ ∃ b, rowCell a = some b) : Reps φ m w (flat a) x.cells := by
  rcases hne [] with e | ⟨b, hb⟩
  · subst e
    cases h with
    | agg cs arr hn hr => exact ⟨hn, hr⟩
  · have ho := (rep_rowCell h hb).2
    have e : x.cells = #[x] := by cases x <;> simp_all [one, Value.cells]
    rw [e]
    have ef : flat a = [a] := by cases a <;> simp_all [rowCell, flat]
    rw [ef]
    refine ⟨rfl, fun i b u h1 h2 => ?_⟩
    cases i with
    | zero => simp at h1 h2; subst h1; subst h2; exact h
    | succ i => simp at h1
theorem rowOf_isRow {a : AV} {row : List AV} (hr : rowOf a = some row) : row.all isRow = true := by
  rw [List.all_eq_true]
  intro b hb
  obtain ⟨i, hi⟩ := List.getElem?_of_mem hb
  obtain ⟨c, hc, h⟩ := (mapM_spec hr).2 i b hi
  unfold rowCell at h
  split at h
  · split at h
    · cases h; rfl
    · cases h
  · cases h; rfl
  · cases h
theorem row_of {a : AV} {x : Value} {row : List AV} (h : Rep φ m w a x) (hr : rowOf a = some row) : Reps φ m w row x.cells ∧ ∀ (i : Nat) u, x.cells[i]? = some u → one u = true := by
  unfold rowOf at hr
  obtain ⟨h1, h2⟩ := mapM_spec hr
  have hf : Reps φ m w (flat a) x.cells := by
    cases h with
    | agg cs arr hn hr2 => exact ⟨hn, hr2⟩
    | _ =>
      refine flat_reps (by constructor <;> assumption) (fun _ => .inr ?_)
      simp only [flat, List.mapM_cons, List.mapM_nil] at hr
      cases hc : rowCell _ with
      | none => simp [hc] at hr
      | some b => exact ⟨b, rfl⟩
  refine ⟨⟨by rw [h1]; exact hf.1, fun i b u e1 e2 => ?_⟩, fun i u e2 => ?_⟩
  · obtain ⟨c, hc, hb⟩ := h2 i b e1
    exact (rep_rowCell (hf.2 i c u hc e2) hb).1
  · have hlt : i < row.length := by
      rw [h1, ← hf.1]
      exact (Array.getElem?_eq_some_iff.1 e2).1
    obtain ⟨c, hc, hb⟩ := h2 i _ (List.getElem?_eq_getElem hlt)
    exact (rep_rowCell (hf.2 i c u hc e2) hb).2

/-! ### the model's own filling -/
theorem foldl_set (off : Nat) : ∀ (l : List Value) (k : Nat) (cells : Array Value),
    ((l.zipIdx k).foldl (fun cs (p : Value × Nat) => cs.setIfInBounds (off + p.2) p.1) cells).size = cells.size ∧
    ∀ i : Nat, ((l.zipIdx k).foldl (fun cs (p : Value × Nat) => cs.setIfInBounds (off + p.2) p.1) cells)[i]? =
      if off + k ≤ i ∧ i < off + k + l.length ∧ i < cells.size then l[i - (off + k)]? else cells[i]?
  | [], k, cells => by simp; intro i h1 h2; omega
  | v :: l, k, cells => by
    obtain ⟨h1, h2⟩ := foldl_set off l (k + 1) (cells.setIfInBounds (off + k) v)
    simp only [List.zipIdx_cons, List.foldl_cons]
    refine ⟨by rw [h1]; simp, fun i => ?_⟩
    rw [h2]
    simp only [Array.size_setIfInBounds, List.length_cons]
    by_cases c1 : off + (k + 1) ≤ i ∧ i < off + (k + 1) + l.length ∧ i < cells.size
    · rw [if_pos c1, if_pos ⟨by omega, by omega, c1.2.2⟩]
      obtain ⟨q, hq⟩ : ∃ q, i - (off + k) = q + 1 := ⟨i - (off + k) - 1, by omega⟩
      rw [hq]
      simp
      congr 1
      omega
    · rw [if_neg c1]
      by_cases c2 : i = off + k
      · subst c2
        by_cases c3 : off + k < cells.size
        · rw [if_pos ⟨by omega, by omega, c3⟩]
          simp [c3]
        · rw [if_neg (by omega)]
          simp [Array.getElem?_eq_none (Nat.le_of_not_lt c3)]
          omega
      · rw [if_neg (by omega), Array.getElem?_setIfInBounds_ne (Ne.symm c2)]
theorem set_reps {cells : List AV} {arr : Array Value} (h : Reps φ m w cells arr) {cs : List AV} {v : Value} (hc : Reps φ m w cs v.cells) {off : Nat} (hfit : off + cs.length ≤ cells.length) :
    Reps φ m w (splice cells off cs) (v.cells.zipIdx.foldl (fun cs (p : Value × Nat) => cs.setIfInBounds (off + p.2) p.1) arr) := by
  have e : v.cells.zipIdx.foldl (fun cs (p : Value × Nat) => cs.setIfInBounds (off + p.2) p.1) arr = (v.cells.toList.zipIdx 0).foldl (fun cs (p : Value × Nat) => cs.setIfInBounds (off + p.2) p.1) arr := by
    rw [← Array.foldl_toList, Array.toList_zipIdx]
  rw [e]
  obtain ⟨h1, h2⟩ := foldl_set off v.cells.toList 0 arr
  refine ⟨by rw [h1, splice_length hfit]; exact h.1, fun i a u e1 e2 => ?_⟩
  rw [h2] at e2
  unfold splice at e1
  rw [getElem?_splice hfit] at e1
  have hl : v.cells.toList.length = cs.length := by simpa using hc.1
  split at e1
  · rename_i c
    rw [if_pos ⟨by omega, by omega, by rw [h.1]; omega⟩] at e2
    exact hc.2 _ a u e1 (by simpa using e2)
  · rename_i c
    split at e2
    · omega
    · exact h.2 i a u e1 e2
/-- Values beside their abstract values, at the same numbers. -/
def PartsRep (φ : Phi) (m : Mem) (w : World) (ps : List (Nat × AV)) (vs : List (Nat × Value)) : Prop :=
  vs.length = ps.length ∧ ∀ (i : Nat) p v, ps[i]? = some p → vs[i]? = some v → v.1 = p.1 ∧ Rep φ m w p.2 v.2
theorem PartsRep.tail {p v ps vs} (h : PartsRep φ m w (p :: ps) (v :: vs)) : v.1 = p.1 ∧ Rep φ m w p.2 v.2 ∧ PartsRep φ m w ps vs :=
  ⟨(h.2 0 p v rfl rfl).1, (h.2 0 p v rfl rfl).2, by simpa using h.1, fun i p v h1 h2 => h.2 (i + 1) p v (by simpa using h1) (by simpa using h2)⟩
theorem fill_sound {place : Nat → Option (Nat × Nat)} : ∀ (ps : List (Nat × AV)) (vs : List (Nat × Value)) (cells r : List AV) (arr : Array Value), PartsRep φ m w ps vs → Reps φ m w cells arr → evBuildFill place cells ps = some r →
    ∃ arr', Instr.fill place arr vs = some arr' ∧ Reps φ m w r arr'
  | [], [], cells, r, arr, _, hc, h => by simp only [evBuildFill, Option.some.injEq] at h; subst h; exact ⟨arr, rfl, hc⟩
  | (i, x) :: ps, v :: vs, cells, r, arr, hp, hc, h => by
    obtain ⟨h1, h2, h3⟩ := hp.tail
    simp only [evBuildFill] at h
    split at h
    · rename_i off k cs hpl hcs
      split at h
      · rename_i hf
        obtain ⟨e1, e2⟩ := hf
        obtain ⟨hcv, _⟩ := cells_of h2 hcs
        obtain ⟨arr', hr, hrr⟩ := fill_sound ps vs _ r _ h3 (set_reps hc hcv (off := off) (by omega)) h
        obtain ⟨vi, vx⟩ := v
        simp only at h1
        subst h1
        refine ⟨arr', ?_, hrr⟩
        simp only [Instr.fill, hpl]
        have g1 : vx.cells.size = k := by rw [hcv.1]; exact e1
        have g2 : off + vx.cells.size ≤ arr.size := by rw [hc.1, hcv.1]; omega
        rw [if_neg (by simp [g1]; omega)]
        exact hr
      · cases h
    · cases h
  | [], _ :: _, _, _, _, hp, _, _ => by have := hp.1; simp at this
  | _ :: _, [], _, _, _, hp, _, _ => by have := hp.1; simp at this
end
end Go.Proofs.Ytojaokhkbmiidaa.Ev
