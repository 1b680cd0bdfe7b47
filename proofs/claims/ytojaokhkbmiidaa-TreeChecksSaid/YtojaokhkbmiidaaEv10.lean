/- Lists: literals, appending. Sound. -/
import Derived.Test.YtojaokhkbmiidaaEv9
namespace Go.Proofs.Ytojaokhkbmiidaa.Ev
open Go
set_option linter.unusedVariables false
set_option linter.unusedSimpArgs false
section
variable {P : Program} {φ : Phi} {m : Mem} {w : World}

/-! ### a list's cells, as one row -/
def RowsAt (φ : Phi) (m : Mem) (w : World) (sz : Nat) (rows : List (List AV)) (f : Nat → Value) : Prop :=
  (∀ (i : Nat) row, rows[i]? = some row → row.length = sz ∧ row.all isRow = true) ∧
  ∀ (i : Nat) row (j : Nat) x, rows[i]? = some row → row[j]? = some x → Rep φ m w x (f (i * sz + j)) ∧ one (f (i * sz + j)) = true
def CellsIm (φ : Phi) (w : World) (ad : Addr) (n : Nat) (f : Nat → Value) : Prop :=
  ∀ k, k < n → φ.im ad.block (ad.off + k) ∧ w.cell? ⟨ad.block, ad.off + k, none⟩ = some (f k)
theorem RowsAt.mono {φ' m' w' sz rows f} (h : RowsAt φ m w sz rows f) (hx : Ext φ m w φ' m' w') : RowsAt φ' m' w' sz rows f :=
  ⟨h.1, fun i row j x h1 h2 => ⟨(h.2 i row j x h1 h2).1.mono hx, (h.2 i row j x h1 h2).2⟩⟩
theorem CellsIm.mono {φ' m' w' ad n f} (h : CellsIm φ w ad n f) (hx : Ext φ m w φ' m' w') : CellsIm φ' w' ad n f :=
  fun k hk => ⟨(hx.im _ _ (h k hk).1).1, (hx.im _ _ (h k hk).1).2.trans (h k hk).2⟩
theorem lst_cells {g : Grow} {sz : Nat} {rows : List (List AV)} {v : Value} (h : Rep φ m w (.lst g sz rows) v) :
    ∃ a c f, v = .slice a rows.length c ∧ rows.length ≤ c ∧ (a = none → c = 0) ∧ (∀ ad, a = some ad → 0 < c → ad.spot = none) ∧ RowsAt φ m w sz rows f ∧ (∀ ad, a = some ad → CellsIm φ w ad (rows.length * sz) f) ∧ growOk φ m g a rows.length c sz := by
  cases h with
  | lst _ _ _ a c val hc hr ha hs hcell hrep hg =>
    refine ⟨a, c, fun k => val (k / sz) (k % sz), rfl, hc, ha, hs, ⟨hr, fun i row j x h1 h2 => ?_⟩, fun ad had k hk => ?_, hg⟩
    · have hj : j < sz := by rw [← (hr i row h1).1]; exact (List.getElem?_eq_some_iff.1 h2).1
      have e1 : (i * sz + j) / sz = i := by rw [Nat.mul_comm, Nat.mul_add_div (by omega)]; simp [Nat.div_eq_of_lt hj]
      have e2 : (i * sz + j) % sz = j := by rw [Nat.mul_comm, Nat.mul_add_mod]; exact Nat.mod_eq_of_lt hj
      simp only [e1, e2]
      refine ⟨hrep i row j x h1 h2, ?_⟩
      cases a with
      | none => have := ha rfl; have := (List.getElem?_eq_some_iff.1 h1).1; omega
      | some ad => exact (hcell ad i row j x rfl h1 h2).2.2
    · have hsz : 0 < sz := Nat.pos_of_ne_zero (fun e => by subst e; simp at hk)
      have hi : k / sz < rows.length := by rw [Nat.div_lt_iff_lt_mul hsz]; exact hk
      have hrow := List.getElem?_eq_getElem hi
      have hl := (hr _ _ hrow).1
      have hj : k % sz < (rows[k / sz]).length := by rw [hl]; exact Nat.mod_lt _ hsz
      obtain ⟨g1, g2, _⟩ := hcell ad (k / sz) _ (k % sz) _ had hrow (List.getElem?_eq_getElem hj)
      have e : ad.off + k / sz * sz + k % sz = ad.off + k := by have := Nat.div_add_mod k sz; rw [Nat.mul_comm] at this; omega
      rw [e] at g1 g2
      exact ⟨g1, g2⟩
theorem lst_mk {g : Grow} {sz : Nat} {rows : List (List AV)} {a : Option Addr} {c n : Nat} {f : Nat → Value} (hn : n = rows.length) (hc : rows.length ≤ c) (ha : a = none → c = 0) (hs : ∀ ad, a = some ad → 0 < c → ad.spot = none)
    (hr : RowsAt φ m w sz rows f) (hcell : ∀ ad, a = some ad → CellsIm φ w ad (rows.length * sz) f) (hg : growOk φ m g a rows.length c sz) : Rep φ m w (.lst g sz rows) (.slice a n c) := by
  subst hn
  refine .lst g sz rows a c (fun i j => f (i * sz + j)) hc hr.1 ha hs (fun ad i row j x had h1 h2 => ?_) (fun i row j x h1 h2 => (hr.2 i row j x h1 h2).1) hg
  have hi := (List.getElem?_eq_some_iff.1 h1).1
  have hj : j < sz := by rw [← (hr.1 i row h1).1]; exact (List.getElem?_eq_some_iff.1 h2).1
  have hk : i * sz + j < rows.length * sz := by
    have : (i + 1) * sz ≤ rows.length * sz := Nat.mul_le_mul_right _ hi
    rw [Nat.add_mul] at this
    omega
  obtain ⟨g1, g2⟩ := hcell ad had _ hk
  rw [Nat.add_assoc]
  exact ⟨g1, g2, (hr.2 i row j x h1 h2).2⟩
theorem rowsAt_append {sz : Nat} {xs ys : List (List AV)} {f g : Nat → Value} (hx : RowsAt φ m w sz xs f) (hy : RowsAt φ m w sz ys g) :
    RowsAt φ m w sz (xs ++ ys) (fun k => if k < xs.length * sz then f k else g (k - xs.length * sz)) := by
  have inx : ∀ (i : Nat) row (j : Nat) x, xs[i]? = some row → row[j]? = some x → i * sz + j < xs.length * sz := fun i row j x h1 h2 => by
    have hi := (List.getElem?_eq_some_iff.1 h1).1
    have hj : j < sz := by rw [← (hx.1 i row h1).1]; exact (List.getElem?_eq_some_iff.1 h2).1
    have : (i + 1) * sz ≤ xs.length * sz := Nat.mul_le_mul_right _ hi
    rw [Nat.add_mul] at this
    omega
  refine ⟨fun i row h1 => ?_, fun i row j x h1 h2 => ?_⟩
  · rw [List.getElem?_append] at h1
    split at h1
    · exact hx.1 i row h1
    · exact hy.1 _ row h1
  · rw [List.getElem?_append] at h1
    dsimp only
    split at h1
    · rw [if_pos (inx i row j x h1 h2)]
      exact hx.2 i row j x h1 h2
    · rename_i hi
      have e : i * sz + j - xs.length * sz = (i - xs.length) * sz + j := by rw [Nat.sub_mul]; have : xs.length * sz ≤ i * sz := Nat.mul_le_mul_right _ (by omega); omega
      have : xs.length * sz ≤ i * sz := Nat.mul_le_mul_right _ (by omega)
      rw [if_neg (by omega), e]
      exact hy.2 _ row j x h1 h2

/-! ### literals -/
theorem fill_rows (k : Nat) : ∀ (ps : List (Nat × AV)) (vs : List (Nat × Value)) (j : Nat) (rows : List (List AV)) (arr : Array Value), PartsRep φ m w ps vs → evRows k j ps = some rows → (j + ps.length) * k ≤ arr.size →
    ∃ arr', Instr.fill (fun i => some (i * k, k)) arr vs = some arr' ∧ arr'.size = arr.size ∧ (∀ q, q < j * k → arr'[q]? = arr[q]?) ∧ rows.length = ps.length ∧
      ∀ (i : Nat) row, rows[i]? = some row → (row.length = k ∧ row.all isRow = true) ∧ ∀ (q : Nat) x, row[q]? = some x → ∃ u, arr'[(j + i) * k + q]? = some u ∧ Rep φ m w x u ∧ one u = true
  | [], [], j, rows, arr, _, h, _ => by
    simp only [evRows, Option.some.injEq] at h
    subst h
    exact ⟨arr, rfl, rfl, fun _ _ => rfl, rfl, fun i row h => by simp at h⟩
  | (i, x) :: ps, (vi, vx) :: vs, j, rows, arr, hp, h, hsz => by
    obtain ⟨h1, h2, h3⟩ := hp.tail
    simp only [evRows] at h
    split at h
    · rename_i row hrow
      split at h
      · rename_i hc
        obtain ⟨rfl, hk⟩ := hc
        simp only at h1
        subst h1
        cases hrest : evRows k (vi + 1) ps with
        | none => simp [hrest] at h
        | some rows' =>
          simp only [hrest, Option.map_some, Option.some.injEq] at h
          subst h
          obtain ⟨hreps, hone⟩ := row_of h2 hrow
          have hvk : vx.cells.size = k := by rw [hreps.1]; exact hk
          have hm : (vi + (ps.length + 1)) * k = vi * k + k + ps.length * k := by rw [Nat.add_mul, Nat.add_mul]; omega
          simp only [List.length_cons] at hsz
          have e : vx.cells.zipIdx.foldl (fun cs (p : Value × Nat) => cs.setIfInBounds (vi * k + p.2) p.1) arr = (vx.cells.toList.zipIdx 0).foldl (fun cs (p : Value × Nat) => cs.setIfInBounds (vi * k + p.2) p.1) arr := by
            rw [← Array.foldl_toList, Array.toList_zipIdx]
          obtain ⟨s1, s2⟩ := foldl_set (vi * k) vx.cells.toList 0 arr
          rw [← e] at s1 s2
          obtain ⟨arr', r1, r2, r3, r4, r5⟩ := fill_rows k ps vs (vi + 1) rows' _ h3 hrest (by rw [s1, Nat.add_mul, Nat.add_mul]; omega)
          refine ⟨arr', ?_, by rw [r2, s1], fun q hq => ?_, by simp [r4], fun i row' hi => ?_⟩
          · simp only [Instr.fill]
            rw [if_neg (by simp [hvk]; omega)]
            exact r1
          · rw [r3 q (by rw [Nat.add_mul]; omega), s2, if_neg (by omega)]
          · cases i with
            | zero =>
              simp at hi
              subst hi
              refine ⟨⟨hk, rowOf_isRow hrow⟩, fun q x' hx => ?_⟩
              have hq : q < k := by rw [← hk]; exact (List.getElem?_eq_some_iff.1 hx).1
              have hqv : q < vx.cells.size := by omega
              refine ⟨vx.cells[q], ?_, hreps.2 q x' _ hx (Array.getElem?_eq_getElem hqv), hone q _ (Array.getElem?_eq_getElem hqv)⟩
              rw [Nat.add_zero, r3 _ (by rw [Nat.add_mul]; omega), s2]
              simp only [Nat.add_zero, Array.length_toList]
              rw [if_pos ⟨by omega, by omega, by omega⟩, show vi * k + q - vi * k = q by omega]
              simp [hqv]
            | succ i =>
              obtain ⟨g1, g2⟩ := r5 i row' (by simpa using hi)
              refine ⟨g1, fun q x' hx => ?_⟩
              obtain ⟨u, u1, u2⟩ := g2 q x' hx
              exact ⟨u, by rw [show vi + (i + 1) = vi + 1 + i by omega]; exact u1, u2⟩
      · cases h
    · cases h
  | [], _ :: _, _, _, _, hp, _, _ => by have := hp.1; simp at this
  | _ :: _, [], _, _, _, hp, _, _ => by have := hp.1; simp at this
theorem buildSlice_sound (hR : RM φ m w) {t : TypeId} {n : Nat} {ps : List (Nat × AV)} {vs : Array (Nat × Value)} {a : AV} (hp : PartsRep φ m w ps vs.toList) (h : evBuildSlice P t n ps = some a) :
    ∃ y w' φ', (Instr.buildSlice t n vs).run P w = .ok y w' ∧ RM φ' m w' ∧ Ext φ m w φ' m w' ∧ Rep φ' m w' a y := by
  unfold evBuildSlice at h
  split at h
  · rename_i e he
    split at h
    · rename_i k z hk hz
      split at h
      · rename_i rows hrows
        split at h
        · rename_i hc
          obtain ⟨hn, hlim, hzk⟩ := hc
          simp only [Option.some.injEq] at h
          subst h
          obtain ⟨zv, hzr, hzreps⟩ := rep_zero (P := P) (φ := φ) (m := m) (w := w) hz
          have hps : rows.length = ps.length := by
            have : ∀ (ps : List (Nat × AV)) j rows, evRows k j ps = some rows → rows.length = ps.length := by
              intro ps
              induction ps with
              | nil => intro j rows h; simp only [evRows, Option.some.injEq] at h; subst h; rfl
              | cons p ps ih =>
                intro j rows h
                simp only [evRows] at h
                split at h
                · split at h
                  · cases hr : evRows k (j + 1) ps with
                    | none => simp [hr] at h
                    | some r => simp only [hr, Option.map_some, Option.some.injEq] at h; subst h; simp [ih _ _ hr]
                  · cases h
                · cases h
            exact this _ _ _ hrows
          -- the row that is filled
          have main : ∀ z0 : Array Value, ∃ arr', Instr.fill (fun i => some (i * k, k)) ((Array.range (n * k)).map (z0[· % z0.size]!)) vs.toList = some arr' ∧
              ∃ φ', RM φ' m (w.alloc (.cells arr' e)) ∧ Ext φ m w φ' m (w.alloc (.cells arr' e)) ∧ Rep φ' m (w.alloc (.cells arr' e)) (.lst .full k rows) (.slice (some ⟨w.heap.size, 0, none⟩) n n) := by
            intro z0
            obtain ⟨arr', r1, r2, _, _, r5⟩ := fill_rows (φ := φ) (m := m) (w := w) k ps vs.toList 0 rows ((Array.range (n * k)).map (z0[· % z0.size]!)) hp hrows (by rw [show ps.length = n by omega]; simp)
            obtain ⟨hR', hE'⟩ := alloc_row hR arr' e
            refine ⟨arr', r1, _, hR', hE', ?_⟩
            refine lst_mk (f := fun q => arr'.getD q undef) hn.symm (by omega) (fun e => by cases e) (fun ad e _ => by cases e; rfl) ⟨fun i row hi => (r5 i row hi).1, fun i row j x h1 h2 => ?_⟩ (fun ad had => ?_) (show rows.length = n from hn)
            · obtain ⟨u, u1, u2, u3⟩ := (r5 i row h1).2 j x h2
              rw [Nat.zero_add] at u1
              have : arr'.getD (i * k + j) undef = u := by rw [Array.getD_eq_getD_getElem?, u1]; rfl
              dsimp only
              rw [this]
              exact ⟨u2.mono hE', u3⟩
            · cases had
              intro q hq
              refine ⟨.inr rfl, ?_⟩
              have hq' : q < arr'.size := by rw [r2]; simp; rw [← hn]; exact hq
              simp only [World.cell?, heap_alloc_new]
              simp [Array.getD, hq']
          have hlim' : ¬ (n * k > 2 ^ 24) := by omega
          by_cases h0 : n * k = 0
          · obtain ⟨arr', f1, φ', g1, g2, g3⟩ := main #[]
            refine ⟨_, _, φ', ?_, g1, g2, g3⟩
            simp only [Instr.buildSlice, Sem.run_bind, run_underlying' (elem_under he), Result.andThen_ok, run_sizeOf' hk, Sem.run_ite, if_neg hlim', if_pos h0, Sem.run_pure, f1]
            simp [newRow, World.alloc, -World.alloc_eq]
          · obtain ⟨arr', f1, φ', g1, g2, g3⟩ := main zv.cells
            refine ⟨_, _, φ', ?_, g1, g2, g3⟩
            simp only [Instr.buildSlice, Sem.run_bind, run_underlying' (elem_under he), Result.andThen_ok, run_sizeOf' hk, Sem.run_ite, if_neg hlim', if_neg h0, hzr, Sem.run_pure, f1]
            simp [newRow, World.alloc, -World.alloc_eq]
        · cases h
      · cases h
    · cases h
  · cases h
end
end Go.Proofs.Ytojaokhkbmiidaa.Ev
