/- The evaluator's operations that leave the memory alone: each comes, in the model, to a value that its abstract value stands for. -/
import Derived.Test.YtojaokhkbmiidaaEv3
import Derived.Laws.Sem
import Derived.Laws.Cells
import Derived.Laws.Append
import Derived.Laws.CopyRow
namespace Go.Proofs.Ytojaokhkbmiidaa.Ev
open Go
set_option linter.unusedVariables false
set_option linter.unusedSimpArgs false
section
variable {P : Program} {φ : Phi} {m : Mem} {w : World}

theorem run_sizeOf' {t : TypeId} {k : Nat} (h : tSize P t = some k) (w : World) : (sizeOf t).run P w = .ok k w := by
  unfold tSize at h
  cases hi : P.info? t with
  | none => simp [hi] at h
  | some i => simp [hi] at h; simp [sizeOf, typeInfo, hi, h]
theorem run_underlying' {t : TypeId} {d : TypeDesc} (h : P.underlying t = some d) (w : World) : (underlying t).run P w = .ok d w := by
  simp [underlying, h]
theorem run_isAgg' {t : TypeId} {b : Bool} (h : tAgg P t = some b) (w : World) : (isAgg t).run P w = .ok b w := by
  unfold tAgg at h
  cases hu : P.underlying t with
  | none => simp [hu] at h
  | some d =>
    simp only [isAgg, Sem.run_bind, run_underlying' hu, Result.andThen_ok]
    cases d <;> simp [hu] at h <;> subst h <;> rfl
theorem elem_under {t e : TypeId} (h : tElem P t = some e) : P.underlying t = some (.slice e) := by
  unfold tElem at h
  split at h
  · rename_i e' hu; simp only [Option.some.injEq] at h; subst h; exact hu
  · cases h
theorem arr_under {t : TypeId} {n : Nat} {e : TypeId} (h : tArr P t = some (n, e)) : P.underlying t = some (.array n e) := by
  unfold tArr at h
  split at h
  · rename_i n' e' hu; simp only [Option.some.injEq, Prod.mk.injEq] at h; obtain ⟨rfl, rfl⟩ := h; exact hu
  · cases h
theorem str_under {t : TypeId} (h : tStr P t = true) : P.underlying t = some .string := by
  unfold tStr at h
  split at h
  · assumption
  · cases h
theorem bool_under {t : TypeId} (h : tBool P t = true) : P.underlying t = some .bool := by
  unfold tBool at h
  split at h
  · assumption
  · cases h
theorem int_under {t : TypeId} {k : IntKind} (h : tInt P t = some k) : P.underlying t = some (.int k) := by
  unfold tInt at h
  split at h
  · rename_i k' hu; simp only [Option.some.injEq] at h; subst h; exact hu
  · cases h

/-! ### operands -/
theorem rep_constCell (t : TypeId) (x : Value) : Rep φ m w (constCell P t x) x := by
  unfold constCell
  split
  · split
    · exact .lst .full _ [] none 0 (fun _ _ => undef) (Nat.le_refl _) (fun i row h => by simp at h) (fun _ => rfl) (fun ad h _ => by cases h) (fun ad i row j x h => by cases h) (fun i row j x h => by simp at h) rfl
    · exact .v _
  · exact .v _
theorem reps_constCells (t : TypeId) (vs : List Value) : (constCells P t vs).length = vs.length ∧ ∀ (i : Nat) a u, (constCells P t vs)[i]? = some a → vs[i]? = some u → Rep φ m w a u := by
  have plain : (vs.map AV.v).length = vs.length ∧ ∀ (i : Nat) a u, (vs.map AV.v)[i]? = some a → vs[i]? = some u → Rep φ m w a u := by
    refine ⟨by simp, fun i a u h1 h2 => ?_⟩
    simp [h2] at h1
    subst h1
    exact .v _
  unfold constCells
  split
  · split
    · rename_i ts _ hl
      refine ⟨by simp [hl], fun i a u h1 h2 => ?_⟩
      rw [List.getElem?_zipWith] at h1
      split at h1
      · rename_i t' u' e1 e2
        rw [h2] at e2
        simp only [Option.some.injEq] at h1 e2
        subst e2; subst h1
        exact rep_constCell _ _
      · cases h1
    · exact plain
  · exact plain
theorem rep_constAV (t : TypeId) (x : Value) : Rep φ m w (constAV P t x) x := by
  unfold constAV
  split
  · rename_i cs
    obtain ⟨h1, h2⟩ := reps_constCells (P := P) (φ := φ) (m := m) (w := w) t cs.toList
    exact .agg _ _ (by simp [h1]) (fun i a u e1 e2 => h2 i a u e1 (by simpa using e2))
  · exact rep_constCell _ _
theorem rep_opd {e : Env} {a : Act} (h : EnvRep φ m w e a.tmps) (t : TypeId) (x : Operand) : Rep φ m w (opd P e t x) (a.eval x) := by
  cases x with
  | tmp s => exact h s
  | const v => exact rep_constAV t v
  | func f => exact .fn _ _ _ _ _ rfl rfl (fun i a u h => by simp at h) (fun i a u h => by simp at h)
  | global g => exact .junk _
theorem rep_zero {t : TypeId} {z : List AV} (h : zeroCells P t = some z) : ∃ v, (zeroValue t).run P w = .ok v w ∧ Reps φ m w z v.cells := by
  unfold zeroCells at h
  cases hi : P.info? t with
  | none => simp [hi] at h
  | some i =>
    simp only [hi] at h
    cases hz : i.zero with
    | none => simp [hz] at h
    | some v =>
      simp only [hz, Option.map_some, Option.some.injEq] at h
      subst h
      refine ⟨v, by simp [zeroValue, typeInfo, hi, hz], ?_⟩
      obtain ⟨h1, h2⟩ := reps_constCells (P := P) (φ := φ) (m := m) (w := w) t v.cells.toList
      exact ⟨by simp [h1], fun i a u e1 e2 => h2 i a u e1 (by simpa using e2)⟩

/-! ### loads -/
/-- These cells lie from an address on. -/
def CellsAt (φ : Phi) (m : Mem) (w : World) (cs : List AV) (ad : Addr) : Prop :=
  ad.spot = none ∧ ∃ val : Nat → Value, ∀ (j : Nat) x, cs[j]? = some x → w.cell? ⟨ad.block, ad.off + j, none⟩ = some (val j) ∧ Rep φ m w x (val j)
theorem cellsAt_ptr (hR : RM φ m w) {r : Nat} {cs : List AV} (h : m.var r = some cs) (off : Nat) : CellsAt φ m w (cs.drop off) ⟨φ.vb r, off, none⟩ := by
  obtain ⟨arr, T, hb, ⟨hn, hr⟩, _⟩ := hR.var r cs h
  refine ⟨rfl, fun j => arr.getD (off + j) undef, fun j x hx => ?_⟩
  rw [List.getElem?_drop] at hx
  have hlt : off + j < arr.size := by rw [hn]; exact (List.getElem?_eq_some_iff.1 hx).1
  have e : arr[off + j]? = some (arr.getD (off + j) undef) := by simp [Array.getD, hlt]
  exact ⟨by simp only [World.cell?, hb]; exact e, hr _ _ _ hx e⟩
theorem cellsAt_of {p : AV} {pv : Value} (hR : RM φ m w) (h : Rep φ m w p pv) {cs : List AV}
    (hp : ptrCells m p = some cs) :
    ∃ ad, pv = .pointer (some ad) ∧ CellsAt φ m w cs ad := by
  unfold ptrCells at hp
  cases h with
  | ptr r off cs' h =>
    simp only [h, Option.map_some, Option.some.injEq] at hp
    subst hp
    exact ⟨_, rfl, cellsAt_ptr hR h off⟩
  | eptr cs' ad val hs hcell hrep =>
    simp only [Option.some.injEq] at hp
    subst hp
    exact ⟨ad, rfl, hs, val, fun j x hx => ⟨(hcell j x hx).2, hrep j x hx⟩⟩
  | _ => simp at hp
theorem addr_add {ad : Addr} (h : ad.spot = none) (n : Nat) : ad.add n = ⟨ad.block, ad.off + n, none⟩ := by
  unfold Addr.add
  split
  · rename_i h0; subst h0; cases ad; simp_all
  · rfl
theorem load_cells {cs : List AV} {ad : Addr} (h : CellsAt φ m w cs ad) {k : Nat} (hk : k ≤ cs.length) :
    ∃ arr, (loadCells ad k).run P w = .ok arr w ∧ Reps φ m w (cs.take k) arr := by
  obtain ⟨hs, val, hv⟩ := h
  refine ⟨((List.range k).map val).toArray, ?_, ?_⟩
  · exact run_loadCells (P := P) w ad k val (fun j hj => by
      rw [addr_add hs]
      exact (hv j (cs[j]'(by omega)) (by simp [List.getElem?_eq_getElem (show j < cs.length by omega)])).1)
  · refine ⟨by simp; omega, fun i a u h1 h2 => ?_⟩
    rw [List.getElem?_take] at h1
    split at h1
    · rename_i hi
      simp [hi] at h2
      subst h2
      exact (hv i a h1).2
    · cases h1
theorem load_sound (hR : RM φ m w) {t : TypeId} {p a : AV} {pv : Value} (hp : Rep φ m w p pv) (h : evLoad P m t p = some a) :
    ∃ x, (Instr.loadAt t pv).run P w = .ok x w ∧ Rep φ m w a x := by
  unfold evLoad at h
  split at h
  · rename_i cs k hcs hagg hsz
    obtain ⟨ad, rfl, hc⟩ := cellsAt_of hR hp hcs
    split at h
    · rename_i hk
      simp only [Option.some.injEq] at h
      subst h
      obtain ⟨arr, hrun, hreps⟩ := load_cells (P := P) hc hk
      exact ⟨.agg arr, by simp [Instr.loadAt, Instr.sureAddr, loadVar, run_isAgg' hagg, run_sizeOf' hsz, hrun], .agg _ _ hreps.1 hreps.2⟩
    · cases h
  · rename_i cs k hcs hagg hsz
    obtain ⟨ad, rfl, hc⟩ := cellsAt_of hR hp hcs
    obtain ⟨hs, val, hv⟩ := hc
    have h0 : cs[0]? = some a := by rw [← List.head?_eq_getElem?]; exact h
    obtain ⟨h1, h2⟩ := hv 0 a h0
    have e : ad = ⟨ad.block, ad.off + 0, none⟩ := by cases ad; simp_all
    rw [← e] at h1
    exact ⟨val 0, by simp [Instr.loadAt, Instr.sureAddr, loadVar, run_isAgg' hagg, h1], h2⟩
  · cases h

/-! ### parts -/
theorem part_sound {t : TypeId} {cs : List AV} {arr : Array Value} (hr : Reps φ m w cs arr) {off : Nat} {a : AV} (h : evPart P t cs off = some a) :
    ∃ x, (part t arr off).run P w = .ok x w ∧ Rep φ m w a x := by
  unfold evPart at h
  split at h
  · rename_i k hagg hsz
    split at h
    · rename_i hk
      simp only [Option.some.injEq] at h
      subst h
      refine ⟨_, by simp [part, run_isAgg' hagg, run_sizeOf' hsz]; rfl, .agg _ _ (by have := hr.1; simp; omega) (fun i a u h1 h2 => ?_)⟩
      rw [List.getElem?_take] at h1
      split at h1
      · rw [List.getElem?_drop] at h1
        rw [Array.getElem?_extract] at h2
        split at h2
        · exact hr.2 _ _ _ h1 h2
        · cases h2
      · cases h1
    · cases h
  · rename_i k hagg hsz
    have hlt : off < arr.size := by rw [hr.1]; exact (List.getElem?_eq_some_iff.1 h).1
    have e : arr[off]? = some arr[off] := by simp [hlt]
    exact ⟨arr[off], by simp [part, run_isAgg' hagg, e], hr.2 _ _ _ h e⟩
  · cases h
theorem field_sound {t : TypeId} {x a : AV} {xv : Value} {i : Nat} (hx : Rep φ m w x xv) (h : evField P t x i = some a) :
    ∃ y, (Instr.field t xv i).run P w = .ok y w ∧ Rep φ m w a y := by
  unfold evField at h
  split at h
  · rename_i off ft cs hf
    cases hx with
    | agg _ arr hn hr =>
      unfold tField at hf
      cases hu : P.underlying t with
      | none => simp [hu] at hf
      | some d =>
        cases d <;> simp [hu] at hf
        rename_i fs
        obtain ⟨f, hf, rfl, rfl⟩ := hf
        obtain ⟨y, hy, hr⟩ := part_sound (P := P) ⟨hn, hr⟩ h
        exact ⟨y, by simp [Instr.field, run_underlying' hu, hf, asAgg, hy], hr⟩
  · cases h
theorem fieldAddr_sound {t : TypeId} {x a : AV} {xv : Value} {i : Nat} (hx : Rep φ m w x xv) (h : evFieldAddr P t x i = some a) :
    ∃ y, (Instr.fieldAt t xv i).run P w = .ok y w ∧ Rep φ m w a y := by
  unfold evFieldAddr at h
  split at h
  · rename_i off ft hf
    split at h
    · rename_i k hsz
      unfold tField at hf
      cases hu : P.underlying t with
      | none => simp [hu] at hf
      | some d =>
        cases d <;> simp [hu] at hf
        rename_i fs
        obtain ⟨f, hf, rfl, rfl⟩ := hf
        have hplace : ∀ ad : Addr, (fieldPlace ad f).run P w = .ok (ad.add f.offset) w := fun ad => by simp [fieldPlace, run_sizeOf' hsz]
        cases hx with
        | ptr r o cs hv =>
          simp only at h
          have key : ∀ b : AV, b = (if f.offset = 0 then AV.ptr r o else .ptr r (o + f.offset)) → Rep φ m w b (.pointer (some ((⟨φ.vb r, o, none⟩ : Addr).add f.offset))) := by
            intro b hb
            rw [addr_add rfl]
            split at hb
            · rename_i h0; subst hb; rw [h0]; exact .ptr r o cs hv
            · subst hb; exact .ptr r _ cs hv
          refine ⟨_, by simp [Instr.fieldAt, run_underlying' hu, hf, Instr.sureAddr, hplace]; rfl, ?_⟩
          refine key a ?_
          split at h <;> simp_all
        | eptr cs ad val hs hcell hrep =>
          simp only at h
          split at h
          · simp only [Option.some.injEq] at h
            subst h
            refine ⟨_, by simp [Instr.fieldAt, run_underlying' hu, hf, Instr.sureAddr, hplace]; rfl, ?_⟩
            rw [addr_add hs]
            refine .eptr _ _ (fun j => val (f.offset + j)) rfl (fun j x hx => ?_) (fun j x hx => ?_)
            · rw [List.getElem?_drop] at hx
              have := hcell _ _ hx
              simpa [Nat.add_assoc] using this
            · rw [List.getElem?_drop] at hx
              exact hrep _ _ hx
          · cases h
        | _ => simp at h
    · cases h
  · cases h
theorem index_sound {t : TypeId} {x i a : AV} {xv iv : Value} (hx : Rep φ m w x xv) (hi : Rep φ m w i iv) (h : evIndex P t x i = some a) :
    ∃ y, (Instr.index t xv iv).run P w = .ok y w ∧ Rep φ m w a y := by
  unfold evIndex at h
  split at h
  · rename_i k n
    cases hi
    split at h
    · rename_i s
      cases hx
      split at h
      · rename_i hc
        obtain ⟨hs, h0, h1⟩ := hc
        simp only [Option.some.injEq] at h
        subst h
        have hlt : n.toNat < s.size := by omega
        refine ⟨.int .u8 (s.get! n.toNat).toNat, ?_, .v _⟩
        have e : s[n.toNat]? = some (s.get! n.toNat) := by
          rw [getElem?_pos s n.toNat hlt]
          congr 1
          simp only [ByteArray.get!, getElem!_def]
          have : s.data[n.toNat]? = some s[n.toNat] := by simp [ByteArray.getElem_eq_getElem_data, hlt]
          rw [this]
        simp [Instr.index, asIntOf, run_underlying' (str_under hs), h0, e]
      · cases h
    · rename_i cs
      cases hx with
      | agg _ arr hn hr =>
        split at h
        · rename_i len e ha
          split at h
          · rename_i sz hsz
            split at h
            · rename_i hc
              obtain ⟨y, hy, hr⟩ := part_sound (P := P) ⟨hn, hr⟩ h
              exact ⟨y, by simp [Instr.index, asIntOf, run_underlying' (arr_under ha), hc, run_sizeOf' hsz, hy], hr⟩
            · cases h
          · cases h
        · cases h
    · cases h
  · cases h
theorem indexAddr_sound {t : TypeId} {x i a : AV} {xv iv : Value} (hx : Rep φ m w x xv) (hi : Rep φ m w i iv) (h : evIndexAddr P t x i = some a) :
    ∃ y, (Instr.indexAt t xv iv).run P w = .ok y w ∧ Rep φ m w a y := by
  unfold evIndexAddr at h
  split at h
  · rename_i k n
    cases hi
    split at h
    · rename_i len e ha
      split at h
      · rename_i r off sz hsz
        split at h
        · rename_i hc
          cases hx with
          | ptr _ _ cs hv =>
            refine ⟨_, by simp [Instr.indexAt, asIntOf, run_underlying' (arr_under ha), Instr.sureAddr, hc, run_sizeOf' hsz]; rfl, ?_⟩
            rw [addr_add rfl]
            split at h
            · rename_i h0; simp only [Option.some.injEq] at h; subst h; rw [h0]; exact .ptr r off cs hv
            · simp only [Option.some.injEq] at h; subst h; exact .ptr r _ cs hv
        · cases h
      · cases h
    · rename_i hna
      split at h
      · rename_i e he
        split at h
        · rename_i sz g rows hsz
          split at h
          · rename_i hc
            obtain ⟨rfl, h0, h1⟩ := hc
            cases hx with
            | lst _ _ _ ad c val hlen hr han hs hcell hrep hg =>
              have hlt : n.toNat < rows.length := by omega
              rw [List.getElem?_eq_getElem hlt] at h
              simp only [Option.map_some, Option.some.injEq] at h
              subst h
              cases ad with
              | none => have := han rfl; omega
              | some ad =>
                refine ⟨_, by simp [Instr.indexAt, asIntOf, run_underlying' (elem_under he), h0, h1, run_sizeOf' hsz]; rfl, ?_⟩
                rw [addr_add (hs ad rfl (by omega))]
                refine .eptr _ _ (val n.toNat) rfl (fun j x hx => ?_) (fun j x hx => hrep n.toNat _ j x (List.getElem?_eq_getElem hlt) hx)
                have := hcell ad n.toNat _ j x rfl (List.getElem?_eq_getElem hlt) hx
                exact ⟨this.1, this.2.1⟩
          · cases h
        · rename_i sz r off n' c' hsz
          split at h
          · rename_i hc
            obtain ⟨rfl, h0, h1⟩ := hc
            cases hx with
            | vs _ _ _ _ _ cs hv hb hn =>
              simp only [Option.some.injEq] at h
              subst h
              refine ⟨_, by simp [Instr.indexAt, asIntOf, run_underlying' (elem_under he), h0, h1, run_sizeOf' hsz]; rfl, ?_⟩
              rw [addr_add rfl]
              exact .ptr _ _ cs hv
          · cases h
        · cases h
      · cases h
  · cases h
end
end Go.Proofs.Ytojaokhkbmiidaa.Ev
