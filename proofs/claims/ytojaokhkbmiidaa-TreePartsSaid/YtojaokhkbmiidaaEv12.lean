/- Structs built, variables made and stored into, bytes as a text: sound; and all operations that are no calls together. -/
import Derived.Test.YtojaokhkbmiidaaEv11
namespace Go.Proofs.Ytojaokhkbmiidaa.Ev
open Go
set_option linter.unusedVariables false
set_option linter.unusedSimpArgs false
section
variable {P : Program} {φ : Phi} {m : Mem} {w : World}

theorem mapM_run {α β : Type} {g : α → Sem β} {r : α → β} : ∀ {fs : List α}, (∀ f ∈ fs, (g f).run P w = .ok (r f) w) → (fs.mapM g).run P w = .ok (fs.map r) w
  | [], _ => rfl
  | f :: fs, h => by
    have h1 := h f (by simp)
    have h2 := mapM_run (fs := fs) (fun x hx => h x (by simp [hx]))
    simp [List.mapM_cons, h1, h2]
theorem wrap_i64 {n : Int} (h0 : -9223372036854775808 ≤ n) (h1 : n ≤ 9223372036854775807) : IntKind.i64.wrap n = n := by
  simp [IntKind.wrap, IntKind.bits, IntKind.signed]
  omega
theorem build_sound (hR : RM φ m w) {t : TypeId} {ps : List (Nat × AV)} {vs : Array (Nat × Value)} {a : AV} (hp : PartsRep φ m w ps vs.toList) (h : evBuild P t ps = some a) :
    ∃ y, (Instr.build t vs).run P w = .ok y w ∧ Rep φ m w a y := by
  unfold evBuild at h
  split at h
  · rename_i fs z hu hz
    obtain ⟨zv, hzr, hzreps⟩ := rep_zero (P := P) (φ := φ) (m := m) (w := w) hz
    split at h
    · rename_i hall
      cases hf : evBuildFill (fun i => (fs[i]?).bind fun f => (tSize P f.type).map fun k => (f.offset, k)) z ps with
      | none => simp [hf] at h
      | some r =>
        simp only [hf, Option.map_some, Option.some.injEq] at h
        subst h
        obtain ⟨arr', r1, r2⟩ := fill_sound ps vs.toList z r zv.cells hp hzreps hf
        refine ⟨.agg arr', ?_, .agg _ _ r2.1 r2.2⟩
        have hm' : (fs.mapM (m := Sem) fun (f : Field) => do pure (f.offset, ← sizeOf f.type)).run P w = .ok (fs.map fun (f : Field) => (f.offset, (tSize P f.type).getD 0)) w := by
          rw [Array.mapM_eq_mapM_toList]
          have hm := mapM_run (P := P) (w := w) (g := fun (f : Field) => do pure (f.offset, ← sizeOf f.type)) (r := fun (f : Field) => (f.offset, (tSize P f.type).getD 0)) (fs := fs.toList) (fun f hf => by
            obtain ⟨k, hk⟩ := Option.isSome_iff_exists.1 (List.all_eq_true.1 hall f hf)
            simp [run_sizeOf' hk, hk])
          rw [Sem.run_map, hm]
          simp only [Result.andThen_ok]
          congr 1
          apply Array.ext'
          simp
        have hplace : (fun (i : Nat) => (fs.map fun (f : Field) => (f.offset, (tSize P f.type).getD 0))[i]?) = fun (i : Nat) => (fs[i]?).bind fun (f : Field) => (tSize P f.type).map fun k => (f.offset, k) := by
          funext i
          rw [Array.getElem?_map]
          cases hi : fs[i]? with
          | none => rfl
          | some f =>
            have hmem : f ∈ fs.toList := by
              have := Array.mem_of_getElem? hi
              exact Array.mem_toList_iff.2 this
            obtain ⟨k, hk⟩ := Option.isSome_iff_exists.1 (List.all_eq_true.1 hall f hmem)
            simp [hk]
        simp only [Instr.build, Sem.run_bind, hzr, Result.andThen_ok, run_underlying' hu, hm']
        rw [hplace, r1]
        rfl
    · cases h
  · rename_i n e z hu hz
    obtain ⟨zv, hzr, hzreps⟩ := rep_zero (P := P) (φ := φ) (m := m) (w := w) hz
    split at h
    · rename_i k hk
      cases hf : evBuildFill (fun i => some (i * k, k)) z ps with
      | none => simp [hf] at h
      | some r =>
        simp only [hf, Option.map_some, Option.some.injEq] at h
        subst h
        obtain ⟨arr', r1, r2⟩ := fill_sound ps vs.toList z r zv.cells hp hzreps hf
        refine ⟨.agg arr', ?_, .agg _ _ r2.1 r2.2⟩
        simp only [Instr.build, Sem.run_bind, hzr, Result.andThen_ok, run_underlying' hu, run_sizeOf' hk, r1]
        rfl
    · cases h
  · cases h

/-! ### variables -/
theorem alloc_sound (hR : RM φ m w) {t : TypeId} {z : List AV} {m' : Mem} {p : Nat} (hz : zeroCells P t = some z) (hok : z.all okCell = true) (h : newVar m p z = some m') :
    ∃ w' φ', (Instr.alloc t true (.tuple #[])).run P w = .ok (.pointer (some ⟨w.heap.size, 0, none⟩)) w' ∧ RM φ' m' w' ∧ Ext φ m w φ' m' w' ∧ Rep φ' m' w' (.ptr p 0) (.pointer (some ⟨w.heap.size, 0, none⟩)) := by
  obtain ⟨zv, hzr, hzreps⟩ := rep_zero (P := P) (φ := φ) (m := m) (w := w) hz
  obtain ⟨φ', h1, h2, h3, h4⟩ := newVar_sound hR h hzreps hok t
  refine ⟨_, φ', ?_, h1, h2, ?_⟩
  · simp [Instr.alloc, hzr, newVar, newRow, Go.newVar, World.alloc, -World.alloc_eq]
  · rw [← h3]; exact .ptr p 0 z h4
theorem box_sound (hR : RM φ m w) {t : TypeId} {x : AV} {xv : Value} {cs : List AV} {m' : Mem} {p : Nat} (hx : Rep φ m w x xv) (hc : cellsOf x = some cs) (h : newVar m p cs = some m') :
    ∃ w' φ', (Instr.box t xv).run P w = .ok (.pointer (some ⟨w.heap.size, 0, none⟩)) w' ∧ RM φ' m' w' ∧ Ext φ m w φ' m' w' ∧ Rep φ' m' w' (.ptr p 0) (.pointer (some ⟨w.heap.size, 0, none⟩)) := by
  obtain ⟨hreps, hok⟩ := cells_of hx hc
  obtain ⟨φ', h1, h2, h3, h4⟩ := newVar_sound hR h hreps hok t
  refine ⟨_, φ', ?_, h1, h2, ?_⟩
  · simp [Instr.box, newRow, Go.newVar, World.alloc, -World.alloc_eq]
  · rw [← h3]; exact .ptr p 0 cs h4
theorem store_sound (hR : RM φ m w) {t : TypeId} {p x : AV} {pv xv : Value} {m' : Mem} (hp : Rep φ m w p pv) (hx : Rep φ m w x xv) (h : evStore P m t p x = some m') :
    ∃ w', (Instr.storeAt t pv xv).run P w = .ok () w' ∧ RM φ m' w' ∧ Ext φ m w φ m' w' := by
  unfold evStore at h
  split at h
  · rename_i r off cs k hcs hk
    split at h
    · rename_i old hv
      split at h
      · rename_i hc
        obtain ⟨h1, h2, h3⟩ := hc
        simp only [Option.some.injEq] at h
        subst h
        obtain ⟨hreps, hok⟩ := cells_of hx hcs
        cases hp with
        | ptr _ _ cs' hv' =>
          obtain ⟨arr, T, hb, harr, _, _⟩ := hR.var r old hv
          have hfit : off + cs.length ≤ old.length := by omega
          obtain ⟨g1, g2⟩ := store_step hR hv hfit hok h3 (vs := xv.cells.toList) (by simpa using hreps) hb harr rfl
          refine ⟨_, ?_, g1, g2⟩
          have hvs : xv.cells.size = k := by rw [hreps.1]; exact h1
          have hst := run_storeCells_at P (φ.vb r) off T xv.cells.toList 0 arr w hb (by rw [harr.1]; simp [hvs]; omega) (fun v hv => by
            obtain ⟨i, hi, rfl⟩ := List.getElem_of_mem hv
            rw [← one_eq]
            have hi' : i < cs.length := by rw [← hreps.1]; simpa using hi
            exact okCell_one (hreps.2 i cs[i] _ (List.getElem?_eq_getElem hi') (by simp at hi ⊢)) (List.all_eq_true.1 hok _ (List.getElem_mem hi')))
          simp only [Nat.add_zero] at hst
          simp only [Instr.storeAt, Instr.sureAddr, Sem.run_bind, Sem.run_pure, Result.andThen_ok, storeVar, run_sizeOf' hk, Sem.run_ite, hvs]
          simpa using hst
      · cases h
    · cases h
  · cases h
theorem makeSlice_sound (hR : RM φ m w) {t : TypeId} {n c : AV} {nv cv : Value} {cs : List AV} {sz k : Nat} {m' : Mem} {p : Nat} (hn : Rep φ m w n nv) (hc : Rep φ m w c cv)
    (h : evMakeSlice P t n c = some (cs, sz, k)) (hm : newVar m p cs = some m') :
    ∃ v w' φ', (Instr.makeSlice t nv cv).run P w = .ok v w' ∧ RM φ' m' w' ∧ Ext φ m w φ' m' w' ∧ Rep φ' m' w' (.vs p 0 sz k k) v := by
  unfold evMakeSlice at h
  split at h
  · rename_i e kn n kc c he
    cases hn; cases hc
    split at h
    · rename_i b z hk hb hz
      split at h
      · rename_i hcond
        obtain ⟨hokz, rfl, h0, hbig, h63⟩ := hcond
        simp only [Option.some.injEq, Prod.mk.injEq] at h
        obtain ⟨rfl, rfl, rfl⟩ := h
        obtain ⟨zv, hzr, hzreps⟩ := rep_zero (P := P) (φ := φ) (m := m) (w := w) hz
        have hzs : zv.cells.size = 1 := hzreps.1
        have hz0 : zv.cells[0]? = some (zv.cells[0]'(by omega)) := Array.getElem?_eq_getElem (by omega)
        have hzrep := hzreps.2 0 z _ rfl hz0
        let arr : Array Value := (Array.range n.toNat).map fun i => (if n.toNat = 0 then #[] else zv.cells)[i % (if n.toNat = 0 then #[] else zv.cells).size]!
        have hreps : Reps φ m w (List.replicate n.toNat z) arr := by
          refine ⟨by simp [arr], fun i a u h1 h2 => ?_⟩
          rw [List.getElem?_replicate] at h1
          split at h1
          · rename_i hi
            simp only [Option.some.injEq] at h1
            subst h1
            have hne : n.toNat ≠ 0 := by omega
            simp only [arr, if_neg hne, Array.getElem?_map, Option.map_eq_some_iff] at h2
            obtain ⟨q, _, rfl⟩ := h2
            rw [hzs, Nat.mod_one, getElem!_pos zv.cells 0 (by omega)]
            exact hzrep
          · cases h1
        have hok : (List.replicate n.toNat z).all okCell = true := by
          rw [List.all_eq_true]
          intro q hq
          rw [List.eq_of_mem_replicate hq]
          exact hokz
        obtain ⟨φ', g1, g2, g3, g4⟩ := newVar_sound hR hm hreps hok e
        refine ⟨.slice (some ⟨w.heap.size, 0, none⟩) n.toNat n.toNat, _, φ', ?_, g1, g2, ?_⟩
        · have hwrap : IntKind.i64.wrap n = n := wrap_i64 (by omega) h63
          cases hinfo : P.info? e with
          | none => simp [tSize, hinfo] at hk
          | some i =>
            have hib : i.bytes = b := by simpa [tBytes, hinfo] using hb
            have hbig' : ¬ ((2 : Int) ^ 48 < (b : Int) * n) := by rw [Int.mul_comm, show (2 : Int) ^ 48 = 281474976710656 by decide]; omega
            have hn0 : ¬ n < 0 := by omega
            simp only [Instr.makeSlice, Sem.run_bind, run_underlying' (elem_under he), Result.andThen_ok, asInt, asIntOf, Sem.run_pure, typeInfo, run_program, hinfo, hib, hwrap, run_askRoom, run_sizeOf' hk]
            simp only [hn0, hbig', decide_false, Bool.or_false, Bool.false_or, Int.lt_irrefl, gt_iff_lt, Bool.false_eq_true, if_false, Sem.run_pure, Result.andThen_ok, Sem.run_bind, run_askRoom, run_sizeOf' hk]
            by_cases hq : n.toNat = 0
            · simp [hq, newRow, arr, World.alloc, -World.alloc_eq]
            · simp [hq, hzr, newRow, arr, World.alloc, -World.alloc_eq]
        · rw [← g3]; exact .vs p 0 1 _ _ _ g4 (by simp) (Nat.le_refl _)
      · cases h
    · cases h
  · cases h

/-! ### bytes as a text -/
theorem bytes_run : ∀ (cs : List AV) (vs : List Value) (l : List UInt8) (acc : ByteArray), bytesOfCells cs = some l → vs.length = cs.length → (∀ (i : Nat) a u, cs[i]? = some a → vs[i]? = some u → Rep φ m w a u) →
    (forIn (m := Sem) vs acc fun c s => match c with
      | .int .u8 n => pure (.yield (s.push (UInt8.ofNat n.toNat)))
      | _ => do
        stuck "bytesToString: byte expected"
        pure (.yield s)).run P w = .ok ⟨acc.data ++ l.toArray⟩ w
  | [], [], l, acc, h, _, _ => by simp only [bytesOfCells, Option.some.injEq] at h; subst h; simp
  | a :: cs, u :: vs, l, acc, h, hl, hr => by
    have h0 := hr 0 a u rfl rfl
    unfold bytesOfCells at h
    split at h
    · rename_i e; cases e
    · rename_i n cs' e
      cases e
      cases h0
      cases hb : bytesOfCells cs with
      | none => simp [hb] at h
      | some l' =>
        simp only [hb, Option.map_some, Option.some.injEq] at h
        subst h
        have ih := bytes_run cs vs l' (acc.push (UInt8.ofNat n.toNat)) hb (by simpa using hl) (fun i a u h1 h2 => hr (i + 1) a u (by simpa using h1) (by simpa using h2))
        rw [List.forIn_cons]
        simp only [Sem.run_bind, Sem.run_pure, Result.andThen_ok, ih]
        congr 1
        simp [ByteArray.push]
    · cases h
  | [], _ :: _, _, _, _, hl, _ => by simp at hl
  | _ :: _, [], _, _, _, hl, _ => by simp at hl
theorem convert_sound (hR : RM φ m w) {src dst : TypeId} {x a : AV} {xv : Value} (hx : Rep φ m w x xv) (h : evConvert P m src dst x = some a) :
    ∃ y, (convert src dst xv).run P w = .ok y w ∧ Rep φ m w a y := by
  unfold evConvert at h
  split at h
  · cases hx
    split at h
    · rename_i d k hs hd
      simp only [Option.some.injEq] at h
      subst h
      refine ⟨_, ?_, .v _⟩
      simp only [convert, Sem.run_bind, run_underlying' hs, run_underlying' (int_under hd), Result.andThen_ok]
      cases d <;> rfl
    · cases h
  · cases hx
    split at h
    · rename_i d hs
      split at h
      · rename_i hd
        simp only [Option.some.injEq] at h
        subst h
        refine ⟨_, ?_, .v _⟩
        simp only [convert, Sem.run_bind, run_underlying' hs, run_underlying' (str_under hd), Result.andThen_ok]
        cases d <;> rfl
      · cases h
    · cases h
  · rename_i r off n c
    split at h
    · rename_i e cs he hv
      split at h
      · rename_i hc
        obtain ⟨hd, hu8, hfit⟩ := hc
        cases hb : bytesOfCells ((cs.drop off).take n) with
        | none => simp [hb] at h
        | some l =>
          simp only [hb, Option.map_some, Option.some.injEq] at h
          subst h
          cases hx with
          | vs _ _ _ _ _ cs' hv' hb' hn' =>
            obtain ⟨arr, hrun, hreps⟩ := load_cells (P := P) (cellsAt_ptr hR hv off) (k := n) (by simp; omega)
            refine ⟨.string ⟨l.toArray⟩, ?_, .v _⟩
            have hloop := bytes_run (P := P) (φ := φ) (m := m) (w := w) _ arr.toList l ByteArray.empty hb (by have := hreps.1; simpa using this) (fun i a u h1 h2 => hreps.2 i a u h1 (by simpa using h2))
            have e0 : (ByteArray.empty.data ++ l.toArray) = l.toArray := by show (#[] : Array UInt8) ++ l.toArray = l.toArray; simp
            rw [e0] at hloop
            simp only [convert, Sem.run_bind, run_underlying' (elem_under he), run_underlying' (str_under hd), Result.andThen_ok, run_underlying' (int_under hu8), Conv.bytesToString, hrun]
            rw [← Array.forIn_toList]
            exact (congrArg (fun r => Result.andThen r fun a w' => Sem.run P (pure (Value.string a)) w') hloop).trans rfl
      · cases h
    · cases h
  · cases h
end
end Go.Proofs.Ytojaokhkbmiidaa.Ev
