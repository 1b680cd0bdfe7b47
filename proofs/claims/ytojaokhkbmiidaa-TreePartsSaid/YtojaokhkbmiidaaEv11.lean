/- Appending; values built out of parts; bytes as a text. Sound. -/
import Derived.Test.YtojaokhkbmiidaaEv10
namespace Go.Proofs.Ytojaokhkbmiidaa.Ev
open Go
set_option linter.unusedVariables false
set_option linter.unusedSimpArgs false
section
variable {P : Program} {φ : Phi} {m : Mem} {w : World}

theorem reps_add {a : Addr} (h : a.spot = none) (n : Nat) : a.add n = ⟨a.block, a.off + n, none⟩ := addr_add h n
/-- What the model reads of a list's first cells. -/
theorem run_first {a : Option Addr} {n c sz : Nat} {f : Nat → Value} {w' : World} (ha : a = none → n = 0) (hs : ∀ ad, a = some ad → 0 < n → ad.spot = none) (hc : ∀ ad, a = some ad → CellsIm φ w ad (n * sz) f)
    (hw : ∀ ad, a = some ad → ∀ k, k < n * sz → w'.cell? ⟨ad.block, ad.off + k, none⟩ = w.cell? ⟨ad.block, ad.off + k, none⟩) :
    (Builtin.firstCells sz n (.slice a n c)).run P w' = .ok ((List.range (n * sz)).map f).toArray w' := by
  cases a with
  | none =>
    have := ha rfl
    subst this
    simp [Builtin.firstCells]
  | some ad =>
    have h2 := hc ad rfl
    simp only [Builtin.firstCells]
    exact run_loadCells (P := P) w' ad (n * sz) f (fun j hj => by
      have hn0 : 0 < n := Nat.pos_of_ne_zero (fun e => by subst e; simp at hj)
      rw [addr_add (hs ad rfl hn0), hw ad rfl j hj]
      exact (h2 j hj).2)
theorem run_append_room {t t2 ty e e2 : TypeId} {sz : Nat} (ht : P.underlying t = some (.slice e)) (ht2 : P.underlying t2 = some (.slice e2)) (hs : tSize P e = some sz)
    {a a2 : Option Addr} {n c n2 c2 : Nat} {news : Array Value} (hf : (Builtin.firstCells sz n2 (.slice a2 n2 c2)).run P w = .ok news w) (hroom : n + n2 ≤ c) :
    (Builtin.append_ #[t, t2] ty #[.slice a n c, .slice a2 n2 c2]).run P w =
      match a with
      | some ad => ((storeCells (ad.add (n * sz)) news.toList).run P w).andThen fun _ w' => .ok (.slice (some ad) (n + n2) c) w'
      | none => .ok (.slice none (n + n2) c) w := by
  cases a with
  | none => simp [Builtin.append_, run_underlying' ht, run_underlying' ht2, run_sizeOf' hs, Builtin.lenOf, hroom, hf]
  | some ad => simp [Builtin.append_, run_underlying' ht, run_underlying' ht2, run_sizeOf' hs, Builtin.lenOf, hroom, hf]
theorem run_append_more {t t2 ty e e2 : TypeId} {i : TypeInfo} {z : Value} (ht : P.underlying t = some (.slice e)) (ht2 : P.underlying t2 = some (.slice e2)) (hi : P.info? e = some i) (hz : i.zero = some z)
    {a a2 : Option Addr} {n c n2 c2 : Nat} {olds news : Array Value} (ho : (Builtin.firstCells i.size n (.slice a n c)).run P w.drew = .ok olds w.drew)
    (hf : (Builtin.firstCells i.size n2 (.slice a2 n2 c2)).run P w.drew = .ok news w.drew) (hg : c < n + n2) (h63 : ((n + n2 : Nat) : Int) ≤ 9223372036854775807)
    (hfit : Builtin.nextslicecap (n + n2) c * i.bytes ≤ 281474976710656) :
    (Builtin.append_ #[t, t2] ty #[.slice a n c, .slice a2 n2 c2]).run P w =
      .ok (.slice (some ⟨w.heap.size, 0, none⟩) (n + n2) (grownCap w (n + n2) c e))
        (w.drew.alloc (.cells (olds ++ news ++ Builtin.zeroCells z.cells (grownCap w (n + n2) c e - (n + n2))) e)) := by
  have hn : ¬ (n + n2 ≤ c) := by omega
  have h63' : ¬ (9223372036854775807 < ((n : Int) + (n2 : Int))) := by omega
  have h48' : ¬ (281474976710656 < Builtin.nextslicecap (n + n2) c * i.bytes) := by omega
  simp [Builtin.append_, run_underlying' ht, run_underlying' ht2, sizeOf, typeInfo, zeroValue, hi, hz, Builtin.lenOf, hn, h63', h48', Question.forced, hf, ho, newRow, grownCap]
theorem le_grownCap (w : World) (need old : Nat) (e : TypeId) : need ≤ grownCap w need old e := by
  simp only [grownCap, Question.cut]
  omega

theorem asList_rep {k : Nat} {x : AV} {v : Value} {g : Grow} {xs : List (List AV)} (h : Rep φ m w x v) (hl : asList k x = some (g, xs)) :
    ∃ a c f, v = .slice a xs.length c ∧ xs.length ≤ c ∧ (a = none → c = 0) ∧ (∀ ad, a = some ad → 0 < c → ad.spot = none) ∧ RowsAt φ m w k xs f ∧ (∀ ad, a = some ad → CellsIm φ w ad (xs.length * k) f) ∧ growOk φ m g a xs.length c k := by
  unfold asList at hl
  split at hl
  · split at hl
    · rename_i hs
      subst hs
      simp only [Option.some.injEq, Prod.mk.injEq] at hl
      obtain ⟨rfl, rfl⟩ := hl
      exact lst_cells h
    · cases hl
  · simp only [Option.some.injEq, Prod.mk.injEq] at hl
    obtain ⟨rfl, rfl⟩ := hl
    cases h
    exact ⟨none, 0, fun _ => undef, rfl, Nat.le_refl _, fun _ => rfl, (fun ad h => by cases h), ⟨(fun i row h => by simp at h), (fun i row j x h => by simp at h)⟩, (fun ad h => by cases h), rfl⟩
  · cases hl

theorem append_sound (hR : RM φ m w) {t t2 : TypeId} (ty : TypeId) {x y a : AV} {xv yv : Value} {m' : Mem} (hx : Rep φ m w x xv) (hy : Rep φ m w y yv) (h : evAppend P t t2 m x y = some (a, m')) :
    ∃ v w' φ', (Builtin.append_ #[t, t2] ty #[xv, yv]).run P w = .ok v w' ∧ RM φ' m' w' ∧ Ext φ m w φ' m' w' ∧ Rep φ' m' w' a v := by
  unfold evAppend at h
  split at h
  · rename_i e he
    split at h
    · rename_i k b z hk hb hz
      split at h
      · rename_i g xs g2 ys hxs hys
        split at h
        · rename_i hc
          obtain ⟨hlim, hb4, hzk, hk0, hzok, he2⟩ := hc
          obtain ⟨ax, cx, f, rfl, hcx, hax, sx, rx, cellx, hgx⟩ := asList_rep hx hxs
          obtain ⟨ay, cy, f2, rfl, hcy, hay, sy, ry, celly, _⟩ := asList_rep hy hys
          -- which token it is then
          obtain ⟨id, ver, ht, rfl, hid, hver⟩ : ∃ id ver, TokStep m m' id ∧ a = .lst (.tok id ver) k (xs ++ ys) ∧ m'.toks[id]? = some ver ∧
              (xs.length = cx ∨ (id < m.toks.length ∧ ∀ ad, ax = some ad → φ.tk id = (ad.block, ad.off + xs.length * k, ad.off + cx * k))) := by
            split at h
            · cases h
            · cases h
            · simp only [Option.some.injEq, Prod.mk.injEq] at h
              obtain ⟨rfl, rfl⟩ := h
              exact ⟨_, 0, tokStep_new m, rfl, by simp, .inl hgx⟩
            · rename_i id ver
              split at h
              · rename_i hv
                simp only [Option.some.injEq, Prod.mk.injEq] at h
                obtain ⟨rfl, rfl⟩ := h
                have hlt := (List.getElem?_eq_some_iff.1 hv).1
                refine ⟨id, ver + 1, tokStep_up hv, rfl, by simp [hlt], ?_⟩
                obtain ⟨v, hv', _, hreg⟩ := hgx
                rw [hv] at hv'
                cases hv'
                have hreg := hreg rfl
                cases hax' : ax with
                | none => rw [hax'] at hreg; exact .inl hreg
                | some ad =>
                  rw [hax'] at hreg
                  exact .inr ⟨hlt, fun ad' e => by cases e; exact hreg⟩
              · cases h
          have hgrow : ∀ (φ' : Phi) (A : Option Addr) n c, (∀ ad, A = some ad → φ'.tk id = (ad.block, ad.off + n * k, ad.off + c * k)) → (A = none → n = c) → growOk φ' m' (.tok id ver) A n c k := by
            intro φ' A n c h1 h2
            refine ⟨ver, hid, Nat.le_refl _, fun _ => ?_⟩
            cases A with
            | none => exact h2 rfl
            | some ad => exact h1 ad rfl
          have hu := elem_under he
          have hu2 := elem_under he2
          have hlen : (xs ++ ys).length = xs.length + ys.length := by simp
          have fy : ∀ w' : World, (∀ b o, w'.cell? ⟨b, o, none⟩ = w.cell? ⟨b, o, none⟩) → (Builtin.firstCells k ys.length (.slice ay ys.length cy)).run P w' = .ok ((List.range (ys.length * k)).map f2).toArray w' :=
            fun w' hw => run_first (φ := φ) (w := w) (fun e => by have := hay e; omega) (fun ad e h0 => sy ad e (by omega)) celly (fun ad _ j _ => hw _ _)
          have fx : ∀ w' : World, (∀ b o, w'.cell? ⟨b, o, none⟩ = w.cell? ⟨b, o, none⟩) → (Builtin.firstCells k xs.length (.slice ax xs.length cx)).run P w' = .ok ((List.range (xs.length * k)).map f).toArray w' :=
            fun w' hw => run_first (φ := φ) (w := w) (fun e => by have := hax e; omega) (fun ad e h0 => sx ad e (by omega)) cellx (fun ad _ j _ => hw _ _)
          have idx : ∀ {zs : List (List AV)} {fz : Nat → Value}, RowsAt φ m w k zs fz → ∀ q, q < zs.length * k → one (fz q) = true := by
            intro zs fz hzs q hq
            have hi : q / k < zs.length := by rw [Nat.div_lt_iff_lt_mul hk0]; exact hq
            have hrow := List.getElem?_eq_getElem hi
            have hj : q % k < (zs[q / k]).length := by rw [(hzs.1 _ _ hrow).1]; exact Nat.mod_lt _ hk0
            have := (hzs.2 _ _ _ _ hrow (List.getElem?_eq_getElem hj)).2
            rwa [Nat.div_add_mod' q k] at this
          by_cases hroom : xs.length + ys.length ≤ cx
          · -- there is room
            have hrun := run_append_room (P := P) (w := w) (ty := ty) (t := t) hu hu2 hk (a := ax) (n := xs.length) (c := cx) (a2 := ay) (c2 := cy) (fy w (fun _ _ => rfl)) hroom
            by_cases hy0 : ys.length = 0
            · -- nothing is written
              have hys0 : ys = [] := List.eq_nil_of_length_eq_zero hy0
              subst hys0
              have hst : (Builtin.append_ #[t, t2] ty #[.slice ax xs.length cx, .slice ay ([] : List (List AV)).length cy]).run P w = .ok (.slice ax xs.length cx) w := by
                rw [hrun]
                cases ax with
                | none => rfl
                | some ad => simp [storeCells]
              obtain ⟨B, X, Y, hB⟩ : ∃ B X Y, (X = Y ∨ (id < m.toks.length ∧ φ.tk id = (B, X, Y))) ∧ ∀ ad, ax = some ad → (B, X, Y) = (ad.block, ad.off + xs.length * k, ad.off + cx * k) := by
                cases ax with
                | none => exact ⟨0, 0, 0, .inl rfl, fun ad e => by cases e⟩
                | some ad =>
                  refine ⟨ad.block, ad.off + xs.length * k, ad.off + cx * k, ?_, fun ad' e => by cases e; rfl⟩
                  rcases hver with h1 | ⟨h1, h2⟩
                  · exact .inl (by rw [h1])
                  · exact .inr ⟨h1, h2 ad rfl⟩
              obtain ⟨hR', hE'⟩ := tok_step hR ht B X Y hB.1
              refine ⟨_, w, _, hst, hR', hE', ?_⟩
              rw [List.append_nil]
              exact lst_mk rfl hcx hax sx (rx.mono hE') (fun ad e => (cellx ad e).mono hE') (hgrow _ ax xs.length cx (fun ad e => by rw [← hB.2 ad e]; exact if_pos rfl) (fun e => by have := hax e; omega))
            · -- the new elements are written behind the old ones
              cases hax' : ax with
              | none => have := hax hax'; omega
              | some ad =>
                rw [hax'] at hrun hver cellx sx
                have hreg : id < m.toks.length ∧ φ.tk id = (ad.block, ad.off + xs.length * k, ad.off + cx * k) := by
                  rcases hver with h1 | ⟨h1, h2⟩
                  · omega
                  · exact ⟨h1, h2 ad rfl⟩
                have hmul : (xs.length + ys.length) * k ≤ cx * k := Nat.mul_le_mul_right _ hroom
                rw [Nat.add_mul] at hmul
                have hpos : 0 < ys.length * k := Nat.mul_pos (by omega) hk0
                let vs : List Value := (List.range (ys.length * k)).map f2
                have hvl : vs.length = ys.length * k := by simp [vs]
                obtain ⟨arr, T, hb1, hsz, hR', hE', hnew⟩ := grow_step hR ht hreg.1 hreg.2 (by omega) (vs := vs) (by rw [hvl]; omega) (fun v hv => by
                  obtain ⟨q, hq, rfl⟩ := List.mem_map.1 hv
                  exact idx ry q (List.mem_range.1 hq))
                have had := sx ad rfl (by omega)
                have hstore := run_storeCells_at P ad.block (ad.off + xs.length * k) T vs 0 arr w hb1 (by rw [hvl]; omega) (fun v hv => by
                  obtain ⟨q, hq, rfl⟩ := List.mem_map.1 hv
                  rw [← one_eq]
                  exact idx ry q (List.mem_range.1 hq))
                refine ⟨.slice (some ad) (xs.length + ys.length) cx, _, _, ?_, hR', hE', ?_⟩
                · rw [hrun]
                  simp only
                  rw [addr_add had]
                  simp only [Nat.add_zero] at hstore
                  rw [show List.map f2 (List.range (ys.length * k)) = vs from rfl, hstore]
                  rfl
                · refine lst_mk hlen.symm (by rw [hlen]; exact hroom) (fun e => by cases e) (fun ad' e _ => by cases e; exact had) (rowsAt_append (rx.mono hE') (ry.mono hE')) (fun ad' e => ?_) (hgrow _ _ _ _ (fun ad' e => ?_) (fun e => by cases e))
                  · cases e
                    intro q hq
                    rw [hlen, Nat.add_mul] at hq
                    by_cases hq1 : q < xs.length * k
                    · have h9 := ((cellx ad rfl).mono hE') q hq1
                      exact ⟨h9.1, h9.2.trans (by show some (f q) = some (if q < xs.length * k then f q else _); rw [if_pos hq1])⟩
                    · refine ⟨.inr ⟨rfl, by omega, by rw [hvl]; omega⟩, ?_⟩
                      have hq2 : q - xs.length * k < ys.length * k := by omega
                      have := hnew (q - xs.length * k) (f2 (q - xs.length * k)) (by simp [vs, hq2])
                      rw [show ad.off + xs.length * k + (q - xs.length * k) = ad.off + q by omega] at this
                      exact this.trans (by show some (f2 (q - xs.length * k)) = some (if q < xs.length * k then f q else f2 (q - xs.length * k)); rw [if_neg hq1])
                  · cases e
                    rw [hlen, Nat.add_mul]
                    have : (if id = id then (ad.block, ad.off + xs.length * k + vs.length, ad.off + cx * k) else φ.tk id) = (ad.block, ad.off + (xs.length * k + ys.length * k), ad.off + cx * k) := by
                      rw [if_pos rfl, hvl, Nat.add_assoc]
                    exact this
          · -- a new row
            obtain ⟨zv, hzr, hzreps⟩ := rep_zero (P := P) (φ := φ) (m := m) (w := w) hz
            cases hinfo : P.info? e with
            | none => simp [tSize, hinfo] at hk
            | some i =>
              have hik : i.size = k := by simpa [tSize, hinfo] using hk
              have hib : i.bytes = b := by simpa [tBytes, hinfo] using hb
              have hiz : i.zero = some zv := by
                cases hq : i.zero with
                | none => simp [zeroCells, hinfo, hq] at hz
                | some q => simp [zeroValue, typeInfo, hinfo, hq] at hzr; rw [hzr]
              have hneed : (xs.length + ys.length) * i.bytes ≤ 140737488355328 := by
                rw [hib]
                calc (xs.length + ys.length) * b ≤ 4294967296 * 4096 := Nat.mul_le_mul hlim hb4
                  _ ≤ 140737488355328 := by decide
              have hfit := growslice_fits (need := xs.length + ys.length) (old := cx) (bytes := i.bytes) (by omega) hneed
              have hrun := run_append_more (P := P) (w := w) (ty := ty) (t := t) (t2 := t2) hu hu2 hinfo hiz (a := ax) (n := xs.length) (c := cx) (a2 := ay) (n2 := ys.length) (c2 := cy)
                (by rw [hik]; exact fx w.drew (fun _ _ => rfl)) (by rw [hik]; exact fy w.drew (fun _ _ => rfl)) (by omega) (by unfold lim at hlim; omega) hfit
              have hcap := le_grownCap w (xs.length + ys.length) cx e
              generalize hC : grownCap w (xs.length + ys.length) cx e = C at hrun hcap
              let arr : Array Value := ((List.range (xs.length * k)).map f).toArray ++ ((List.range (ys.length * k)).map f2).toArray ++ Builtin.zeroCells zv.cells (C - (xs.length + ys.length))
              have hzs : zv.cells.size = k := by rw [hzreps.1]; exact hzk
              have hasz : arr.size = C * k := by
                simp only [arr, Builtin.zeroCells, Array.size_append, List.size_toArray, List.length_map, List.length_range, Array.size_map, Array.size_range, hzs]
                rw [← Nat.add_mul, ← Nat.add_mul]
                congr 1
                omega
              have hget : ∀ q, q < xs.length * k + ys.length * k → arr[q]? = some (if q < xs.length * k then f q else f2 (q - xs.length * k)) := by
                intro q hq
                simp only [arr]
                rw [Array.getElem?_append_left (by simp; omega), Array.getElem?_append]
                simp only [List.size_toArray, List.length_map, List.length_range]
                split
                · rename_i h1; simp [h1]
                · rename_i h1
                  have : q - xs.length * k < ys.length * k := by omega
                  simp [this]
              have hone : ∀ (o : Nat) u, arr[o]? = some u → one u = true := by
                intro o u ho
                by_cases h1 : o < xs.length * k + ys.length * k
                · rw [hget o h1] at ho
                  simp only [Option.some.injEq] at ho
                  subst ho
                  split
                  · rename_i h2; exact idx rx o h2
                  · exact idx ry _ (by omega)
                · simp only [arr] at ho
                  rw [Array.getElem?_append_right (by simp; omega)] at ho
                  simp only [Builtin.zeroCells, Array.getElem?_map, Option.map_eq_some_iff] at ho
                  obtain ⟨q, hq, rfl⟩ := ho
                  have hm : q % zv.cells.size < zv.cells.size := Nat.mod_lt _ (by rw [hzs]; exact hk0)
                  rw [getElem!_pos zv.cells _ hm]
                  have hz' : q % zv.cells.size < z.length := by rw [← hzreps.1]; exact hm
                  exact okCell_one (hzreps.2 _ _ _ (List.getElem?_eq_getElem hz') (Array.getElem?_eq_getElem hm)) (List.all_eq_true.1 hzok _ (List.getElem_mem hz'))
              have hRd := drew_rm hR
              obtain ⟨hR', hE'⟩ := alloc_row_tok (w := w.drew) hRd ht (arr := arr) e ((xs.length + ys.length) * k) hone
              have hE := (drew_ext φ m w).trans hE'
              refine ⟨_, _, _, hrun, hR', hE, ?_⟩
              refine lst_mk hlen.symm (by rw [hlen]; exact hcap) (fun e => by cases e) (fun ad' e _ => by cases e; rfl) (rowsAt_append (rx.mono hE) (ry.mono hE)) (fun ad' e => ?_) (hgrow _ _ _ _ (fun ad' e => ?_) (fun e => by cases e))
              · cases e
                intro q hq
                refine ⟨.inr ⟨rfl, by rw [hlen] at hq; simpa using hq⟩, ?_⟩
                rw [hlen, Nat.add_mul] at hq
                have := hget q hq
                have hh : ((w.drew).alloc (.cells arr e)).heap[w.heap.size]? = some (.cells arr e (0, 0)) := heap_alloc_new w.drew _
                simp only [World.cell?]
                show (match ((w.drew).alloc (.cells arr e)).heap[w.heap.size]? with | some (.cells c _ _) => if (none : Option Nat).isSome then none else c[0 + q]? | _ => none) = _
                rw [hh]
                simpa using this
              · cases e
                rw [hlen]
                have : (if id = id then (w.drew.heap.size, (xs.length + ys.length) * k, arr.size) else φ.tk id) = (w.heap.size, 0 + (xs.length + ys.length) * k, 0 + C * k) := by
                  rw [if_pos rfl, hasz]
                  simp
                exact this
        · cases h
      · cases h
    · cases h
  · cases h
end
end Go.Proofs.Ytojaokhkbmiidaa.Ev
