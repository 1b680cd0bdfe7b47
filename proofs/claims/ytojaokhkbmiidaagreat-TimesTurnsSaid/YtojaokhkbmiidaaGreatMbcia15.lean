/- Laws' arguments: recipes. -/
import Derived.Test.YtojaokhkbmiidaaGreatMbcia1
import Derived.Test.YtojaokhkbmiidaaGreatMbcia14
namespace Go.Proofs.YtojaokhkbmiidaaGreat.Ev
open Go Go.Proofs
set_option maxRecDepth 10000
set_option maxHeartbeats 8000000
set_option linter.unusedVariables false
set_option linter.unusedSimpArgs false
section
attribute [local irreducible] Next Inside Runs Ops table
theorem ty_int {d : Nat} {p : List AV} (h : Typed Tryz.prog (d + 1) 3 p) : ∃ n, inI n ∧ p = [iv n] := by
  unfold Typed at h
  rw [Tryz.underlying3] at h
  obtain ⟨n, rfl, n0, n1⟩ := h
  simp [IntKind.min, IntKind.max, IntKind.signed, IntKind.bits] at n0 n1
  exact ⟨n, ⟨n0, n1⟩, rfl⟩
theorem ty_bool {d : Nat} {p : List AV} (h : Typed Tryz.prog (d + 1) 4 p) : ∃ b, p = [.v (.bool b)] := by
  unfold Typed at h
  rw [Tryz.underlying4] at h
  exact h
theorem ty_str {d : Nat} {p : List AV} (h : Typed Tryz.prog (d + 1) 9 p) : ∃ s, okStr s ∧ p = [.v (.string s)] := by
  unfold Typed at h
  rw [Tryz.underlying9] at h
  obtain ⟨s, rfl, h1⟩ := h
  exact ⟨s, h1, rfl⟩
theorem ty_strs {d : Nat} : ∀ {rows : List (List AV)}, (∀ row ∈ rows, Typed Tryz.prog (d + 1) 9 row) → ∃ l, (∀ s ∈ l, okStr s) ∧ rows = rowsS l
  | [], _ => ⟨[], (fun s hs => by simp at hs), rfl⟩
  | row :: rows, h => by
    obtain ⟨l, h1, rfl⟩ := ty_strs fun r hr => h r (List.mem_cons_of_mem _ hr)
    obtain ⟨s, h2, rfl⟩ := ty_str (h row (List.mem_cons_self ..))
    refine ⟨s :: l, fun x hx => ?_, rfl⟩
    rcases List.mem_cons.1 hx with rfl | hx
    · exact h2
    · exact h1 x hx
theorem ty_strsP {d : Nat} {p : List AV} (h : Typed Tryz.prog (d + 2) 22 p) : ∃ l, (∀ s ∈ l, okStr s) ∧ p = [.lst .no 1 (rowsS l)] := by
  unfold Typed at h
  rw [Tryz.underlying22] at h
  obtain ⟨rows, rfl, _, h2⟩ := h
  obtain ⟨l, h3, rfl⟩ := ty_strs h2
  exact ⟨l, h3, by rw [size_cells szStr]⟩
theorem ty_nodesP {d : Nat} {p : List AV} (h : Typed Tryz.prog (d + 4) 70 p) : ∃ l, OkN l ∧ p = [.lst .no 7 (rowsN l)] := by
  unfold Typed at h
  rw [Tryz.underlying70] at h
  obtain ⟨rows, rfl, _, h2⟩ := h
  obtain ⟨l, h3, rfl⟩ := rows_nodes h2
  exact ⟨l, h3, by rw [size_cells szNode]⟩
theorem ty_len {d : Nat} {p : List AV} (h : Typed Tryz.prog (d + 2) 33 p) : ∃ u n, p = [iv u, iv n] := by
  unfold Typed at h
  rw [Tryz.underlying33] at h
  obtain ⟨parts, rfl, hl, h⟩ := h
  match parts, hl with
  | [p0, p1], _ =>
    obtain ⟨a, a0, rfl⟩ := ty_int (h 0 _ p0 rfl rfl)
    obtain ⟨b, b0, rfl⟩ := ty_int (h 1 _ p1 rfl rfl)
    exact ⟨a, b, rfl⟩
theorem ty_gs {d : Nat} {p : List AV} (h : Typed Tryz.prog (d + 5) 72 p) : ∃ x : Gs, okStr x.group ∧ p = x.row := by
  unfold Typed at h
  rw [Tryz.underlying72] at h
  obtain ⟨parts, rfl, hl, h⟩ := h
  match parts, hl with
  | [p0, p1, p2], _ =>
    obtain ⟨a, a0, rfl⟩ := ty_str (h 0 _ p0 rfl rfl)
    obtain ⟨b, b0, rfl⟩ := ty_int (h 1 _ p1 rfl rfl)
    obtain ⟨c, c0, rfl⟩ := ty_nodesP (h 2 _ p2 rfl rfl)
    exact ⟨⟨a, b, c⟩, a0, rfl⟩
theorem ty_gss {d : Nat} : ∀ {rows : List (List AV)}, (∀ row ∈ rows, Typed Tryz.prog (d + 5) 72 row) → ∃ l : List Gs, (∀ s ∈ l, okStr s.group) ∧ rows = rowsGs l
  | [], _ => ⟨[], (fun s hs => by simp at hs), rfl⟩
  | row :: rows, h => by
    obtain ⟨l, h1, rfl⟩ := ty_gss fun r hr => h r (List.mem_cons_of_mem _ hr)
    obtain ⟨s, h2, rfl⟩ := ty_gs (h row (List.mem_cons_self ..))
    refine ⟨s :: l, fun x hx => ?_, rfl⟩
    rcases List.mem_cons.1 hx with rfl | hx
    · exact h2
    · exact h1 x hx
theorem ty_gssP {d : Nat} {p : List AV} (h : Typed Tryz.prog (d + 6) 67 p) : ∃ l : List Gs, (∀ s ∈ l, okStr s.group) ∧ p = [.lst .no 3 (rowsGs l)] := by
  unfold Typed at h
  rw [Tryz.underlying67] at h
  obtain ⟨rows, rfl, _, h2⟩ := h
  obtain ⟨l, h3, rfl⟩ := ty_gss h2
  exact ⟨l, h3, by rw [size_cells szGs]⟩
def Ph.wide (p : Ph) : Prop := okStr p.name ∧ (∀ s ∈ p.frozen, okStr s) ∧ ∀ s ∈ p.sets, okStr s.group
theorem ty_ph {d : Nat} {p : List AV} (h : Typed Tryz.prog (d + 7) 69 p) : ∃ x : Ph, x.wide ∧ p = x.row := by
  unfold Typed at h
  rw [Tryz.underlying69] at h
  obtain ⟨parts, rfl, hl, h⟩ := h
  match parts, hl with
  | [p0, p1, p2, p3], _ =>
    obtain ⟨a, a0, rfl⟩ := ty_str (h 0 _ p0 rfl rfl)
    obtain ⟨u, n, rfl⟩ := ty_len (h 1 _ p1 rfl rfl)
    obtain ⟨b, b0, rfl⟩ := ty_strsP (h 2 _ p2 rfl rfl)
    obtain ⟨c, c0, rfl⟩ := ty_gssP (h 3 _ p3 rfl rfl)
    exact ⟨⟨a, u, n, b, c⟩, ⟨a0, b0, c0⟩, rfl⟩
theorem ty_phs {d : Nat} : ∀ {rows : List (List AV)}, (∀ row ∈ rows, Typed Tryz.prog (d + 7) 69 row) → ∃ l : List Ph, (∀ s ∈ l, s.wide) ∧ rows = rowsPh l
  | [], _ => ⟨[], (fun s hs => by simp at hs), rfl⟩
  | row :: rows, h => by
    obtain ⟨l, h1, rfl⟩ := ty_phs fun r hr => h r (List.mem_cons_of_mem _ hr)
    obtain ⟨s, h2, rfl⟩ := ty_ph (h row (List.mem_cons_self ..))
    refine ⟨s :: l, fun x hx => ?_, rfl⟩
    rcases List.mem_cons.1 hx with rfl | hx
    · exact h2
    · exact h1 x hx
theorem ty_phsP {d : Nat} {p : List AV} (h : Typed Tryz.prog (d + 8) 23 p) : ∃ l : List Ph, (∀ s ∈ l, s.wide) ∧ p = [.lst .no 5 (rowsPh l)] := by
  unfold Typed at h
  rw [Tryz.underlying23] at h
  obtain ⟨rows, rfl, _, h2⟩ := h
  obtain ⟨l, h3, rfl⟩ := ty_phs h2
  exact ⟨l, h3, by rw [size_cells szPh]⟩
theorem ty_tp {d : Nat} {p : List AV} (h : Typed Tryz.prog (d + 2) 25 p) : ∃ x : Tp, okStr x.Metric ∧ p = x.row := by
  unfold Typed at h
  rw [Tryz.underlying25] at h
  obtain ⟨parts, rfl, hl, h⟩ := h
  match parts, hl with
  | [p0, p1, p2, p3, p4, p5], _ =>
    obtain ⟨a, rfl⟩ := ty_bool (h 0 _ p0 rfl rfl)
    obtain ⟨b, b0, rfl⟩ := ty_str (h 1 _ p1 rfl rfl)
    obtain ⟨c, rfl⟩ := ty_bool (h 2 _ p2 rfl rfl)
    obtain ⟨e, e0, rfl⟩ := ty_int (h 3 _ p3 rfl rfl)
    obtain ⟨f, f0, rfl⟩ := ty_int (h 4 _ p4 rfl rfl)
    obtain ⟨g, rfl⟩ := ty_bool (h 5 _ p5 rfl rfl)
    exact ⟨⟨a, b, c, e, f, g⟩, b0, rfl⟩
theorem ty_pt {d : Nat} {p : List AV} (h : Typed Tryz.prog (d + 2) 27 p) : ∃ x : Pt, okStr x.Metric ∧ p = x.row := by
  unfold Typed at h
  rw [Tryz.underlying27] at h
  obtain ⟨parts, rfl, hl, h⟩ := h
  match parts, hl with
  | [p0, p1, p2, p3, p4, p5, p6, p7], _ =>
    obtain ⟨a, rfl⟩ := ty_bool (h 0 _ p0 rfl rfl)
    obtain ⟨b, b0, rfl⟩ := ty_str (h 1 _ p1 rfl rfl)
    obtain ⟨c, rfl⟩ := ty_bool (h 2 _ p2 rfl rfl)
    obtain ⟨e, e0, rfl⟩ := ty_int (h 3 _ p3 rfl rfl)
    obtain ⟨f, f0, rfl⟩ := ty_int (h 4 _ p4 rfl rfl)
    obtain ⟨g, g0, rfl⟩ := ty_int (h 5 _ p5 rfl rfl)
    obtain ⟨i, i0, rfl⟩ := ty_int (h 6 _ p6 rfl rfl)
    obtain ⟨j, j0, rfl⟩ := ty_int (h 7 _ p7 rfl rfl)
    exact ⟨⟨a, b, c, e, f, g, i, j⟩, b0, rfl⟩
theorem ty_kp {d : Nat} {p : List AV} (h : Typed Tryz.prog (d + 2) 29 p) : ∃ x : Kp, okStr x.Metric ∧ p = x.row := by
  unfold Typed at h
  rw [Tryz.underlying29] at h
  obtain ⟨parts, rfl, hl, h⟩ := h
  match parts, hl with
  | [p0, p1, p2, p3], _ =>
    obtain ⟨a, rfl⟩ := ty_bool (h 0 _ p0 rfl rfl)
    obtain ⟨b, b0, rfl⟩ := ty_str (h 1 _ p1 rfl rfl)
    obtain ⟨c, rfl⟩ := ty_bool (h 2 _ p2 rfl rfl)
    obtain ⟨e, e0, rfl⟩ := ty_int (h 3 _ p3 rfl rfl)
    exact ⟨⟨a, b, c, e⟩, b0, rfl⟩
theorem ty_em {d : Nat} {p : List AV} (h : Typed Tryz.prog (d + 2) 31 p) : ∃ x : Em, p = x.row := by
  unfold Typed at h
  rw [Tryz.underlying31] at h
  obtain ⟨parts, rfl, hl, h⟩ := h
  match parts, hl with
  | [p0, p1], _ =>
    obtain ⟨a, rfl⟩ := ty_bool (h 0 _ p0 rfl rfl)
    obtain ⟨b, b0, rfl⟩ := ty_int (h 1 _ p1 rfl rfl)
    exact ⟨⟨a, b⟩, rfl⟩
theorem ty_sw {d : Nat} {p : List AV} (h : Typed Tryz.prog (d + 3) 35 p) : ∃ x : Sw, p = x.row := by
  unfold Typed at h
  rw [Tryz.underlying35] at h
  obtain ⟨parts, rfl, hl, h⟩ := h
  match parts, hl with
  | [p0, p1, p2], _ =>
    obtain ⟨a, rfl⟩ := ty_bool (h 0 _ p0 rfl rfl)
    obtain ⟨u, n, rfl⟩ := ty_len (h 1 _ p1 rfl rfl)
    obtain ⟨b, b0, rfl⟩ := ty_int (h 2 _ p2 rfl rfl)
    exact ⟨⟨a, u, n, b⟩, rfl⟩
theorem ty_rc {d : Nat} {p : List AV} (h : Typed Tryz.prog (d + 9) 37 p) : ∃ R : Rc, R.wide ∧ (inI R.steps ∧ inI R.epoch ∧ inI R.eval) ∧ p = R.row := by
  unfold Typed at h
  rw [Tryz.underlying37] at h
  obtain ⟨parts, rfl, hl, h⟩ := h
  match parts, hl with
  | [p0, p1, p2, p3, p4, p5, p6, p7, p8, p9, p10, p11, p12], _ =>
    obtain ⟨c0, a0, rfl⟩ := ty_str (h 0 _ p0 rfl rfl)
    obtain ⟨c1, a1, rfl⟩ := ty_int (h 1 _ p1 rfl rfl)
    obtain ⟨c2, a2, rfl⟩ := ty_int (h 2 _ p2 rfl rfl)
    obtain ⟨c3, a3, rfl⟩ := ty_int (h 3 _ p3 rfl rfl)
    obtain ⟨c4, a4, rfl⟩ := ty_strsP (h 4 _ p4 rfl rfl)
    obtain ⟨c5, a5, rfl⟩ := ty_strsP (h 5 _ p5 rfl rfl)
    obtain ⟨c6, a6, rfl⟩ := ty_int (h 6 _ p6 rfl rfl)
    obtain ⟨c7, a7, rfl⟩ := ty_phsP (h 7 _ p7 rfl rfl)
    obtain ⟨s, s0, rfl⟩ := ty_tp (h 8 _ p8 rfl rfl)
    obtain ⟨t, t0, rfl⟩ := ty_pt (h 9 _ p9 rfl rfl)
    obtain ⟨k, k0, rfl⟩ := ty_kp (h 10 _ p10 rfl rfl)
    obtain ⟨e, rfl⟩ := ty_em (h 11 _ p11 rfl rfl)
    obtain ⟨w, rfl⟩ := ty_sw (h 12 _ p12 rfl rfl)
    exact ⟨⟨c0, c1, c2, c3, c4, c5, c6, c7, s.On, s.Metric, s.Max, s.Patience, s.Delta, s.Rel, t.On, t.Metric, t.Max, t.Factor, t.Patience, t.Cooldown, t.Floor, t.Delta, k.On, k.Metric, k.Max, k.Count, e.On, e.Decay, w.On, w.FromU, w.FromN, w.Every⟩, ⟨a0, a4, a5, a7, s0, t0, k0⟩, ⟨a1, a2, a6⟩, rfl⟩
theorem arg_rc {d : Nat} {a : AV} (h : TypedArg Tryz.prog (d + 9) 37 a) : ∃ R : Rc, R.wide ∧ (inI R.steps ∧ inI R.epoch ∧ inI R.eval) ∧ a = .agg R.row := by
  unfold TypedArg at h
  rw [Tryz.underlying37] at h
  obtain ⟨cs, rfl, h⟩ := h
  obtain ⟨R, h1, h2, rfl⟩ := ty_rc h
  exact ⟨R, h1, h2, rfl⟩
theorem lit_lite {R : Rc} (h : R.light = true) (hw : R.wide) : R.fit ∧ R.metrics.length ≤ 1000 ∧ R.groups.length ≤ 1000 ∧ R.phases.length ≤ 1000 ∧ ∀ p ∈ R.phases, p.frozen.length ≤ 1000 ∧ p.sets.length ≤ 1000 := by
  obtain ⟨h1, h2, h3, h4⟩ := light_lit h
  exact ⟨light_fit h hw, by omega, by omega, by omega, fun p hp => by obtain ⟨a1, a2, _⟩ := h4 p hp; exact ⟨by omega, by omega⟩⟩
end
section
attribute [local irreducible] Next Inside Runs Ops table
theorem arg_sp {d : Nat} {a : AV} (h : TypedArg Tryz.prog (d + 2) 51 a) : ∃ s : Sp, inI s.from_ ∧ inI s.to_ ∧ a = .agg s.row := by
  unfold TypedArg at h
  rw [Tryz.underlying51] at h
  obtain ⟨cs, rfl, h⟩ := h
  unfold Typed at h
  rw [Tryz.underlying51] at h
  obtain ⟨parts, rfl, hl, h⟩ := h
  match parts, hl with
  | [p0, p1], _ =>
    obtain ⟨a, a0, rfl⟩ := ty_int (h 0 _ p0 rfl rfl)
    obtain ⟨b, b0, rfl⟩ := ty_int (h 1 _ p1 rfl rfl)
    exact ⟨⟨a, b⟩, a0, b0, rfl⟩
end
section
attribute [local irreducible] Next Inside Runs Ops table
def turn1 (s : Nat × List Bool) (x : Evt) : Option (Nat × List Bool) :=
  if (x.kind == 1) = true then (if (x.item != (s.1 : Int)) = true then none else some (s.1 + 1, s.2))
  else if ((x.kind == 3) || (x.kind == 2)) = true then
    (if (decide (x.item < 0) || (decide (x.item ≥ (s.2.length : Int)) || (s.2.getD x.item.toNat false == (x.kind == 3)))) = true then none else some (s.1, s.2.set x.item.toNat (!s.2.getD x.item.toNat false)))
  else some s
def walkT (s : Nat × List Bool) : List Evt → Option (Nat × List Bool)
  | [] => some s
  | x :: r => (turn1 s x).bind fun s' => walkT s' r
theorem walkT_app {ys : List Evt} : ∀ (xs : List Evt) (s : Nat × List Bool), walkT s (xs ++ ys) = (walkT s xs).bind fun s' => walkT s' ys
  | [], s => rfl
  | x :: r, s => by
    show ((turn1 s x).bind fun s' => walkT s' (r ++ ys)) = ((turn1 s x).bind fun s' => walkT s' r).bind fun s' => walkT s' ys
    cases turn1 s x with
    | none => rfl
    | some t => exact walkT_app r t
def mp (n : Nat) (f : Nat → Bool) : List Bool := (List.range n).map f
theorem mp_len {n : Nat} {f : Nat → Bool} : (mp n f).length = n := by unfold mp; rw [List.length_map, List.length_range]
theorem mp_el {n i : Nat} {f : Nat → Bool} (h : i < (mp n f).length) : (mp n f)[i]'h = f i := by simp [mp]
theorem mp_get {n i : Nat} {f : Nat → Bool} (h : i < n) : (mp n f).getD i false = f i := by
  have h2 : i < (mp n f).length := by rw [mp_len]; exact h
  have := mp_el h2
  simp [List.getD, List.getElem?_eq_getElem h2, this]
theorem mp_eq {n : Nat} {f g : Nat → Bool} (h : ∀ i, i < n → f i = g i) : mp n f = mp n g := List.map_congr_left fun i hi => h i (List.mem_range.1 hi)
theorem mp_set {n i : Nat} {f : Nat → Bool} {v : Bool} : (mp n f).set i v = mp n fun j => if j = i then v else f j := by
  refine List.ext_getElem (by rw [List.length_set, mp_len, mp_len]) fun j h1 h2 => ?_
  rw [List.getElem_set, mp_el, mp_el]
  by_cases h : i = j
  · rw [if_pos h, if_pos h.symm]
  · rw [if_neg h, if_neg (Ne.symm h)]
/-- The flags as they stand when phase `p` begins. -/
def flagB (R : Rc) (p : Int) (j : Nat) : Bool := (frozenAt R p).getD j false
theorem pass {R : Rc} {p step : Int} {q : Nat} {c : Bool} {kind : Int} (hk : (kind == 3) = c) (hk2 : ((kind == 3) || (kind == 2)) = true) (hk1 : (kind == 1) = false) {D : Nat → Bool}
    (hD : ∀ j, flagB R p j = c → D j = flagB R (p - 1) j) {n : Nat} : ∀ i, i ≤ n → walkT (q, mp n D) (((List.range n).take i).flatMap (rturnEv R p step kind)) = some (q, mp n fun j => if j < i ∧ flagB R p j = c then c else D j)
  | 0, _ => by
    have e : (mp n fun j => if j < 0 ∧ flagB R p j = c then c else D j) = mp n D := mp_eq fun j _ => if_neg (by omega)
    rw [e]
    rfl
  | i + 1, hi => by
    rw [range_next (by omega), walkT_app, pass hk hk2 hk1 hD i (by omega)]
    show walkT (q, mp n fun j => if j < i ∧ flagB R p j = c then c else D j) (rturnEv R p step kind i) = _
    unfold rturnEv turnEv
    have eT : turnB R p i = (flagB R p i != flagB R (p - 1) i) := rfl
    have eF : (frozenAt R p).getD i false = flagB R p i := rfl
    rw [eT, eF, hk]
    by_cases h1 : flagB R p i = c
    · have h2 := hD i h1
      have upd : ∀ v, v = c → (mp n fun j => if j = i then v else if j < i ∧ flagB R p j = c then c else D j) = mp n fun j => if j < i + 1 ∧ flagB R p j = c then c else D j := fun v hv => mp_eq fun j _ => by
        by_cases hj : j = i
        · rw [if_pos hj, if_pos ⟨by omega, by rw [hj]; exact h1⟩, hv]
        · rw [if_neg hj]
          by_cases hji : j < i ∧ flagB R p j = c
          · rw [if_pos hji, if_pos ⟨by omega, hji.2⟩]
          · rw [if_neg hji, if_neg (fun h => hji ⟨by omega, h.2⟩)]
      rw [h1, ← h2]
      cases hd : (c != D i) with
      | false =>
        rw [if_neg (by decide)]
        have e : c = D i := by simpa using hd
        show some _ = some _
        rw [← upd (D i) e.symm]
        congr 2
        exact mp_eq fun j _ => by
          by_cases hj : j = i
          · rw [if_pos hj, if_neg (by omega), hj]
          · rw [if_neg hj]
      | true =>
        have e : c = !D i := by revert hd; cases c <;> cases D i <;> decide
        rw [if_pos rfl, if_pos (by cases c <;> rfl)]
        have e0 : (mp n fun j => if j < i ∧ flagB R p j = c then c else D j).getD i false = D i := by rw [mp_get (by omega), if_neg (by omega)]
        have e1 : turn1 (q, mp n fun j => if j < i ∧ flagB R p j = c then c else D j) ⟨step, kind, (i : Int)⟩ = some (q, mp n fun j => if j < i + 1 ∧ flagB R p j = c then c else D j) := by
          unfold turn1
          rw [if_neg (by rw [hk1]; decide), if_pos hk2, if_neg, Int.toNat_natCast, e0, mp_set, upd _ e.symm]
          rw [Int.toNat_natCast, e0, hk, mp_len, decide_eq_false (show ¬ (i : Int) < 0 by omega), decide_eq_false (show ¬ ((i : Int) ≥ (n : Int)) by omega), e]
          cases D i <;> decide
        show (turn1 _ _).bind _ = _
        rw [e1]
        rfl
    · have upd : (mp n fun j => if j < i ∧ flagB R p j = c then c else D j) = mp n fun j => if j < i + 1 ∧ flagB R p j = c then c else D j := mp_eq fun j _ => by
        by_cases hj : j = i
        · rw [hj, if_neg (fun h => h1 h.2), if_neg (fun h => h1 h.2)]
        · by_cases hji : j < i ∧ flagB R p j = c
          · rw [if_pos hji, if_pos ⟨by omega, hji.2⟩]
          · rw [if_neg hji, if_neg (fun h => hji ⟨by omega, h.2⟩)]
      have h3 : (flagB R p i == c) = false := by rw [beq_eq_false_iff_ne]; exact h1
      rw [upd]
      split
      · rw [if_neg (by rw [h3]; decide)]
        rfl
      · rfl
theorem begins_turn {R : Rc} {k : Nat} {step : Int} (hk : k < R.phases.length) : walkT (k, mp R.groups.length (flagB R ((k : Int) - 1))) (beginsAt R (k : Int) step) = some (k + 1, mp R.groups.length (flagB R (k : Int))) := by
  have hp : 0 ≤ (k : Int) ∧ (k : Int) < (R.phases.length : Int) := ⟨by omega, by omega⟩
  have e : beginsAt R (k : Int) step = ⟨step, 1, (k : Int)⟩ :: (turnsEv R (k : Int) step 2 ++ turnsEv R (k : Int) step 3) := by
    unfold beginsAt
    simp only [List.flatMap_cons, List.flatMap_nil, List.append_nil, List.singleton_append]
  rw [e, rturns hp, rturns hp]
  show (turn1 _ _).bind _ = _
  have e1 : turn1 (k, mp R.groups.length (flagB R ((k : Int) - 1))) ⟨step, 1, (k : Int)⟩ = some (k + 1, mp R.groups.length (flagB R ((k : Int) - 1))) := by
    unfold turn1
    rw [if_pos (show ((⟨step, 1, (k : Int)⟩ : Evt).kind == 1) = true from rfl), if_neg (by simp)]
  have tk : ∀ kind, (List.range R.groups.length).flatMap (rturnEv R (k : Int) step kind) = ((List.range R.groups.length).take R.groups.length).flatMap (rturnEv R (k : Int) step kind) := fun kind => by rw [List.take_of_length_le (by rw [List.length_range]; omega)]
  rw [e1, tk 2, tk 3]
  show walkT _ (_ ++ _) = _
  rw [walkT_app, pass (c := false) (by decide) (by decide) (by decide) (fun j _ => rfl) _ (Nat.le_refl _)]
  show walkT _ _ = _
  rw [pass (c := true) (by decide) (by decide) (by decide) (fun j hj => if_neg (fun h => by rw [hj] at h; cases h.2)) _ (Nat.le_refl _)]
  congr 2
  refine mp_eq fun j hj => ?_
  cases hf : flagB R (k : Int) j with
  | true => rw [if_pos ⟨hj, rfl⟩]
  | false => rw [if_neg (fun h => by cases h.2), if_pos ⟨hj, rfl⟩]
theorem swa_turn {R : Rc} {s : Nat × List Bool} {step : Int} : walkT s (swaEv R step) = some s := by
  unfold swaEv
  split <;> rfl
theorem end_turn {R : Rc} {s : Nat × List Bool} {step : Int} : walkT s (endEv R step) = some s := by
  unfold endEv
  split <;> rfl
theorem ev_turn {R : Rc} {s : Nat × List Bool} {step : Int} : walkT s (evAt R step) = walkT s (beginEv R step) := by
  unfold evAt
  rw [walkT_app, walkT_app]
  cases walkT s (beginEv R step) with
  | none => rfl
  | some t =>
    show (walkT t (swaEv R step)).bind _ = _
    rw [swa_turn]
    exact end_turn
def sT (R : Rc) (k : Nat) : Nat × List Bool := (k, mp R.groups.length (flagB R ((k : Int) - 1)))
theorem turn_in {R : Rc} (ok : R.Ok) {k a : Nat} (hk : k < R.phases.length) (ha : R.at_ k = (a : Int)) (h0 : walkT (sT R 0) (evRange R 0 a) = some (sT R k)) : ∀ d : Nat, ((a + d : Nat) : Int) ≤ R.at_ (k + 1) → walkT (sT R 0) (evRange R 0 (a + d)) = some (sT R (if d = 0 then k else k + 1))
  | 0, _ => h0
  | d + 1, h => by
    have ih := turn_in ok hk ha h0 d (by omega)
    have e : evRange R 0 (a + (d + 1)) = evRange R 0 (a + d) ++ evAt R ((a + d : Nat) : Int) := by
      have := @evRange_next R 0 (a + d)
      rw [Nat.zero_add] at this
      exact this
    rw [e, walkT_app, ih]
    show walkT _ (evAt R ((a + d : Nat) : Int)) = _
    rw [ev_turn, beginEv_at ok hk (by omega) (by omega), if_neg (Nat.succ_ne_zero d)]
    by_cases hd : d = 0
    · subst hd
      show walkT (sT R k) (if (R.at_ k == (a : Int)) = true then beginsAt R (k : Int) (a : Int) else []) = _
      rw [if_pos (by rw [ha]; simp)]
      unfold sT
      rw [begins_turn hk, show (((k + 1 : Nat) : Int) - 1) = (k : Int) by omega]
    · rw [if_neg hd, if_neg (by rw [ha]; simp only [beq_iff_eq]; omega)]
      rfl
theorem turn_at {R : Rc} (ok : R.Ok) : ∀ k : Nat, k ≤ R.phases.length → walkT (sT R 0) (evRange R 0 (R.at_ k).toNat) = some (sT R k)
  | 0, _ => rfl
  | k + 1, hk => by
    have ih := turn_at ok k (by omega)
    have h0 := at_mono ok.grow k (by omega)
    have hg := ok.grow k (by omega)
    obtain ⟨a, ha⟩ := Int.eq_ofNat_of_zero_le h0
    rw [ha, Int.toNat_natCast] at ih
    have := turn_in ok (by omega) ha ih ((R.at_ (k + 1)).toNat - a) (by omega)
    rw [show a + ((R.at_ (k + 1)).toNat - a) = (R.at_ (k + 1)).toNat by omega, if_neg (by omega)] at this
    exact this
theorem flag_none {R : Rc} : mp R.groups.length (flagB R (((0 : Nat) : Int) - 1)) = List.replicate R.groups.length false := by
  refine List.ext_getElem (by rw [mp_len, List.length_replicate]) fun j h1 h2 => ?_
  rw [mp_el, List.getElem_replicate]
  unfold flagB frozenAt
  rw [if_neg (by omega)]
  rfl
theorem turn_all {R : Rc} (hs : R.sound = true) : ∃ b, walkT (0, List.replicate R.groups.length false) (allEv R ⟨0, R.steps⟩) = some (R.phases.length, b) := by
  have ok := sound_ok' hs
  have := turn_at ok R.phases.length (Nat.le_refl _)
  rw [ok.last] at this
  unfold sT at this
  rw [flag_none] at this
  have e : allEv R ⟨0, R.steps⟩ = evRange R 0 R.steps.toNat := by
    unfold allEv
    show evRange R 0 (R.steps - 0).toNat = _
    rw [Int.sub_zero]
  rw [e]
  exact ⟨_, this⟩
end
end Go.Proofs.YtojaokhkbmiidaaGreat.Ev
