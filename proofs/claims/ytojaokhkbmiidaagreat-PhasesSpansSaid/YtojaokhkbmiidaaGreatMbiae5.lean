/- Laws' arguments: recipes. -/
import Derived.Test.YtojaokhkbmiidaaGreatMbiae1
import Derived.Test.YtojaokhkbmiidaaGreatMbiae4
import Derived.Test.YtojaokhkbmiidaaGreatMa2
namespace Go.Proofs.YtojaokhkbmiidaaGreat.Ev
open Go Go.Proofs
set_option maxRecDepth 10000
set_option maxHeartbeats 8000000
set_option linter.unusedVariables false
set_option linter.unusedSimpArgs false
attribute [local irreducible] Next Inside Runs Ops table
theorem ty_int {d : Nat} {p : List AV} (h : Typed Tryz.prog (d + 1) 3 p) : ∃ n, inI n ∧ p = [iv n] := by
  unfold Typed at h
  rw [Tryz.underlying3] at h
  obtain ⟨n, rfl, n0, n1⟩ := h
  simp [IntKind.min, IntKind.max, IntKind.signed, IntKind.bits] at n0 n1
  exact ⟨n, ⟨n0, n1⟩, rfl⟩
theorem ty_bool {d : Nat} {p : List AV} (h : Typed Tryz.prog (d + 1) 4 p) : ∃ b, p = [.v (.bool b)] := by
  unfold Typed at h
  rw [Tryz.underlying4] at h
  exact h
theorem ty_str {d : Nat} {p : List AV} (h : Typed Tryz.prog (d + 1) 9 p) : ∃ s, okStr s ∧ p = [.v (.string s)] := by
  unfold Typed at h
  rw [Tryz.underlying9] at h
  obtain ⟨s, rfl, h1⟩ := h
  exact ⟨s, h1, rfl⟩
theorem ty_strs {d : Nat} : ∀ {rows : List (List AV)}, (∀ row ∈ rows, Typed Tryz.prog (d + 1) 9 row) → ∃ l, (∀ s ∈ l, okStr s) ∧ rows = rowsS l
  | [], _ => ⟨[], (fun s hs => by simp at hs), rfl⟩
  | row :: rows, h => by
    obtain ⟨l, h1, rfl⟩ := ty_strs fun r hr => h r (List.mem_cons_of_mem _ hr)
    obtain ⟨s, h2, rfl⟩ := ty_str (h row (List.mem_cons_self ..))
    refine ⟨s :: l, fun x hx => ?_, rfl⟩
    rcases List.mem_cons.1 hx with rfl | hx
    · exact h2
    · exact h1 x hx
theorem ty_strsP {d : Nat} {p : List AV} (h : Typed Tryz.prog (d + 2) 22 p) : ∃ l, (∀ s ∈ l, okStr s) ∧ p = [.lst .no 1 (rowsS l)] := by
  unfold Typed at h
  rw [Tryz.underlying22] at h
  obtain ⟨rows, rfl, _, h2⟩ := h
  obtain ⟨l, h3, rfl⟩ := ty_strs h2
  exact ⟨l, h3, by rw [size_cells szStr]⟩
theorem ty_nodesP {d : Nat} {p : List AV} (h : Typed Tryz.prog (d + 4) 70 p) : ∃ l, OkN l ∧ p = [.lst .no 7 (rowsN l)] := by
  unfold Typed at h
  rw [Tryz.underlying70] at h
  obtain ⟨rows, rfl, _, h2⟩ := h
  obtain ⟨l, h3, rfl⟩ := rows_nodes h2
  exact ⟨l, h3, by rw [size_cells szNode]⟩
theorem ty_len {d : Nat} {p : List AV} (h : Typed Tryz.prog (d + 2) 33 p) : ∃ u n, p = [iv u, iv n] := by
  unfold Typed at h
  rw [Tryz.underlying33] at h
  obtain ⟨parts, rfl, hl, h⟩ := h
  match parts, hl with
  | [p0, p1], _ =>
    obtain ⟨a, a0, rfl⟩ := ty_int (h 0 _ p0 rfl rfl)
    obtain ⟨b, b0, rfl⟩ := ty_int (h 1 _ p1 rfl rfl)
    exact ⟨a, b, rfl⟩
theorem ty_gs {d : Nat} {p : List AV} (h : Typed Tryz.prog (d + 5) 72 p) : ∃ x : Gs, okStr x.group ∧ p = x.row := by
  unfold Typed at h
  rw [Tryz.underlying72] at h
  obtain ⟨parts, rfl, hl, h⟩ := h
  match parts, hl with
  | [p0, p1, p2], _ =>
    obtain ⟨a, a0, rfl⟩ := ty_str (h 0 _ p0 rfl rfl)
    obtain ⟨b, b0, rfl⟩ := ty_int (h 1 _ p1 rfl rfl)
    obtain ⟨c, c0, rfl⟩ := ty_nodesP (h 2 _ p2 rfl rfl)
    exact ⟨⟨a, b, c⟩, a0, rfl⟩
theorem ty_gss {d : Nat} : ∀ {rows : List (List AV)}, (∀ row ∈ rows, Typed Tryz.prog (d + 5) 72 row) → ∃ l : List Gs, (∀ s ∈ l, okStr s.group) ∧ rows = rowsGs l
  | [], _ => ⟨[], (fun s hs => by simp at hs), rfl⟩
  | row :: rows, h => by
    obtain ⟨l, h1, rfl⟩ := ty_gss fun r hr => h r (List.mem_cons_of_mem _ hr)
    obtain ⟨s, h2, rfl⟩ := ty_gs (h row (List.mem_cons_self ..))
    refine ⟨s :: l, fun x hx => ?_, rfl⟩
    rcases List.mem_cons.1 hx with rfl | hx
    · exact h2
    · exact h1 x hx
theorem ty_gssP {d : Nat} {p : List AV} (h : Typed Tryz.prog (d + 6) 67 p) : ∃ l : List Gs, (∀ s ∈ l, okStr s.group) ∧ p = [.lst .no 3 (rowsGs l)] := by
  unfold Typed at h
  rw [Tryz.underlying67] at h
  obtain ⟨rows, rfl, _, h2⟩ := h
  obtain ⟨l, h3, rfl⟩ := ty_gss h2
  exact ⟨l, h3, by rw [size_cells szGs]⟩
def Ph.wide (p : Ph) : Prop := okStr p.name ∧ (∀ s ∈ p.frozen, okStr s) ∧ ∀ s ∈ p.sets, okStr s.group
theorem ty_ph {d : Nat} {p : List AV} (h : Typed Tryz.prog (d + 7) 69 p) : ∃ x : Ph, x.wide ∧ p = x.row := by
  unfold Typed at h
  rw [Tryz.underlying69] at h
  obtain ⟨parts, rfl, hl, h⟩ := h
  match parts, hl with
  | [p0, p1, p2, p3], _ =>
    obtain ⟨a, a0, rfl⟩ := ty_str (h 0 _ p0 rfl rfl)
    obtain ⟨u, n, rfl⟩ := ty_len (h 1 _ p1 rfl rfl)
    obtain ⟨b, b0, rfl⟩ := ty_strsP (h 2 _ p2 rfl rfl)
    obtain ⟨c, c0, rfl⟩ := ty_gssP (h 3 _ p3 rfl rfl)
    exact ⟨⟨a, u, n, b, c⟩, ⟨a0, b0, c0⟩, rfl⟩
theorem ty_phs {d : Nat} : ∀ {rows : List (List AV)}, (∀ row ∈ rows, Typed Tryz.prog (d + 7) 69 row) → ∃ l : List Ph, (∀ s ∈ l, s.wide) ∧ rows = rowsPh l
  | [], _ => ⟨[], (fun s hs => by simp at hs), rfl⟩
  | row :: rows, h => by
    obtain ⟨l, h1, rfl⟩ := ty_phs fun r hr => h r (List.mem_cons_of_mem _ hr)
    obtain ⟨s, h2, rfl⟩ := ty_ph (h row (List.mem_cons_self ..))
    refine ⟨s :: l, fun x hx => ?_, rfl⟩
    rcases List.mem_cons.1 hx with rfl | hx
    · exact h2
    · exact h1 x hx
theorem ty_phsP {d : Nat} {p : List AV} (h : Typed Tryz.prog (d + 8) 23 p) : ∃ l : List Ph, (∀ s ∈ l, s.wide) ∧ p = [.lst .no 5 (rowsPh l)] := by
  unfold Typed at h
  rw [Tryz.underlying23] at h
  obtain ⟨rows, rfl, _, h2⟩ := h
  obtain ⟨l, h3, rfl⟩ := ty_phs h2
  exact ⟨l, h3, by rw [size_cells szPh]⟩
theorem ty_tp {d : Nat} {p : List AV} (h : Typed Tryz.prog (d + 2) 25 p) : ∃ x : Tp, okStr x.Metric ∧ p = x.row := by
  unfold Typed at h
  rw [Tryz.underlying25] at h
  obtain ⟨parts, rfl, hl, h⟩ := h
  match parts, hl with
  | [p0, p1, p2, p3, p4, p5], _ =>
    obtain ⟨a, rfl⟩ := ty_bool (h 0 _ p0 rfl rfl)
    obtain ⟨b, b0, rfl⟩ := ty_str (h 1 _ p1 rfl rfl)
    obtain ⟨c, rfl⟩ := ty_bool (h 2 _ p2 rfl rfl)
    obtain ⟨e, e0, rfl⟩ := ty_int (h 3 _ p3 rfl rfl)
    obtain ⟨f, f0, rfl⟩ := ty_int (h 4 _ p4 rfl rfl)
    obtain ⟨g, rfl⟩ := ty_bool (h 5 _ p5 rfl rfl)
    exact ⟨⟨a, b, c, e, f, g⟩, b0, rfl⟩
theorem ty_pt {d : Nat} {p : List AV} (h : Typed Tryz.prog (d + 2) 27 p) : ∃ x : Pt, okStr x.Metric ∧ p = x.row := by
  unfold Typed at h
  rw [Tryz.underlying27] at h
  obtain ⟨parts, rfl, hl, h⟩ := h
  match parts, hl with
  | [p0, p1, p2, p3, p4, p5, p6, p7], _ =>
    obtain ⟨a, rfl⟩ := ty_bool (h 0 _ p0 rfl rfl)
    obtain ⟨b, b0, rfl⟩ := ty_str (h 1 _ p1 rfl rfl)
    obtain ⟨c, rfl⟩ := ty_bool (h 2 _ p2 rfl rfl)
    obtain ⟨e, e0, rfl⟩ := ty_int (h 3 _ p3 rfl rfl)
    obtain ⟨f, f0, rfl⟩ := ty_int (h 4 _ p4 rfl rfl)
    obtain ⟨g, g0, rfl⟩ := ty_int (h 5 _ p5 rfl rfl)
    obtain ⟨i, i0, rfl⟩ := ty_int (h 6 _ p6 rfl rfl)
    obtain ⟨j, j0, rfl⟩ := ty_int (h 7 _ p7 rfl rfl)
    exact ⟨⟨a, b, c, e, f, g, i, j⟩, b0, rfl⟩
theorem ty_kp {d : Nat} {p : List AV} (h : Typed Tryz.prog (d + 2) 29 p) : ∃ x : Kp, okStr x.Metric ∧ p = x.row := by
  unfold Typed at h
  rw [Tryz.underlying29] at h
  obtain ⟨parts, rfl, hl, h⟩ := h
  match parts, hl with
  | [p0, p1, p2, p3], _ =>
    obtain ⟨a, rfl⟩ := ty_bool (h 0 _ p0 rfl rfl)
    obtain ⟨b, b0, rfl⟩ := ty_str (h 1 _ p1 rfl rfl)
    obtain ⟨c, rfl⟩ := ty_bool (h 2 _ p2 rfl rfl)
    obtain ⟨e, e0, rfl⟩ := ty_int (h 3 _ p3 rfl rfl)
    exact ⟨⟨a, b, c, e⟩, b0, rfl⟩
theorem ty_em {d : Nat} {p : List AV} (h : Typed Tryz.prog (d + 2) 31 p) : ∃ x : Em, p = x.row := by
  unfold Typed at h
  rw [Tryz.underlying31] at h
  obtain ⟨parts, rfl, hl, h⟩ := h
  match parts, hl with
  | [p0, p1], _ =>
    obtain ⟨a, rfl⟩ := ty_bool (h 0 _ p0 rfl rfl)
    obtain ⟨b, b0, rfl⟩ := ty_int (h 1 _ p1 rfl rfl)
    exact ⟨⟨a, b⟩, rfl⟩
theorem ty_sw {d : Nat} {p : List AV} (h : Typed Tryz.prog (d + 3) 35 p) : ∃ x : Sw, p = x.row := by
  unfold Typed at h
  rw [Tryz.underlying35] at h
  obtain ⟨parts, rfl, hl, h⟩ := h
  match parts, hl with
  | [p0, p1, p2], _ =>
    obtain ⟨a, rfl⟩ := ty_bool (h 0 _ p0 rfl rfl)
    obtain ⟨u, n, rfl⟩ := ty_len (h 1 _ p1 rfl rfl)
    obtain ⟨b, b0, rfl⟩ := ty_int (h 2 _ p2 rfl rfl)
    exact ⟨⟨a, u, n, b⟩, rfl⟩
theorem ty_rc {d : Nat} {p : List AV} (h : Typed Tryz.prog (d + 9) 37 p) : ∃ R : Rc, R.wide ∧ (inI R.steps ∧ inI R.epoch ∧ inI R.eval) ∧ p = R.row := by
  unfold Typed at h
  rw [Tryz.underlying37] at h
  obtain ⟨parts, rfl, hl, h⟩ := h
  match parts, hl with
  | [p0, p1, p2, p3, p4, p5, p6, p7, p8, p9, p10, p11, p12], _ =>
    obtain ⟨c0, a0, rfl⟩ := ty_str (h 0 _ p0 rfl rfl)
    obtain ⟨c1, a1, rfl⟩ := ty_int (h 1 _ p1 rfl rfl)
    obtain ⟨c2, a2, rfl⟩ := ty_int (h 2 _ p2 rfl rfl)
    obtain ⟨c3, a3, rfl⟩ := ty_int (h 3 _ p3 rfl rfl)
    obtain ⟨c4, a4, rfl⟩ := ty_strsP (h 4 _ p4 rfl rfl)
    obtain ⟨c5, a5, rfl⟩ := ty_strsP (h 5 _ p5 rfl rfl)
    obtain ⟨c6, a6, rfl⟩ := ty_int (h 6 _ p6 rfl rfl)
    obtain ⟨c7, a7, rfl⟩ := ty_phsP (h 7 _ p7 rfl rfl)
    obtain ⟨s, s0, rfl⟩ := ty_tp (h 8 _ p8 rfl rfl)
    obtain ⟨t, t0, rfl⟩ := ty_pt (h 9 _ p9 rfl rfl)
    obtain ⟨k, k0, rfl⟩ := ty_kp (h 10 _ p10 rfl rfl)
    obtain ⟨e, rfl⟩ := ty_em (h 11 _ p11 rfl rfl)
    obtain ⟨w, rfl⟩ := ty_sw (h 12 _ p12 rfl rfl)
    exact ⟨⟨c0, c1, c2, c3, c4, c5, c6, c7, s.On, s.Metric, s.Max, s.Patience, s.Delta, s.Rel, t.On, t.Metric, t.Max, t.Factor, t.Patience, t.Cooldown, t.Floor, t.Delta, k.On, k.Metric, k.Max, k.Count, e.On, e.Decay, w.On, w.FromU, w.FromN, w.Every⟩, ⟨a0, a4, a5, a7, s0, t0, k0⟩, ⟨a1, a2, a6⟩, rfl⟩
theorem arg_rc {d : Nat} {a : AV} (h : TypedArg Tryz.prog (d + 9) 37 a) : ∃ R : Rc, R.wide ∧ (inI R.steps ∧ inI R.epoch ∧ inI R.eval) ∧ a = .agg R.row := by
  unfold TypedArg at h
  rw [Tryz.underlying37] at h
  obtain ⟨cs, rfl, h⟩ := h
  obtain ⟨R, h1, h2, rfl⟩ := ty_rc h
  exact ⟨R, h1, h2, rfl⟩
theorem lit_lite {R : Rc} (h : R.light = true) (hw : R.wide) : R.fit ∧ R.metrics.length ≤ 1000 ∧ R.groups.length ≤ 1000 ∧ R.phases.length ≤ 1000 ∧ ∀ p ∈ R.phases, p.frozen.length ≤ 1000 ∧ p.sets.length ≤ 1000 := by
  obtain ⟨h1, h2, h3, h4⟩ := light_lit h
  exact ⟨light_fit h hw, by omega, by omega, by omega, fun p hp => by obtain ⟨a1, a2, _⟩ := h4 p hp; exact ⟨by omega, by omega⟩⟩
end Go.Proofs.YtojaokhkbmiidaaGreat.Ev

namespace Go.Proofs.YtojaokhkbmiidaaGreat.Ev
open Go Go.Proofs
set_option maxRecDepth 10000
set_option maxHeartbeats 8000000
set_option linter.unusedVariables false
set_option linter.unusedSimpArgs false
attribute [local irreducible] Next Inside Runs Ops table
def extC : Ctx := ⟨fun _ _ => none, fun _ => false, fun f => if f = 122 then some isNameG else if f = 86 then some setsG else if f = 77 then some endsRG else none⟩
theorem extC_ok : ∀ f g, extC.ext f = some g → FunOk Tryz.prog f g := by
  intro f g h
  unfold extC at h
  simp only at h
  split at h
  · rename_i e
    cases h
    subst e
    exact is_ok
  · split at h
    · rename_i e
      cases h
      subst e
      exact sets_ok
    · split at h
      · rename_i e
        cases h
        subst e
        exact endsR_ok
      · cases h
theorem awake_of {f : FuncId} (hrun : runC Tryz.prog extC 60 f [] ⟨[], []⟩ = some (.v (.bool true), ⟨[], []⟩)) : FunOk Tryz.prog f yesG := by
  have h := wide_ok (P := Tryz.prog) (f := f) (x := .bool true) fun args m r m' hg => by
    dsimp only at hg
    split at hg
    · rename_i hc
      obtain ⟨rfl, h1, h2⟩ := hc
      obtain ⟨v, t⟩ := m
      simp only at h1 h2
      subst h1
      subst h2
      cases hg
      exact runC_ok mixed extC_ok 60 _ _ _ _ _ hrun
    · cases hg
  intro args m r m' hg
  refine h args m r m' ?_
  cases args with
  | nil => exact hg
  | cons a rest => cases hg
theorem awake22_ok : FunOk Tryz.prog 17 yesG := awake_of (by kernel_rfl)
end Go.Proofs.YtojaokhkbmiidaaGreat.Ev
