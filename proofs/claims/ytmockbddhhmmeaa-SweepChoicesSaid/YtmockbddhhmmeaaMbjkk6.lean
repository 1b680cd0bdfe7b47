/- The document's words on recipes: Light. -/
import Derived.Test.YtmockbddhhmmeaaMbjkk2
import Derived.Test.YtmockbddhhmmeaaMbjkk5
import Derived.Test.YtmockbddhhmmeaaMbjkk1
namespace Go.Proofs.Ytmockbddhhmmeaa.Ev
open Go Go.Proofs
set_option maxRecDepth 10000
set_option maxHeartbeats 8000000
set_option linter.unusedVariables false
set_option linter.unusedSimpArgs false
section
attribute [local irreducible] Next Inside Runs Ops table
attribute [local go_sem] szStr szInt Option.getD_some isNil evStr iv loadStr loadInt rowsS_len rowsGs_len rowsPh_len rowsN_len mapRc mapPh mapGs cellsRc newRc cellsPh cellsGs ldPh ldGs zrPh zoPh znPh zsPh fpRcName fpRcMetrics fpRcGroups fpRcPhases fpRcStop fpRcStopMetric fpRcPlateau fpRcPlateauMetric fpRcKeep fpRcKeepMetric fpPhName fpPhFrozen fpPhSets feGsGroup leGsGroup feGsNodes leGsNodes
def Rc.wide (R : Rc) : Prop := okStr R.name ∧ (∀ s ∈ R.metrics, okStr s) ∧ (∀ s ∈ R.groups, okStr s) ∧ (∀ p ∈ R.phases, okStr p.name ∧ (∀ s ∈ p.frozen, okStr s) ∧ ∀ s ∈ p.sets, okStr s.group) ∧ okStr R.stopMetric ∧ okStr R.plateauMetric ∧ okStr R.keepMetric
instance (R : Rc) : Decidable R.wide := by unfold Rc.wide; exact inferInstance
structure Rc.Lit (R : Rc) : Prop where
 metrics : R.metrics.length ≤ 12
 groups : R.groups.length ≤ 12
 phases : R.phases.length ≤ 20
 each : ∀ p ∈ R.phases, p.frozen.length ≤ 12 ∧ p.sets.length ≤ 30 ∧ ∀ s ∈ p.sets, s.nodes.length ≤ 60
def kpLight : Nat → Option (List Nat) := fun
 | 0 => some [1]
 | 1 => some [1, 47]
 | 2 => some [2]
 | 3 => some [1, 3]
 | 4 => some [1, 3, 4]
 | 5 => some [1, 3, 4, 52]
 | 6 => some [1, 3, 4]
 | 7 => some [1, 3, 4, 5]
 | 8 => some [1, 3, 4, 5, 79]
 | 9 => some [2]
 | 10 => some [1, 3, 4, 5, 6]
 | 11 => some [1, 3, 4, 5, 6, 88]
 | 12 => some [1, 3, 4, 5, 6]
 | 13 => some [1, 3, 4, 5, 6, 108]
 | 14 => some [2]
 | 15 => some [1, 3, 4, 5, 6]
 | 16 => some [1, 3, 4, 5, 7]
 | 17 => some [1, 3, 4, 5, 7, 122]
 | 18 => some [1, 3, 4, 5, 7]
 | 19 => some [1, 3, 4, 5, 7, 131]
 | 20 => some [2]
 | 21 => some [1, 3, 8]
 | 22 => some [1, 3, 8, 140]
 | 23 => some [1, 3, 8]
 | 24 => some [1, 3, 8, 176]
 | 25 => some [2]
 | 26 => some [2]
 | _ => none
attribute [go_sem] kpLight
end
section
attribute [local irreducible] Next Inside Runs Ops table
theorem ty_int {d : Nat} {p : List AV} (h : Typed Try.prog (d + 1) 3 p) : ∃ n, inI n ∧ p = [iv n] := by
 unfold Typed at h
 rw [Try.underlying3] at h
 obtain ⟨n, rfl, n0, n1⟩ := h
 simp [IntKind.min, IntKind.max, IntKind.signed, IntKind.bits] at n0 n1
 exact ⟨n, ⟨n0, n1⟩, rfl⟩
def Ph.wide (p : Ph) : Prop := okStr p.name ∧ (∀ s ∈ p.frozen, okStr s) ∧ ∀ s ∈ p.sets, okStr s.group
end
section
attribute [local irreducible] Next Inside Runs Ops table
theorem ty_place {d : Nat} {p : List AV} (h : Typed Try.prog (d + 2) 50 p) : ∃ a b c e, p = [iv a, iv b, iv c, iv e] := by
 unfold Typed at h
 rw [Try.underlying50] at h
 obtain ⟨parts, rfl, hl, h⟩ := h
 match parts, hl with
 | [p0, p1, p2, p3], _ =>
  obtain ⟨a, a0, rfl⟩ := ty_int (h 0 _ p0 rfl rfl)
  obtain ⟨b, b0, rfl⟩ := ty_int (h 1 _ p1 rfl rfl)
  obtain ⟨c, c0, rfl⟩ := ty_int (h 2 _ p2 rfl rfl)
  obtain ⟨e, e0, rfl⟩ := ty_int (h 3 _ p3 rfl rfl)
  exact ⟨a, b, c, e, rfl⟩
theorem ty_ints {d : Nat} : ∀ {rows : List (List AV)}, (∀ row ∈ rows, Typed Try.prog (d + 1) 3 row) → ∃ l, rows = rowsI l
 | [], _ => ⟨[], rfl⟩
 | row :: rows, h => by
  obtain ⟨l, rfl⟩ := ty_ints fun r hr => h r (List.mem_cons_of_mem _ hr)
  obtain ⟨s, h2, rfl⟩ := ty_int (h row (List.mem_cons_self ..))
  exact ⟨s :: l, rfl⟩
theorem ty_intsP {d : Nat} {p : List AV} (h : Typed Try.prog (d + 2) 51 p) : ∃ l, p = [.lst .no 1 (rowsI l)] := by
 unfold Typed at h
 rw [Try.underlying51] at h
 obtain ⟨rows, rfl, _, h2⟩ := h
 obtain ⟨l, rfl⟩ := ty_ints h2
 exact ⟨l, by rw [size_cells szInt]⟩
theorem ty_ax {d : Nat} {p : List AV} (h : Typed Try.prog (d + 3) 53 p) : ∃ x : Ax, p = x.row := by
 unfold Typed at h
 rw [Try.underlying53] at h
 obtain ⟨parts, rfl, hl, h⟩ := h
 match parts, hl with
 | [p0, p1], _ =>
  obtain ⟨a, b, c, e, rfl⟩ := ty_place (h 0 _ p0 rfl rfl)
  obtain ⟨l, rfl⟩ := ty_intsP (h 1 _ p1 rfl rfl)
  exact ⟨⟨a, b, c, e, l⟩, rfl⟩
theorem ty_axs {d : Nat} : ∀ {rows : List (List AV)}, (∀ row ∈ rows, Typed Try.prog (d + 3) 53 row) → ∃ l, rows = rowsAx l
 | [], _ => ⟨[], rfl⟩
 | row :: rows, h => by
  obtain ⟨l, rfl⟩ := ty_axs fun r hr => h r (List.mem_cons_of_mem _ hr)
  obtain ⟨s, rfl⟩ := ty_ax (h row (List.mem_cons_self ..))
  exact ⟨s :: l, rfl⟩
theorem arg_axs {d : Nat} {a : AV} (h : TypedArg Try.prog (d + 4) 38 a) : ∃ l, a = .lst .no 5 (rowsAx l) := by
 obtain ⟨rows, rfl, _, h2⟩ := arg_slice Try.underlying38 h
 obtain ⟨l, rfl⟩ := ty_axs h2
 exact ⟨l, by rw [size_cells szAx]⟩
theorem arg_ints3 {d : Nat} {a : AV} (h : TypedArg Try.prog (d + 2) 51 a) : ∃ l, a = .lst .no 1 (rowsI l) := by
 obtain ⟨rows, rfl, _, h2⟩ := arg_slice Try.underlying51 h
 obtain ⟨l, rfl⟩ := ty_ints h2
 exact ⟨l, by rw [size_cells szInt]⟩
end
end Go.Proofs.Ytmockbddhhmmeaa.Ev
