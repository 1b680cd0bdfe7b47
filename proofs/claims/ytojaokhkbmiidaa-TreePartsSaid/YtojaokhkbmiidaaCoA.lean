/- Words for all walks: types, numbers, texts, lists of texts. -/
import Derived.Test.YtojaokhkbmiidaaEv28
import Derived.Test.YtojaokhkbmiidaaChecked
import Derived.KernelRfl
namespace Go.Proofs.Ytojaokhkbmiidaa.Ev
open Go Go.Proofs
set_option maxRecDepth 10000
set_option linter.unusedVariables false
set_option linter.unusedSimpArgs false
theorem mixed : Try.prog.follows .mixedOrders = true := Try.checked.mixed
theorem strS : tStr Try.prog 9 = true := by simp only [tStr, Try.underlying9]
theorem szInt : tSize Try.prog 3 = some 1 := by kernel_rfl
theorem szStr : tSize Try.prog 9 = some 1 := by kernel_rfl
theorem elStrs : tElem Try.prog 38 = some 9 := by simp only [tElem, Try.underlying38]
theorem naStrs : tArr Try.prog 38 = none := by simp only [tArr, Try.underlying38]
theorem appStrs : appB Try.prog 38 38 1 = true := by kernel_rfl
theorem elInts : tElem Try.prog 25 = some 3 := by simp only [tElem, Try.underlying25]
theorem naInts : tArr Try.prog 25 = none := by simp only [tArr, Try.underlying25]
theorem appInts : appB Try.prog 25 25 1 = true := by kernel_rfl
theorem loadStr {m : Mem} {c : AV} {cs : List AV} : evLoad Try.prog m 9 (.eptr (c :: cs)) = some c := load_one (by simp only [tAgg, Try.underlying9]) szStr
theorem loadInt {m : Mem} {c : AV} {cs : List AV} : evLoad Try.prog m 3 (.eptr (c :: cs)) = some c := load_one (by simp only [tAgg, Try.underlying3]) szInt
theorem mkInts0 : evBuildSlice Try.prog 25 0 [] = some (.lst .full 1 []) := build_nil appInts
theorem mkInts1 {b : Int} : evBuildSlice Try.prog 25 1 [(0, .v (.int .i64 b))] = some (.lst .full 1 [[.v (.int .i64 b)]]) := build_one appInts (by decide) rfl rfl
theorem mkStrs0 : evBuildSlice Try.prog 38 0 [] = some (.lst .full 1 []) := build_nil appStrs
theorem mkStrs1 {b : ByteArray} : evBuildSlice Try.prog 38 1 [(0, .v (.string b))] = some (.lst .full 1 [[.v (.string b)]]) := build_one appStrs (by decide) rfl rfl
/-! ### numbers -/
theorem u8_wrap {n : Nat} (h : n < 256) : IntKind.u8.wrap (n : Int) = n := wrap_of _ _ (by simp [IntKind.min, IntKind.signed]) (by simp [IntKind.max, IntKind.signed, IntKind.bits]; omega)
theorem u32_wrap {n : Nat} (h : n < 4294967296) : IntKind.u32.wrap (n : Int) = n := wrap_of _ _ (by simp [IntKind.min, IntKind.signed]) (by simp [IntKind.max, IntKind.signed, IntKind.bits]; omega)
theorem u64_wrap {n : Nat} (h : n < 18446744073709551616) : IntKind.u64.wrap (n : Int) = n := wrap_of _ _ (by simp [IntKind.min, IntKind.signed]) (by simp [IntKind.max, IntKind.signed, IntKind.bits]; omega)
theorem i64_wrap {n : Int} (h0 : -9223372036854775808 ≤ n) (h : n ≤ 9223372036854775807) : IntKind.i64.wrap n = n := wrap_i64 h0 h
theorem tmod_nat (a b : Nat) : (a : Int).tmod (b : Int) = (a % b : Nat) := by rfl
def inI (n : Int) : Prop := -9223372036854775808 ≤ n ∧ n ≤ 9223372036854775807
instance (n : Int) : Decidable (inI n) := by unfold inI; exact inferInstance
theorem next_i64 {i : Nat} (h : i < 9223372036854775807) : IntKind.i64.wrap ((i : Int) + 1) = ((i + 1 : Nat) : Int) := i64_wrap (n := ((i + 1 : Nat) : Int)) (by omega) (by omega)
/-! ### lists -/
theorem getD_ext {α : Type} {d : α} {l1 l2 : List α} (hl : l1.length = l2.length) (h : ∀ i, i < l1.length → l1.getD i d = l2.getD i d) : l1 = l2 := by
  apply List.ext_getElem hl
  intro i h1 h2
  have := h i h1
  simpa [List.getD, List.getElem?_eq_getElem h1, List.getElem?_eq_getElem h2] using this
theorem take_next {α : Type} {d : α} {l : List α} {i : Nat} (hi : i < l.length) : l.take (i + 1) = l.take i ++ [l.getD i d] := by
  rw [List.take_add_one, List.getElem?_eq_getElem hi]
  simp [List.getD, List.getElem?_eq_getElem hi]
theorem drop_next {α : Type} {d : α} {l : List α} {i : Nat} (hi : i < l.length) : l.drop i = l.getD i d :: l.drop (i + 1) := by
  rw [List.drop_eq_getElem_cons hi]
  simp [List.getD, List.getElem?_eq_getElem hi]
/-! ### texts -/
theorem bytes_same {a b : ByteArray} : (a == b) = true ↔ a = b := by
  obtain ⟨a⟩ := a
  obtain ⟨b⟩ := b
  have e : ((⟨a⟩ : ByteArray) == ⟨b⟩) = (a == b) := rfl
  rw [e, beq_iff_eq]
  constructor
  · rintro rfl; rfl
  · intro h; cases h; rfl
theorem bytes_not {a b : ByteArray} : (a == b) = false ↔ a ≠ b := by
  rw [← Bool.not_eq_true, bytes_same]
theorem bytes_ne {a b : ByteArray} : (a != b) = true ↔ a ≠ b := by
  unfold bne
  rw [Bool.not_eq_true', bytes_not]
theorem bytes_self (a : ByteArray) : (a == a) = true := bytes_same.mpr rfl
theorem bytes_dec {a b : ByteArray} : (a == b) = decide (a = b) := by
  by_cases h : a = b
  · rw [decide_eq_true h, bytes_same.2 h]
  · rw [decide_eq_false h, bytes_not.2 h]
def rowsS (l : List ByteArray) : List (List AV) := l.map fun (s : ByteArray) => [.v (.string s)]
theorem rowsS_len (l : List ByteArray) : (rowsS l).length = l.length := List.length_map ..
theorem rowsS_take (l : List ByteArray) (i : Nat) : (rowsS l).take i = rowsS (l.take i) := List.map_take.symm
theorem rowsS_app (l l2 : List ByteArray) : rowsS l ++ rowsS l2 = rowsS (l ++ l2) := List.map_append.symm
theorem rowsS_get {l : List ByteArray} {i : Nat} (hi : i < l.length) : (rowsS l)[i]? = some [.v (.string (l.getD i ⟨#[]⟩))] := by
  simp [rowsS, List.getD, List.getElem?_eq_getElem hi]
def unS : List (List AV) → Option (List ByteArray)
  | [] => some []
  | [.v (.string s)] :: r => (unS r).map fun l => s :: l
  | _ => none
theorem unS_some : ∀ {rows : List (List AV)} {l : List ByteArray}, unS rows = some l → rows = rowsS l
  | [], l, h => by simp only [unS, Option.some.injEq] at h; subst h; rfl
  | row :: r, l, h => by
    unfold unS at h
    split at h
    · rename_i heq; cases heq
    · rename_i b r' heq
      cases heq
      cases hr : unS r with
      | none => simp [hr] at h
      | some l' =>
        simp only [hr, Option.map_some, Option.some.injEq] at h
        subst h
        rw [unS_some hr]
        rfl
    · cases h
theorem unS_rowsS : ∀ (l : List ByteArray), unS (rowsS l) = some l
  | [] => rfl
  | s :: l => by
    have e : rowsS (s :: l) = [.v (.string s)] :: rowsS l := rfl
    rw [e, unS, unS_rowsS l]
    rfl
theorem atStrs {g : Grow} {kk : IntKind} {l : List ByteArray} {i : Nat} (hi : i < l.length) : evIndexAddr Try.prog 38 (.lst g 1 (rowsS l)) (.v (.int kk (i : Int))) = some (.eptr [.v (.string (l.getD i ⟨#[]⟩))]) := at_list elStrs naStrs szStr (rowsS_get hi)
theorem atInts {g : Grow} {kk : IntKind} {l : List Int} {i : Nat} (hi : i < l.length) : evIndexAddr Try.prog 25 (.lst g 1 (rowsI l)) (.v (.int kk (i : Int))) = some (.eptr [.v (.int .i64 (l.getD i 0))]) := at_list elInts naInts szInt (rowsI_get hi)
theorem rows_strs {P : Program} {d : Nat} {e : TypeId} (he : P.underlying e = some .string) : ∀ {rows : List (List AV)}, (∀ row ∈ rows, Typed P (d + 1) e row) → ∃ l, rows = rowsS l
  | [], _ => ⟨[], rfl⟩
  | row :: rows, h => by
    obtain ⟨l, rfl⟩ := rows_strs he fun r hr => h r (List.mem_cons_of_mem _ hr)
    have := h row (List.mem_cons_self ..)
    unfold Typed at this
    rw [he] at this
    obtain ⟨s, rfl, _⟩ := this
    exact ⟨s :: l, rfl⟩
end Go.Proofs.Ytojaokhkbmiidaa.Ev
