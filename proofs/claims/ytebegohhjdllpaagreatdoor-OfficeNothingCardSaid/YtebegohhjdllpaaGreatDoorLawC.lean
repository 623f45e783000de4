/-
  The law, case by case (3).
-/
import Derived.Test.YtebegohhjdllpaaGreatDoorLawA
import Derived.Test.YtebegohhjdllpaaGreatDoorLawB
set_option linter.unusedVariables false
set_option linter.unusedSimpArgs false
namespace Go.Proofs.YtebegohhjdllpaaGreatDoor
open Go Go.Ev Go.RowKit
theorem law_c1low : ∀ v b o, lawRun (-9223372036854775808) (0) (1) (1) v b o (.sym 0) (.int .i64 1) = true := fun v b o => by kernel_rfl
theorem law_c2low : ∀ v b o, lawRun (-9223372036854775808) (0) (2) (2) v b o (.sym 0) (.int .i64 2) = true := fun v b o => by kernel_rfl
theorem law_c2k_2 : ∀ v b o, lawRun (2) (2) (2) (2) v b o (.int .i64 2) (.int .i64 2) = true := fun v b o => by kernel_rfl
theorem law_c3k_1 : ∀ v b o, lawRun (1) (1) (3) (3) v b o (.int .i64 1) (.int .i64 3) = true := fun v b o => by kernel_rfl
theorem law_c4low : ∀ v b o, lawRun (-9223372036854775808) (0) (4) (4) v b o (.sym 0) (.int .i64 4) = true := fun v b o => by kernel_rfl
theorem law_c4k_2 : ∀ v b o, lawRun (2) (2) (4) (4) v b o (.int .i64 2) (.int .i64 4) = true := fun v b o => by kernel_rfl
theorem law_c5low : ∀ v b o, lawRun (-9223372036854775808) (0) (5) (5) v b o (.sym 0) (.int .i64 5) = true := fun v b o => by kernel_rfl
theorem law_c5k_2 : ∀ v b o, lawRun (2) (2) (5) (5) v b o (.int .i64 2) (.int .i64 5) = true := fun v b o => by kernel_rfl
theorem law_c5k_5 : ∀ v b o, lawRun (5) (5) (5) (5) v b o (.int .i64 5) (.int .i64 5) = true := fun v b o => by kernel_rfl
end Go.Proofs.YtebegohhjdllpaaGreatDoor
namespace Go.Proofs.YtebegohhjdllpaaGreatDoor
open Go Go.Ev Go.RowKit
theorem law_calls {old : Nat → Option Obj} {base : Nat} {cells : List Value} (hs : EvOk old base cells) {n0 n1 day : Int} (hd : -9223372036854775808 ≤ day) (hd' : day ≤ 9223372036854775807)
    (a0 : -9223372036854775808 ≤ n0) (a0' : n0 ≤ 9223372036854775807) (a1 : -9223372036854775808 ≤ n1) (a1' : n1 ≤ 9223372036854775807)
    {w : World} (hG : 14 ≤ w.heap.size) (hb : base ≤ w.heap.size) (ho : ∀ k, k < base → w.heap[k]? = old k) :
    Calls Tryz.prog 3 #[.agg #[.int .i64 n0, .int .i64 n1], .agg cells.toArray, .int .i64 day] w fun e w' => e = .returned (.bool true) ∧ Below w.heap.size w w' := by
  by_cases ca : n1 ≤ 0
  · exact law_case hs hd hd' ⟨a0, a0'⟩ ⟨a1, ca⟩ (.inl rfl) (.inl rfl) law_a hG hb ho
  by_cases cb : 6 ≤ n1
  · exact law_case hs hd hd' ⟨a0, a0'⟩ ⟨cb, a1'⟩ (.inl rfl) (.inl rfl) law_b hG hb ho
  by_cases d1 : n1 = 1
  · subst d1
    by_cases e0 : n0 ≤ 0
    · exact law_case hs hd hd' ⟨a0, e0⟩ ⟨by omega, by omega⟩ (.inl rfl) (.inr rfl) law_c1low hG hb ho
    by_cases e1 : 2 ≤ n0
    · exact law_case hs hd hd' ⟨e1, a0'⟩ ⟨by omega, by omega⟩ (.inl rfl) (.inr rfl) law_c1high hG hb ho
    have f1 : n0 = 1 := by omega
    subst f1
    exact law_case hs hd hd' ⟨by omega, by omega⟩ ⟨by omega, by omega⟩ (.inr rfl) (.inr rfl) law_c1k_1 hG hb ho
  by_cases d2 : n1 = 2
  · subst d2
    by_cases e0 : n0 ≤ 0
    · exact law_case hs hd hd' ⟨a0, e0⟩ ⟨by omega, by omega⟩ (.inl rfl) (.inr rfl) law_c2low hG hb ho
    by_cases e1 : 3 ≤ n0
    · exact law_case hs hd hd' ⟨e1, a0'⟩ ⟨by omega, by omega⟩ (.inl rfl) (.inr rfl) law_c2high hG hb ho
    by_cases f1 : n0 = 1
    · subst f1; exact law_case hs hd hd' ⟨by omega, by omega⟩ ⟨by omega, by omega⟩ (.inr rfl) (.inr rfl) law_c2k_1 hG hb ho
    have f2 : n0 = 2 := by omega
    subst f2
    exact law_case hs hd hd' ⟨by omega, by omega⟩ ⟨by omega, by omega⟩ (.inr rfl) (.inr rfl) law_c2k_2 hG hb ho
  by_cases d3 : n1 = 3
  · subst d3
    by_cases e0 : n0 ≤ 0
    · exact law_case hs hd hd' ⟨a0, e0⟩ ⟨by omega, by omega⟩ (.inl rfl) (.inr rfl) law_c3low hG hb ho
    by_cases e1 : 4 ≤ n0
    · exact law_case hs hd hd' ⟨e1, a0'⟩ ⟨by omega, by omega⟩ (.inl rfl) (.inr rfl) law_c3high hG hb ho
    by_cases f1 : n0 = 1
    · subst f1; exact law_case hs hd hd' ⟨by omega, by omega⟩ ⟨by omega, by omega⟩ (.inr rfl) (.inr rfl) law_c3k_1 hG hb ho
    by_cases f2 : n0 = 2
    · subst f2; exact law_case hs hd hd' ⟨by omega, by omega⟩ ⟨by omega, by omega⟩ (.inr rfl) (.inr rfl) law_c3k_2 hG hb ho
    have f3 : n0 = 3 := by omega
    subst f3
    exact law_case hs hd hd' ⟨by omega, by omega⟩ ⟨by omega, by omega⟩ (.inr rfl) (.inr rfl) law_c3k_3 hG hb ho
  by_cases d4 : n1 = 4
  · subst d4
    by_cases e0 : n0 ≤ 0
    · exact law_case hs hd hd' ⟨a0, e0⟩ ⟨by omega, by omega⟩ (.inl rfl) (.inr rfl) law_c4low hG hb ho
    by_cases e1 : 5 ≤ n0
    · exact law_case hs hd hd' ⟨e1, a0'⟩ ⟨by omega, by omega⟩ (.inl rfl) (.inr rfl) law_c4high hG hb ho
    by_cases f1 : n0 = 1
    · subst f1; exact law_case hs hd hd' ⟨by omega, by omega⟩ ⟨by omega, by omega⟩ (.inr rfl) (.inr rfl) law_c4k_1 hG hb ho
    by_cases f2 : n0 = 2
    · subst f2; exact law_case hs hd hd' ⟨by omega, by omega⟩ ⟨by omega, by omega⟩ (.inr rfl) (.inr rfl) law_c4k_2 hG hb ho
    by_cases f3 : n0 = 3
    · subst f3; exact law_case hs hd hd' ⟨by omega, by omega⟩ ⟨by omega, by omega⟩ (.inr rfl) (.inr rfl) law_c4k_3 hG hb ho
    have f4 : n0 = 4 := by omega
    subst f4
    exact law_case hs hd hd' ⟨by omega, by omega⟩ ⟨by omega, by omega⟩ (.inr rfl) (.inr rfl) law_c4k_4 hG hb ho
  have d5 : n1 = 5 := by omega
  subst d5
  by_cases e0 : n0 ≤ 0
  · exact law_case hs hd hd' ⟨a0, e0⟩ ⟨by omega, by omega⟩ (.inl rfl) (.inr rfl) law_c5low hG hb ho
  by_cases e1 : 6 ≤ n0
  · exact law_case hs hd hd' ⟨e1, a0'⟩ ⟨by omega, by omega⟩ (.inl rfl) (.inr rfl) law_c5high hG hb ho
  by_cases f1 : n0 = 1
  · subst f1; exact law_case hs hd hd' ⟨by omega, by omega⟩ ⟨by omega, by omega⟩ (.inr rfl) (.inr rfl) law_c5k_1 hG hb ho
  by_cases f2 : n0 = 2
  · subst f2; exact law_case hs hd hd' ⟨by omega, by omega⟩ ⟨by omega, by omega⟩ (.inr rfl) (.inr rfl) law_c5k_2 hG hb ho
  by_cases f3 : n0 = 3
  · subst f3; exact law_case hs hd hd' ⟨by omega, by omega⟩ ⟨by omega, by omega⟩ (.inr rfl) (.inr rfl) law_c5k_3 hG hb ho
  by_cases f4 : n0 = 4
  · subst f4; exact law_case hs hd hd' ⟨by omega, by omega⟩ ⟨by omega, by omega⟩ (.inr rfl) (.inr rfl) law_c5k_4 hG hb ho
  have f5 : n0 = 5 := by omega
  subst f5
  exact law_case hs hd hd' ⟨by omega, by omega⟩ ⟨by omega, by omega⟩ (.inr rfl) (.inr rfl) law_c5k_5 hG hb ho
end Go.Proofs.YtebegohhjdllpaaGreatDoor
