/-
  The law, case by case (2).
-/
import Derived.Test.YtebegohhjdllpaaGreatDoorLawA
set_option linter.unusedVariables false
set_option linter.unusedSimpArgs false
namespace Go.Proofs.YtebegohhjdllpaaGreatDoor
open Go Go.Ev Go.RowKit
theorem law_b : ∀ v b o, lawRun (-9223372036854775808) (9223372036854775807) (6) (9223372036854775807) v b o (.sym 0) (.sym 1) = true := fun v b o => by kernel_rfl
theorem law_c1k_1 : ∀ v b o, lawRun (1) (1) (1) (1) v b o (.int .i64 1) (.int .i64 1) = true := fun v b o => by kernel_rfl
theorem law_c2k_1 : ∀ v b o, lawRun (1) (1) (2) (2) v b o (.int .i64 1) (.int .i64 2) = true := fun v b o => by kernel_rfl
theorem law_c3high : ∀ v b o, lawRun (4) (9223372036854775807) (3) (3) v b o (.sym 0) (.int .i64 3) = true := fun v b o => by kernel_rfl
theorem law_c3k_3 : ∀ v b o, lawRun (3) (3) (3) (3) v b o (.int .i64 3) (.int .i64 3) = true := fun v b o => by kernel_rfl
theorem law_c4k_1 : ∀ v b o, lawRun (1) (1) (4) (4) v b o (.int .i64 1) (.int .i64 4) = true := fun v b o => by kernel_rfl
theorem law_c4k_4 : ∀ v b o, lawRun (4) (4) (4) (4) v b o (.int .i64 4) (.int .i64 4) = true := fun v b o => by kernel_rfl
theorem law_c5k_1 : ∀ v b o, lawRun (1) (1) (5) (5) v b o (.int .i64 1) (.int .i64 5) = true := fun v b o => by kernel_rfl
theorem law_c5k_4 : ∀ v b o, lawRun (4) (4) (5) (5) v b o (.int .i64 4) (.int .i64 5) = true := fun v b o => by kernel_rfl
end Go.Proofs.YtebegohhjdllpaaGreatDoor
