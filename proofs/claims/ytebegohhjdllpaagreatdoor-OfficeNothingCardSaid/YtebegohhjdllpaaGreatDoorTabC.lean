/-
  Calls whose arguments and results are plain values, the last ones.
-/
import Derived.Test.YtebegohhjdllpaaGreatDoorTabB
set_option linter.unusedVariables false
set_option linter.unusedSimpArgs false
namespace Go.Proofs.YtebegohhjdllpaaGreatDoor
open Go Go.Ev
/-! tithing/tithingref37.Line -/
theorem r9k_0 : ∀ ν, EntryOk E0.P E0.G ν 19 ([.agg [.int .i64 4, .int .i64 2, .int .i64 2, .int .i64 4, .int .i64 3, .int .i64 0, .int .i64 0, .int .i64 0, .int .i64 0, .str [], .bool false, .str [], .str [], .nilSlice, .nilSlice, .int .i64 0, .int .i64 0, .int .i64 0, .int .i64 0, .nilSlice, .nilSlice]], .str [49, 50, 58, 52, 32, 50, 32, 50, 32, 98, 111, 114, 110, 32, 51, 10]) := s9k_ok.entry mixed0 rfl rfl 1000000 (by kernel_rfl)
noncomputable def s10 : List (Nat × Handler) := (19, memoH [([.agg [.int .i64 4, .int .i64 2, .int .i64 2, .int .i64 4, .int .i64 3, .int .i64 0, .int .i64 0, .int .i64 0, .int .i64 0, .str [], .bool false, .str [], .str [], .nilSlice, .nilSlice, .int .i64 0, .int .i64 0, .int .i64 0, .int .i64 0, .nilSlice, .nilSlice]], .str [49, 50, 58, 52, 32, 50, 32, 50, 32, 98, 111, 114, 110, 32, 51, 10])]) :: s9
theorem s10k_ok : SpecsOk E0 s10 := s9k_ok.memo (by kernel_rfl) (all_cons r9k_0 <| all_nil)
end Go.Proofs.YtebegohhjdllpaaGreatDoor
