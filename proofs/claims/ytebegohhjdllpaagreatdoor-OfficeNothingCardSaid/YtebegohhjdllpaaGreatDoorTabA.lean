/-
  Calls whose arguments and results are plain values.
-/
import Derived.Test.YtebegohhjdllpaaGreatDoorBase
set_option linter.unusedVariables false
set_option linter.unusedSimpArgs false
namespace Go.Proofs.YtebegohhjdllpaaGreatDoor
open Go Go.Ev
/-! tithing/event.bare -/
theorem r0k_0 : ∀ ν, EntryOk E0.P E0.G ν 73 ([.agg [.int .i64 2, .int .i64 2, .int .i64 3, .int .i64 4, .int .i64 4, .int .i64 0, .int .i64 0, .int .i64 0, .int .i64 0, .str [], .bool false, .str [], .str [], .nilSlice, .nilSlice, .int .i64 0, .int .i64 0, .int .i64 0, .int .i64 0, .nilSlice, .nilSlice]], .agg [.int .i64 0, .int .i64 0, .int .i64 0, .int .i64 0, .int .i64 0, .int .i64 0, .int .i64 0, .int .i64 0, .int .i64 0, .str [], .bool false, .str [], .str [], .nilSlice, .nilSlice, .int .i64 0, .int .i64 0, .int .i64 0, .int .i64 0, .nilSlice, .nilSlice]) := s0k_ok.entryB mixed0 rfl rfl ⟨73, [1, 2, 3, 22], [14, 15, 17, 18], [1]⟩ 100000 (by kernel_rfl)
theorem r0k_1 : ∀ ν, EntryOk E0.P E0.G ν 73 ([.agg [.int .i64 3, .int .i64 2, .int .i64 1, .int .i64 4, .int .i64 2, .int .i64 0, .int .i64 0, .int .i64 0, .int .i64 0, .str [], .bool false, .str [], .str [], .nilSlice, .nilSlice, .int .i64 0, .int .i64 0, .int .i64 0, .int .i64 0, .nilSlice, .nilSlice]], .agg [.int .i64 0, .int .i64 0, .int .i64 0, .int .i64 0, .int .i64 0, .int .i64 0, .int .i64 0, .int .i64 0, .int .i64 0, .str [], .bool false, .str [], .str [], .nilSlice, .nilSlice, .int .i64 0, .int .i64 0, .int .i64 0, .int .i64 0, .nilSlice, .nilSlice]) := s0k_ok.entryB mixed0 rfl rfl ⟨73, [1, 2, 3, 22], [14, 15, 17, 18], [1]⟩ 100000 (by kernel_rfl)
theorem r0k_2 : ∀ ν, EntryOk E0.P E0.G ν 73 ([.agg [.int .i64 4, .int .i64 2, .int .i64 2, .int .i64 4, .int .i64 3, .int .i64 0, .int .i64 0, .int .i64 0, .int .i64 0, .str [], .bool false, .str [], .str [], .nilSlice, .nilSlice, .int .i64 0, .int .i64 0, .int .i64 0, .int .i64 0, .nilSlice, .nilSlice]], .agg [.int .i64 0, .int .i64 0, .int .i64 0, .int .i64 0, .int .i64 0, .int .i64 0, .int .i64 0, .int .i64 0, .int .i64 0, .str [], .bool false, .str [], .str [], .nilSlice, .nilSlice, .int .i64 0, .int .i64 0, .int .i64 0, .int .i64 0, .nilSlice, .nilSlice]) := s0k_ok.entryB mixed0 rfl rfl ⟨73, [1, 2, 3, 22], [14, 15, 17, 18], [1]⟩ 100000 (by kernel_rfl)
theorem r0k_3 : ∀ ν, EntryOk E0.P E0.G ν 73 ([.agg [.int .i64 5, .int .i64 1, .int .i64 1, .int .i64 4, .int .i64 1, .int .i64 0, .int .i64 0, .int .i64 0, .int .i64 0, .str [], .bool false, .str [], .str [], .nilSlice, .nilSlice, .int .i64 0, .int .i64 0, .int .i64 0, .int .i64 0, .nilSlice, .nilSlice]], .agg [.int .i64 0, .int .i64 0, .int .i64 0, .int .i64 0, .int .i64 0, .int .i64 0, .int .i64 0, .int .i64 0, .int .i64 0, .str [], .bool false, .str [], .str [], .nilSlice, .nilSlice, .int .i64 0, .int .i64 0, .int .i64 0, .int .i64 0, .nilSlice, .nilSlice]) := s0k_ok.entryB mixed0 rfl rfl ⟨73, [1, 2, 3, 22], [14, 15, 17, 18], [1]⟩ 100000 (by kernel_rfl)
noncomputable def s1 : List (Nat × Handler) := (73, memoH [([.agg [.int .i64 2, .int .i64 2, .int .i64 3, .int .i64 4, .int .i64 4, .int .i64 0, .int .i64 0, .int .i64 0, .int .i64 0, .str [], .bool false, .str [], .str [], .nilSlice, .nilSlice, .int .i64 0, .int .i64 0, .int .i64 0, .int .i64 0, .nilSlice, .nilSlice]], .agg [.int .i64 0, .int .i64 0, .int .i64 0, .int .i64 0, .int .i64 0, .int .i64 0, .int .i64 0, .int .i64 0, .int .i64 0, .str [], .bool false, .str [], .str [], .nilSlice, .nilSlice, .int .i64 0, .int .i64 0, .int .i64 0, .int .i64 0, .nilSlice, .nilSlice]),
  ([.agg [.int .i64 3, .int .i64 2, .int .i64 1, .int .i64 4, .int .i64 2, .int .i64 0, .int .i64 0, .int .i64 0, .int .i64 0, .str [], .bool false, .str [], .str [], .nilSlice, .nilSlice, .int .i64 0, .int .i64 0, .int .i64 0, .int .i64 0, .nilSlice, .nilSlice]], .agg [.int .i64 0, .int .i64 0, .int .i64 0, .int .i64 0, .int .i64 0, .int .i64 0, .int .i64 0, .int .i64 0, .int .i64 0, .str [], .bool false, .str [], .str [], .nilSlice, .nilSlice, .int .i64 0, .int .i64 0, .int .i64 0, .int .i64 0, .nilSlice, .nilSlice]),
  ([.agg [.int .i64 4, .int .i64 2, .int .i64 2, .int .i64 4, .int .i64 3, .int .i64 0, .int .i64 0, .int .i64 0, .int .i64 0, .str [], .bool false, .str [], .str [], .nilSlice, .nilSlice, .int .i64 0, .int .i64 0, .int .i64 0, .int .i64 0, .nilSlice, .nilSlice]], .agg [.int .i64 0, .int .i64 0, .int .i64 0, .int .i64 0, .int .i64 0, .int .i64 0, .int .i64 0, .int .i64 0, .int .i64 0, .str [], .bool false, .str [], .str [], .nilSlice, .nilSlice, .int .i64 0, .int .i64 0, .int .i64 0, .int .i64 0, .nilSlice, .nilSlice]),
  ([.agg [.int .i64 5, .int .i64 1, .int .i64 1, .int .i64 4, .int .i64 1, .int .i64 0, .int .i64 0, .int .i64 0, .int .i64 0, .str [], .bool false, .str [], .str [], .nilSlice, .nilSlice, .int .i64 0, .int .i64 0, .int .i64 0, .int .i64 0, .nilSlice, .nilSlice]], .agg [.int .i64 0, .int .i64 0, .int .i64 0, .int .i64 0, .int .i64 0, .int .i64 0, .int .i64 0, .int .i64 0, .int .i64 0, .str [], .bool false, .str [], .str [], .nilSlice, .nilSlice, .int .i64 0, .int .i64 0, .int .i64 0, .int .i64 0, .nilSlice, .nilSlice])]) :: s0
theorem s1k_ok : SpecsOk E0 s1 := s0k_ok.memo (by kernel_rfl) (all_cons r0k_0 <| all_cons r0k_1 <| all_cons r0k_2 <| all_cons r0k_3 <| all_nil)
/-! math/bits.Len -/
theorem r1k_0 : ∀ ν, EntryOk E0.P E0.G ν 174 ([.int .u64 0], .int .i64 0) := s1k_ok.entry mixed0 rfl rfl 1000000 (by kernel_rfl)
theorem r1k_1 : ∀ ν, EntryOk E0.P E0.G ν 174 ([.int .u64 1], .int .i64 1) := s1k_ok.entry mixed0 rfl rfl 1000000 (by kernel_rfl)
theorem r1k_2 : ∀ ν, EntryOk E0.P E0.G ν 174 ([.int .u64 2], .int .i64 2) := s1k_ok.entry mixed0 rfl rfl 1000000 (by kernel_rfl)
theorem r1k_3 : ∀ ν, EntryOk E0.P E0.G ν 174 ([.int .u64 3], .int .i64 2) := s1k_ok.entry mixed0 rfl rfl 1000000 (by kernel_rfl)
noncomputable def s2 : List (Nat × Handler) := (174, memoH [([.int .u64 0], .int .i64 0),
  ([.int .u64 1], .int .i64 1),
  ([.int .u64 2], .int .i64 2),
  ([.int .u64 3], .int .i64 2)]) :: s1
theorem s2k_ok : SpecsOk E0 s2 := s1k_ok.memo (by kernel_rfl) (all_cons r1k_0 <| all_cons r1k_1 <| all_cons r1k_2 <| all_cons r1k_3 <| all_nil)
/-! strconv.Itoa -/
theorem r2k_0 : ∀ ν, EntryOk E0.P E0.G ν 65 ([.int .i64 12], .str [49, 50]) := s2k_ok.entry mixed0 rfl rfl 1000000 (by kernel_rfl)
theorem r2k_1 : ∀ ν, EntryOk E0.P E0.G ν 65 ([.int .i64 1], .str [49]) := s2k_ok.entry mixed0 rfl rfl 1000000 (by kernel_rfl)
theorem r2k_2 : ∀ ν, EntryOk E0.P E0.G ν 65 ([.int .i64 2], .str [50]) := s2k_ok.entry mixed0 rfl rfl 1000000 (by kernel_rfl)
theorem r2k_3 : ∀ ν, EntryOk E0.P E0.G ν 65 ([.int .i64 3], .str [51]) := s2k_ok.entry mixed0 rfl rfl 1000000 (by kernel_rfl)
theorem r2k_4 : ∀ ν, EntryOk E0.P E0.G ν 65 ([.int .i64 4], .str [52]) := s2k_ok.entry mixed0 rfl rfl 1000000 (by kernel_rfl)
theorem r2k_5 : ∀ ν, EntryOk E0.P E0.G ν 65 ([.int .i64 5], .str [53]) := s2k_ok.entry mixed0 rfl rfl 1000000 (by kernel_rfl)
noncomputable def s3 : List (Nat × Handler) := (65, memoH [([.int .i64 12], .str [49, 50]),
  ([.int .i64 1], .str [49]),
  ([.int .i64 2], .str [50]),
  ([.int .i64 3], .str [51]),
  ([.int .i64 4], .str [52]),
  ([.int .i64 5], .str [53])]) :: s2
theorem s3k_ok : SpecsOk E0 s3 := s2k_ok.memo (by kernel_rfl) (all_cons r2k_0 <| all_cons r2k_1 <| all_cons r2k_2 <| all_cons r2k_3 <| all_cons r2k_4 <| all_cons r2k_5 <| all_nil)
/-! tithing/office.compare -/
theorem r3k_0 : ∀ ν, EntryOk E0.P E0.G ν 63 ([.agg [.int .i64 1, .int .i64 1], .agg [.int .i64 2, .int .i64 1]], .int .i64 (-1)) := s3k_ok.entry mixed0 rfl rfl 1000000 (by kernel_rfl)
theorem r3k_1 : ∀ ν, EntryOk E0.P E0.G ν 63 ([.agg [.int .i64 1, .int .i64 1], .agg [.int .i64 2, .int .i64 2]], .int .i64 (-1)) := s3k_ok.entry mixed0 rfl rfl 1000000 (by kernel_rfl)
theorem r3k_2 : ∀ ν, EntryOk E0.P E0.G ν 63 ([.agg [.int .i64 2, .int .i64 1], .agg [.int .i64 1, .int .i64 1]], .int .i64 1) := s3k_ok.entry mixed0 rfl rfl 1000000 (by kernel_rfl)
theorem r3k_3 : ∀ ν, EntryOk E0.P E0.G ν 63 ([.agg [.int .i64 2, .int .i64 1], .agg [.int .i64 2, .int .i64 2]], .int .i64 (-1)) := s3k_ok.entry mixed0 rfl rfl 1000000 (by kernel_rfl)
theorem r3k_4 : ∀ ν, EntryOk E0.P E0.G ν 63 ([.agg [.int .i64 2, .int .i64 2], .agg [.int .i64 1, .int .i64 1]], .int .i64 1) := s3k_ok.entry mixed0 rfl rfl 1000000 (by kernel_rfl)
theorem r3k_5 : ∀ ν, EntryOk E0.P E0.G ν 63 ([.agg [.int .i64 2, .int .i64 2], .agg [.int .i64 2, .int .i64 1]], .int .i64 1) := s3k_ok.entry mixed0 rfl rfl 1000000 (by kernel_rfl)
noncomputable def s4 : List (Nat × Handler) := (63, memoH [([.agg [.int .i64 1, .int .i64 1], .agg [.int .i64 2, .int .i64 1]], .int .i64 (-1)),
  ([.agg [.int .i64 1, .int .i64 1], .agg [.int .i64 2, .int .i64 2]], .int .i64 (-1)),
  ([.agg [.int .i64 2, .int .i64 1], .agg [.int .i64 1, .int .i64 1]], .int .i64 1),
  ([.agg [.int .i64 2, .int .i64 1], .agg [.int .i64 2, .int .i64 2]], .int .i64 (-1)),
  ([.agg [.int .i64 2, .int .i64 2], .agg [.int .i64 1, .int .i64 1]], .int .i64 1),
  ([.agg [.int .i64 2, .int .i64 2], .agg [.int .i64 2, .int .i64 1]], .int .i64 1)]) :: s3
theorem s4k_ok : SpecsOk E0 s4 := s3k_ok.memo (by kernel_rfl) (all_cons r3k_0 <| all_cons r3k_1 <| all_cons r3k_2 <| all_cons r3k_3 <| all_cons r3k_4 <| all_cons r3k_5 <| all_nil)
end Go.Proofs.YtebegohhjdllpaaGreatDoor
namespace Go.Proofs.YtebegohhjdllpaaGreatDoor
open Go Go.Ev
/-! tithing/event.Check -/
theorem r4k_0 : ∀ ν, EntryOk E0.P E0.G ν 24 ([.agg [.int .i64 2, .int .i64 2, .int .i64 3, .int .i64 4, .int .i64 4, .int .i64 0, .int .i64 0, .int .i64 0, .int .i64 0, .str [], .bool false, .str [], .str [], .nilSlice, .nilSlice, .int .i64 0, .int .i64 0, .int .i64 0, .int .i64 0, .nilSlice, .nilSlice]], .int .i64 0) := s4k_ok.entry mixed0 rfl rfl 1000000 (by kernel_rfl)
theorem r4k_1 : ∀ ν, EntryOk E0.P E0.G ν 24 ([.agg [.int .i64 3, .int .i64 2, .int .i64 1, .int .i64 4, .int .i64 2, .int .i64 0, .int .i64 0, .int .i64 0, .int .i64 0, .str [], .bool false, .str [], .str [], .nilSlice, .nilSlice, .int .i64 0, .int .i64 0, .int .i64 0, .int .i64 0, .nilSlice, .nilSlice]], .int .i64 0) := s4k_ok.entry mixed0 rfl rfl 1000000 (by kernel_rfl)
theorem r4k_2 : ∀ ν, EntryOk E0.P E0.G ν 24 ([.agg [.int .i64 4, .int .i64 2, .int .i64 2, .int .i64 4, .int .i64 3, .int .i64 0, .int .i64 0, .int .i64 0, .int .i64 0, .str [], .bool false, .str [], .str [], .nilSlice, .nilSlice, .int .i64 0, .int .i64 0, .int .i64 0, .int .i64 0, .nilSlice, .nilSlice]], .int .i64 0) := s4k_ok.entry mixed0 rfl rfl 1000000 (by kernel_rfl)
theorem r4k_3 : ∀ ν, EntryOk E0.P E0.G ν 24 ([.agg [.int .i64 5, .int .i64 1, .int .i64 1, .int .i64 4, .int .i64 1, .int .i64 0, .int .i64 0, .int .i64 0, .int .i64 0, .str [], .bool false, .str [], .str [], .nilSlice, .nilSlice, .int .i64 0, .int .i64 0, .int .i64 0, .int .i64 0, .nilSlice, .nilSlice]], .int .i64 0) := s4k_ok.entry mixed0 rfl rfl 1000000 (by kernel_rfl)
noncomputable def s5 : List (Nat × Handler) := (24, memoH [([.agg [.int .i64 2, .int .i64 2, .int .i64 3, .int .i64 4, .int .i64 4, .int .i64 0, .int .i64 0, .int .i64 0, .int .i64 0, .str [], .bool false, .str [], .str [], .nilSlice, .nilSlice, .int .i64 0, .int .i64 0, .int .i64 0, .int .i64 0, .nilSlice, .nilSlice]], .int .i64 0),
  ([.agg [.int .i64 3, .int .i64 2, .int .i64 1, .int .i64 4, .int .i64 2, .int .i64 0, .int .i64 0, .int .i64 0, .int .i64 0, .str [], .bool false, .str [], .str [], .nilSlice, .nilSlice, .int .i64 0, .int .i64 0, .int .i64 0, .int .i64 0, .nilSlice, .nilSlice]], .int .i64 0),
  ([.agg [.int .i64 4, .int .i64 2, .int .i64 2, .int .i64 4, .int .i64 3, .int .i64 0, .int .i64 0, .int .i64 0, .int .i64 0, .str [], .bool false, .str [], .str [], .nilSlice, .nilSlice, .int .i64 0, .int .i64 0, .int .i64 0, .int .i64 0, .nilSlice, .nilSlice]], .int .i64 0),
  ([.agg [.int .i64 5, .int .i64 1, .int .i64 1, .int .i64 4, .int .i64 1, .int .i64 0, .int .i64 0, .int .i64 0, .int .i64 0, .str [], .bool false, .str [], .str [], .nilSlice, .nilSlice, .int .i64 0, .int .i64 0, .int .i64 0, .int .i64 0, .nilSlice, .nilSlice]], .int .i64 0)]) :: s4
theorem s5k_ok : SpecsOk E0 s5 := s4k_ok.memo (by kernel_rfl) (all_cons r4k_0 <| all_cons r4k_1 <| all_cons r4k_2 <| all_cons r4k_3 <| all_nil)
end Go.Proofs.YtebegohhjdllpaaGreatDoor
