/-
  The ledger of nothing, by days (2).
-/
import Derived.Test.YtebegohhjdllpaaGreatDoorDates
import Derived.Test.YtebegohhjdllpaaGreatDoorDayA
set_option linter.unusedVariables false
set_option linter.unusedSimpArgs false
namespace Go.Proofs.YtebegohhjdllpaaGreatDoor
open Go Go.Ev
theorem at2 {ν : Nat → Int} (h1 : (730850 : Int) ≤ ν 2) (h2 : ν 2 ≤ (731214 : Int)) : EntryOk E0.P E0.G ν 16 ([.nilSlice, .sym 2], sheet0) := (day_specs (730850) (731214)).entryN mixed0 (bounded_day h1 h2) rfl 1000000 (by kernel_rfl)
theorem at6 {ν : Nat → Int} (h1 : (732311 : Int) ≤ ν 2) (h2 : ν 2 ≤ (732675 : Int)) : EntryOk E0.P E0.G ν 16 ([.nilSlice, .sym 2], sheet0) := (day_specs (732311) (732675)).entryN mixed0 (bounded_day h1 h2) rfl 1000000 (by kernel_rfl)
theorem at10 {ν : Nat → Int} (h1 : (733772 : Int) ≤ ν 2) (h2 : ν 2 ≤ (734136 : Int)) : EntryOk E0.P E0.G ν 16 ([.nilSlice, .sym 2], sheet0) := (day_specs (733772) (734136)).entryN mixed0 (bounded_day h1 h2) rfl 1000000 (by kernel_rfl)
theorem at14 {ν : Nat → Int} (h1 : (735233 : Int) ≤ ν 2) (h2 : ν 2 ≤ (735597 : Int)) : EntryOk E0.P E0.G ν 16 ([.nilSlice, .sym 2], sheet0) := (day_specs (735233) (735597)).entryN mixed0 (bounded_day h1 h2) rfl 1000000 (by kernel_rfl)
theorem at18 {ν : Nat → Int} (h1 : (736694 : Int) ≤ ν 2) (h2 : ν 2 ≤ (737058 : Int)) : EntryOk E0.P E0.G ν 16 ([.nilSlice, .sym 2], sheet0) := (day_specs (736694) (737058)).entryN mixed0 (bounded_day h1 h2) rfl 1000000 (by kernel_rfl)
end Go.Proofs.YtebegohhjdllpaaGreatDoor
namespace Go.Proofs.YtebegohhjdllpaaGreatDoor
open Go Go.Ev
theorem at3 {ν : Nat → Int} (h1 : (731215 : Int) ≤ ν 2) (h2 : ν 2 ≤ (731579 : Int)) : EntryOk E0.P E0.G ν 16 ([.nilSlice, .sym 2], sheet0) := (day_specs (731215) (731579)).entryN mixed0 (bounded_day h1 h2) rfl 1000000 (by kernel_rfl)
theorem at7 {ν : Nat → Int} (h1 : (732676 : Int) ≤ ν 2) (h2 : ν 2 ≤ (733040 : Int)) : EntryOk E0.P E0.G ν 16 ([.nilSlice, .sym 2], sheet0) := (day_specs (732676) (733040)).entryN mixed0 (bounded_day h1 h2) rfl 1000000 (by kernel_rfl)
theorem at11 {ν : Nat → Int} (h1 : (734137 : Int) ≤ ν 2) (h2 : ν 2 ≤ (734501 : Int)) : EntryOk E0.P E0.G ν 16 ([.nilSlice, .sym 2], sheet0) := (day_specs (734137) (734501)).entryN mixed0 (bounded_day h1 h2) rfl 1000000 (by kernel_rfl)
theorem at15 {ν : Nat → Int} (h1 : (735598 : Int) ≤ ν 2) (h2 : ν 2 ≤ (735962 : Int)) : EntryOk E0.P E0.G ν 16 ([.nilSlice, .sym 2], sheet0) := (day_specs (735598) (735962)).entryN mixed0 (bounded_day h1 h2) rfl 1000000 (by kernel_rfl)
theorem at19 {ν : Nat → Int} (h1 : (737059 : Int) ≤ ν 2) (h2 : ν 2 ≤ (737423 : Int)) : EntryOk E0.P E0.G ν 16 ([.nilSlice, .sym 2], sheet0) := (day_specs (737059) (737423)).entryN mixed0 (bounded_day h1 h2) rfl 1000000 (by kernel_rfl)
end Go.Proofs.YtebegohhjdllpaaGreatDoor
namespace Go.Proofs.YtebegohhjdllpaaGreatDoor
open Go Go.Ev
theorem at_all {ν : Nat → Int} (h1 : (-9223372036854775808 : Int) ≤ ν 2) (h2 : ν 2 ≤ (9223372036854775807 : Int)) : EntryOk E0.P E0.G ν 16 ([.nilSlice, .sym 2], sheet0) := by
  by_cases c0 : ν 2 ≤ (730484 : Int)
  · exact at0 (by omega) c0
  by_cases c1 : ν 2 ≤ (730849 : Int)
  · exact at1 (by omega) c1
  by_cases c2 : ν 2 ≤ (731214 : Int)
  · exact at2 (by omega) c2
  by_cases c3 : ν 2 ≤ (731579 : Int)
  · exact at3 (by omega) c3
  by_cases c4 : ν 2 ≤ (731945 : Int)
  · exact at4 (by omega) c4
  by_cases c5 : ν 2 ≤ (732310 : Int)
  · exact at5 (by omega) c5
  by_cases c6 : ν 2 ≤ (732675 : Int)
  · exact at6 (by omega) c6
  by_cases c7 : ν 2 ≤ (733040 : Int)
  · exact at7 (by omega) c7
  by_cases c8 : ν 2 ≤ (733406 : Int)
  · exact at8 (by omega) c8
  by_cases c9 : ν 2 ≤ (733771 : Int)
  · exact at9 (by omega) c9
  by_cases c10 : ν 2 ≤ (734136 : Int)
  · exact at10 (by omega) c10
  by_cases c11 : ν 2 ≤ (734501 : Int)
  · exact at11 (by omega) c11
  by_cases c12 : ν 2 ≤ (734867 : Int)
  · exact at12 (by omega) c12
  by_cases c13 : ν 2 ≤ (735232 : Int)
  · exact at13 (by omega) c13
  by_cases c14 : ν 2 ≤ (735597 : Int)
  · exact at14 (by omega) c14
  by_cases c15 : ν 2 ≤ (735962 : Int)
  · exact at15 (by omega) c15
  by_cases c16 : ν 2 ≤ (736328 : Int)
  · exact at16 (by omega) c16
  by_cases c17 : ν 2 ≤ (736693 : Int)
  · exact at17 (by omega) c17
  by_cases c18 : ν 2 ≤ (737058 : Int)
  · exact at18 (by omega) c18
  by_cases c19 : ν 2 ≤ (737423 : Int)
  · exact at19 (by omega) c19
  exact at20 (by omega) h2
end Go.Proofs.YtebegohhjdllpaaGreatDoor
