/-
  The ledger of nothing, by days (1).
-/
import Derived.Test.YtebegohhjdllpaaGreatDoorDates
set_option linter.unusedVariables false
set_option linter.unusedSimpArgs false
namespace Go.Proofs.YtebegohhjdllpaaGreatDoor
open Go Go.Ev
theorem at0 {ν : Nat → Int} (h1 : (-9223372036854775808 : Int) ≤ ν 2) (h2 : ν 2 ≤ (730484 : Int)) : EntryOk E0.P E0.G ν 16 ([.nilSlice, .sym 2], sheet0) := (day_specs (-9223372036854775808) (730484)).entryN mixed0 (bounded_day h1 h2) rfl 1000000 (by kernel_rfl)
theorem at4 {ν : Nat → Int} (h1 : (731580 : Int) ≤ ν 2) (h2 : ν 2 ≤ (731945 : Int)) : EntryOk E0.P E0.G ν 16 ([.nilSlice, .sym 2], sheet0) := (day_specs (731580) (731945)).entryN mixed0 (bounded_day h1 h2) rfl 1000000 (by kernel_rfl)
theorem at8 {ν : Nat → Int} (h1 : (733041 : Int) ≤ ν 2) (h2 : ν 2 ≤ (733406 : Int)) : EntryOk E0.P E0.G ν 16 ([.nilSlice, .sym 2], sheet0) := (day_specs (733041) (733406)).entryN mixed0 (bounded_day h1 h2) rfl 1000000 (by kernel_rfl)
theorem at12 {ν : Nat → Int} (h1 : (734502 : Int) ≤ ν 2) (h2 : ν 2 ≤ (734867 : Int)) : EntryOk E0.P E0.G ν 16 ([.nilSlice, .sym 2], sheet0) := (day_specs (734502) (734867)).entryN mixed0 (bounded_day h1 h2) rfl 1000000 (by kernel_rfl)
theorem at16 {ν : Nat → Int} (h1 : (735963 : Int) ≤ ν 2) (h2 : ν 2 ≤ (736328 : Int)) : EntryOk E0.P E0.G ν 16 ([.nilSlice, .sym 2], sheet0) := (day_specs (735963) (736328)).entryN mixed0 (bounded_day h1 h2) rfl 1000000 (by kernel_rfl)
theorem at20 {ν : Nat → Int} (h1 : (737424 : Int) ≤ ν 2) (h2 : ν 2 ≤ (9223372036854775807 : Int)) : EntryOk E0.P E0.G ν 16 ([.nilSlice, .sym 2], sheet0) := (day_specs (737424) (9223372036854775807)).entryN mixed0 (bounded_day h1 h2) rfl 1000000 (by kernel_rfl)
end Go.Proofs.YtebegohhjdllpaaGreatDoor
namespace Go.Proofs.YtebegohhjdllpaaGreatDoor
open Go Go.Ev
theorem at1 {ν : Nat → Int} (h1 : (730485 : Int) ≤ ν 2) (h2 : ν 2 ≤ (730849 : Int)) : EntryOk E0.P E0.G ν 16 ([.nilSlice, .sym 2], sheet0) := (day_specs (730485) (730849)).entryN mixed0 (bounded_day h1 h2) rfl 1000000 (by kernel_rfl)
theorem at5 {ν : Nat → Int} (h1 : (731946 : Int) ≤ ν 2) (h2 : ν 2 ≤ (732310 : Int)) : EntryOk E0.P E0.G ν 16 ([.nilSlice, .sym 2], sheet0) := (day_specs (731946) (732310)).entryN mixed0 (bounded_day h1 h2) rfl 1000000 (by kernel_rfl)
theorem at9 {ν : Nat → Int} (h1 : (733407 : Int) ≤ ν 2) (h2 : ν 2 ≤ (733771 : Int)) : EntryOk E0.P E0.G ν 16 ([.nilSlice, .sym 2], sheet0) := (day_specs (733407) (733771)).entryN mixed0 (bounded_day h1 h2) rfl 1000000 (by kernel_rfl)
theorem at13 {ν : Nat → Int} (h1 : (734868 : Int) ≤ ν 2) (h2 : ν 2 ≤ (735232 : Int)) : EntryOk E0.P E0.G ν 16 ([.nilSlice, .sym 2], sheet0) := (day_specs (734868) (735232)).entryN mixed0 (bounded_day h1 h2) rfl 1000000 (by kernel_rfl)
theorem at17 {ν : Nat → Int} (h1 : (736329 : Int) ≤ ν 2) (h2 : ν 2 ≤ (736693 : Int)) : EntryOk E0.P E0.G ν 16 ([.nilSlice, .sym 2], sheet0) := (day_specs (736329) (736693)).entryN mixed0 (bounded_day h1 h2) rfl 1000000 (by kernel_rfl)
end Go.Proofs.YtebegohhjdllpaaGreatDoor
