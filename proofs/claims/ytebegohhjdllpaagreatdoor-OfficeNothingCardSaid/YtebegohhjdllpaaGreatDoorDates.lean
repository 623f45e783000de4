/-
  The ledger of nothing, by days: what it calls.
-/
import Derived.Test.YtebegohhjdllpaaGreatDoorTabC
set_option linter.unusedVariables false
set_option linter.unusedSimpArgs false
namespace Go.Proofs.YtebegohhjdllpaaGreatDoor
open Go Go.Ev
/-! tithing/date.Number -/
theorem r10k_0 : ∀ ν, EntryOk E0.P E0.G ν 178 ([.int .i64 2000, .int .i64 1, .int .i64 1], .tup [.int .i64 730119, .bool true]) := s10k_ok.entry mixed0 rfl rfl 1000000 (by kernel_rfl)
theorem r10k_1 : ∀ ν, EntryOk E0.P E0.G ν 178 ([.int .i64 2001, .int .i64 1, .int .i64 1], .tup [.int .i64 730485, .bool true]) := s10k_ok.entry mixed0 rfl rfl 1000000 (by kernel_rfl)
theorem r10k_2 : ∀ ν, EntryOk E0.P E0.G ν 178 ([.int .i64 2002, .int .i64 1, .int .i64 1], .tup [.int .i64 730850, .bool true]) := s10k_ok.entry mixed0 rfl rfl 1000000 (by kernel_rfl)
theorem r10k_3 : ∀ ν, EntryOk E0.P E0.G ν 178 ([.int .i64 2003, .int .i64 1, .int .i64 1], .tup [.int .i64 731215, .bool true]) := s10k_ok.entry mixed0 rfl rfl 1000000 (by kernel_rfl)
theorem r10k_4 : ∀ ν, EntryOk E0.P E0.G ν 178 ([.int .i64 2004, .int .i64 1, .int .i64 1], .tup [.int .i64 731580, .bool true]) := s10k_ok.entry mixed0 rfl rfl 1000000 (by kernel_rfl)
theorem r10k_5 : ∀ ν, EntryOk E0.P E0.G ν 178 ([.int .i64 2005, .int .i64 1, .int .i64 1], .tup [.int .i64 731946, .bool true]) := s10k_ok.entry mixed0 rfl rfl 1000000 (by kernel_rfl)
theorem r10k_6 : ∀ ν, EntryOk E0.P E0.G ν 178 ([.int .i64 2006, .int .i64 1, .int .i64 1], .tup [.int .i64 732311, .bool true]) := s10k_ok.entry mixed0 rfl rfl 1000000 (by kernel_rfl)
theorem r10k_7 : ∀ ν, EntryOk E0.P E0.G ν 178 ([.int .i64 2007, .int .i64 1, .int .i64 1], .tup [.int .i64 732676, .bool true]) := s10k_ok.entry mixed0 rfl rfl 1000000 (by kernel_rfl)
theorem r10k_8 : ∀ ν, EntryOk E0.P E0.G ν 178 ([.int .i64 2008, .int .i64 1, .int .i64 1], .tup [.int .i64 733041, .bool true]) := s10k_ok.entry mixed0 rfl rfl 1000000 (by kernel_rfl)
theorem r10k_9 : ∀ ν, EntryOk E0.P E0.G ν 178 ([.int .i64 2009, .int .i64 1, .int .i64 1], .tup [.int .i64 733407, .bool true]) := s10k_ok.entry mixed0 rfl rfl 1000000 (by kernel_rfl)
theorem r10k_10 : ∀ ν, EntryOk E0.P E0.G ν 178 ([.int .i64 2010, .int .i64 1, .int .i64 1], .tup [.int .i64 733772, .bool true]) := s10k_ok.entry mixed0 rfl rfl 1000000 (by kernel_rfl)
theorem r10k_11 : ∀ ν, EntryOk E0.P E0.G ν 178 ([.int .i64 2011, .int .i64 1, .int .i64 1], .tup [.int .i64 734137, .bool true]) := s10k_ok.entry mixed0 rfl rfl 1000000 (by kernel_rfl)
theorem r10k_12 : ∀ ν, EntryOk E0.P E0.G ν 178 ([.int .i64 2012, .int .i64 1, .int .i64 1], .tup [.int .i64 734502, .bool true]) := s10k_ok.entry mixed0 rfl rfl 1000000 (by kernel_rfl)
theorem r10k_13 : ∀ ν, EntryOk E0.P E0.G ν 178 ([.int .i64 2013, .int .i64 1, .int .i64 1], .tup [.int .i64 734868, .bool true]) := s10k_ok.entry mixed0 rfl rfl 1000000 (by kernel_rfl)
theorem r10k_14 : ∀ ν, EntryOk E0.P E0.G ν 178 ([.int .i64 2014, .int .i64 1, .int .i64 1], .tup [.int .i64 735233, .bool true]) := s10k_ok.entry mixed0 rfl rfl 1000000 (by kernel_rfl)
theorem r10k_15 : ∀ ν, EntryOk E0.P E0.G ν 178 ([.int .i64 2015, .int .i64 1, .int .i64 1], .tup [.int .i64 735598, .bool true]) := s10k_ok.entry mixed0 rfl rfl 1000000 (by kernel_rfl)
theorem r10k_16 : ∀ ν, EntryOk E0.P E0.G ν 178 ([.int .i64 2016, .int .i64 1, .int .i64 1], .tup [.int .i64 735963, .bool true]) := s10k_ok.entry mixed0 rfl rfl 1000000 (by kernel_rfl)
theorem r10k_17 : ∀ ν, EntryOk E0.P E0.G ν 178 ([.int .i64 2017, .int .i64 1, .int .i64 1], .tup [.int .i64 736329, .bool true]) := s10k_ok.entry mixed0 rfl rfl 1000000 (by kernel_rfl)
theorem r10k_18 : ∀ ν, EntryOk E0.P E0.G ν 178 ([.int .i64 2018, .int .i64 1, .int .i64 1], .tup [.int .i64 736694, .bool true]) := s10k_ok.entry mixed0 rfl rfl 1000000 (by kernel_rfl)
theorem r10k_19 : ∀ ν, EntryOk E0.P E0.G ν 178 ([.int .i64 2019, .int .i64 1, .int .i64 1], .tup [.int .i64 737059, .bool true]) := s10k_ok.entry mixed0 rfl rfl 1000000 (by kernel_rfl)
theorem r10k_20 : ∀ ν, EntryOk E0.P E0.G ν 178 ([.int .i64 2020, .int .i64 1, .int .i64 1], .tup [.int .i64 737424, .bool true]) := s10k_ok.entry mixed0 rfl rfl 1000000 (by kernel_rfl)
noncomputable def s11 : List (Nat × Handler) := (178, memoH [([.int .i64 2000, .int .i64 1, .int .i64 1], .tup [.int .i64 730119, .bool true]),
  ([.int .i64 2001, .int .i64 1, .int .i64 1], .tup [.int .i64 730485, .bool true]),
  ([.int .i64 2002, .int .i64 1, .int .i64 1], .tup [.int .i64 730850, .bool true]),
  ([.int .i64 2003, .int .i64 1, .int .i64 1], .tup [.int .i64 731215, .bool true]),
  ([.int .i64 2004, .int .i64 1, .int .i64 1], .tup [.int .i64 731580, .bool true]),
  ([.int .i64 2005, .int .i64 1, .int .i64 1], .tup [.int .i64 731946, .bool true]),
  ([.int .i64 2006, .int .i64 1, .int .i64 1], .tup [.int .i64 732311, .bool true]),
  ([.int .i64 2007, .int .i64 1, .int .i64 1], .tup [.int .i64 732676, .bool true]),
  ([.int .i64 2008, .int .i64 1, .int .i64 1], .tup [.int .i64 733041, .bool true]),
  ([.int .i64 2009, .int .i64 1, .int .i64 1], .tup [.int .i64 733407, .bool true]),
  ([.int .i64 2010, .int .i64 1, .int .i64 1], .tup [.int .i64 733772, .bool true]),
  ([.int .i64 2011, .int .i64 1, .int .i64 1], .tup [.int .i64 734137, .bool true]),
  ([.int .i64 2012, .int .i64 1, .int .i64 1], .tup [.int .i64 734502, .bool true]),
  ([.int .i64 2013, .int .i64 1, .int .i64 1], .tup [.int .i64 734868, .bool true]),
  ([.int .i64 2014, .int .i64 1, .int .i64 1], .tup [.int .i64 735233, .bool true]),
  ([.int .i64 2015, .int .i64 1, .int .i64 1], .tup [.int .i64 735598, .bool true]),
  ([.int .i64 2016, .int .i64 1, .int .i64 1], .tup [.int .i64 735963, .bool true]),
  ([.int .i64 2017, .int .i64 1, .int .i64 1], .tup [.int .i64 736329, .bool true]),
  ([.int .i64 2018, .int .i64 1, .int .i64 1], .tup [.int .i64 736694, .bool true]),
  ([.int .i64 2019, .int .i64 1, .int .i64 1], .tup [.int .i64 737059, .bool true]),
  ([.int .i64 2020, .int .i64 1, .int .i64 1], .tup [.int .i64 737424, .bool true])]) :: s10
theorem s11k_ok : SpecsOk E0 s11 := s10k_ok.memo (by kernel_rfl) (all_cons r10k_0 <| all_cons r10k_1 <| all_cons r10k_2 <| all_cons r10k_3 <| all_cons r10k_4 <| all_cons r10k_5 <| all_cons r10k_6 <| all_cons r10k_7 <| all_cons r10k_8 <| all_cons r10k_9 <| all_cons r10k_10 <| all_cons r10k_11 <| all_cons r10k_12 <| all_cons r10k_13 <| all_cons r10k_14 <| all_cons r10k_15 <| all_cons r10k_16 <| all_cons r10k_17 <| all_cons r10k_18 <| all_cons r10k_19 <| all_cons r10k_20 <| all_nil)
/-! tithing/span.Year -/
theorem r11k_0 : ∀ ν, EntryOk E0.P E0.G ν 95 ([.int .i64 0], .tup [.agg [.int .i64 730119, .int .i64 730485], .bool true]) := s11k_ok.entry mixed0 rfl rfl 1000000 (by kernel_rfl)
theorem r11k_1 : ∀ ν, EntryOk E0.P E0.G ν 95 ([.int .i64 10], .tup [.agg [.int .i64 733772, .int .i64 734137], .bool true]) := s11k_ok.entry mixed0 rfl rfl 1000000 (by kernel_rfl)
theorem r11k_2 : ∀ ν, EntryOk E0.P E0.G ν 95 ([.int .i64 11], .tup [.agg [.int .i64 734137, .int .i64 734502], .bool true]) := s11k_ok.entry mixed0 rfl rfl 1000000 (by kernel_rfl)
theorem r11k_3 : ∀ ν, EntryOk E0.P E0.G ν 95 ([.int .i64 12], .tup [.agg [.int .i64 734502, .int .i64 734868], .bool true]) := s11k_ok.entry mixed0 rfl rfl 1000000 (by kernel_rfl)
theorem r11k_4 : ∀ ν, EntryOk E0.P E0.G ν 95 ([.int .i64 13], .tup [.agg [.int .i64 734868, .int .i64 735233], .bool true]) := s11k_ok.entry mixed0 rfl rfl 1000000 (by kernel_rfl)
theorem r11k_5 : ∀ ν, EntryOk E0.P E0.G ν 95 ([.int .i64 14], .tup [.agg [.int .i64 735233, .int .i64 735598], .bool true]) := s11k_ok.entry mixed0 rfl rfl 1000000 (by kernel_rfl)
theorem r11k_6 : ∀ ν, EntryOk E0.P E0.G ν 95 ([.int .i64 15], .tup [.agg [.int .i64 735598, .int .i64 735963], .bool true]) := s11k_ok.entry mixed0 rfl rfl 1000000 (by kernel_rfl)
theorem r11k_7 : ∀ ν, EntryOk E0.P E0.G ν 95 ([.int .i64 16], .tup [.agg [.int .i64 735963, .int .i64 736329], .bool true]) := s11k_ok.entry mixed0 rfl rfl 1000000 (by kernel_rfl)
theorem r11k_8 : ∀ ν, EntryOk E0.P E0.G ν 95 ([.int .i64 17], .tup [.agg [.int .i64 736329, .int .i64 736694], .bool true]) := s11k_ok.entry mixed0 rfl rfl 1000000 (by kernel_rfl)
theorem r11k_9 : ∀ ν, EntryOk E0.P E0.G ν 95 ([.int .i64 18], .tup [.agg [.int .i64 736694, .int .i64 737059], .bool true]) := s11k_ok.entry mixed0 rfl rfl 1000000 (by kernel_rfl)
theorem r11k_10 : ∀ ν, EntryOk E0.P E0.G ν 95 ([.int .i64 19], .tup [.agg [.int .i64 737059, .int .i64 737424], .bool true]) := s11k_ok.entry mixed0 rfl rfl 1000000 (by kernel_rfl)
theorem r11k_11 : ∀ ν, EntryOk E0.P E0.G ν 95 ([.int .i64 1], .tup [.agg [.int .i64 730485, .int .i64 730850], .bool true]) := s11k_ok.entry mixed0 rfl rfl 1000000 (by kernel_rfl)
theorem r11k_12 : ∀ ν, EntryOk E0.P E0.G ν 95 ([.int .i64 2], .tup [.agg [.int .i64 730850, .int .i64 731215], .bool true]) := s11k_ok.entry mixed0 rfl rfl 1000000 (by kernel_rfl)
theorem r11k_13 : ∀ ν, EntryOk E0.P E0.G ν 95 ([.int .i64 3], .tup [.agg [.int .i64 731215, .int .i64 731580], .bool true]) := s11k_ok.entry mixed0 rfl rfl 1000000 (by kernel_rfl)
theorem r11k_14 : ∀ ν, EntryOk E0.P E0.G ν 95 ([.int .i64 4], .tup [.agg [.int .i64 731580, .int .i64 731946], .bool true]) := s11k_ok.entry mixed0 rfl rfl 1000000 (by kernel_rfl)
theorem r11k_15 : ∀ ν, EntryOk E0.P E0.G ν 95 ([.int .i64 5], .tup [.agg [.int .i64 731946, .int .i64 732311], .bool true]) := s11k_ok.entry mixed0 rfl rfl 1000000 (by kernel_rfl)
theorem r11k_16 : ∀ ν, EntryOk E0.P E0.G ν 95 ([.int .i64 6], .tup [.agg [.int .i64 732311, .int .i64 732676], .bool true]) := s11k_ok.entry mixed0 rfl rfl 1000000 (by kernel_rfl)
theorem r11k_17 : ∀ ν, EntryOk E0.P E0.G ν 95 ([.int .i64 7], .tup [.agg [.int .i64 732676, .int .i64 733041], .bool true]) := s11k_ok.entry mixed0 rfl rfl 1000000 (by kernel_rfl)
theorem r11k_18 : ∀ ν, EntryOk E0.P E0.G ν 95 ([.int .i64 8], .tup [.agg [.int .i64 733041, .int .i64 733407], .bool true]) := s11k_ok.entry mixed0 rfl rfl 1000000 (by kernel_rfl)
theorem r11k_19 : ∀ ν, EntryOk E0.P E0.G ν 95 ([.int .i64 9], .tup [.agg [.int .i64 733407, .int .i64 733772], .bool true]) := s11k_ok.entry mixed0 rfl rfl 1000000 (by kernel_rfl)
noncomputable def s12 : List (Nat × Handler) := (95, memoH [([.int .i64 0], .tup [.agg [.int .i64 730119, .int .i64 730485], .bool true]),
  ([.int .i64 10], .tup [.agg [.int .i64 733772, .int .i64 734137], .bool true]),
  ([.int .i64 11], .tup [.agg [.int .i64 734137, .int .i64 734502], .bool true]),
  ([.int .i64 12], .tup [.agg [.int .i64 734502, .int .i64 734868], .bool true]),
  ([.int .i64 13], .tup [.agg [.int .i64 734868, .int .i64 735233], .bool true]),
  ([.int .i64 14], .tup [.agg [.int .i64 735233, .int .i64 735598], .bool true]),
  ([.int .i64 15], .tup [.agg [.int .i64 735598, .int .i64 735963], .bool true]),
  ([.int .i64 16], .tup [.agg [.int .i64 735963, .int .i64 736329], .bool true]),
  ([.int .i64 17], .tup [.agg [.int .i64 736329, .int .i64 736694], .bool true]),
  ([.int .i64 18], .tup [.agg [.int .i64 736694, .int .i64 737059], .bool true]),
  ([.int .i64 19], .tup [.agg [.int .i64 737059, .int .i64 737424], .bool true]),
  ([.int .i64 1], .tup [.agg [.int .i64 730485, .int .i64 730850], .bool true]),
  ([.int .i64 2], .tup [.agg [.int .i64 730850, .int .i64 731215], .bool true]),
  ([.int .i64 3], .tup [.agg [.int .i64 731215, .int .i64 731580], .bool true]),
  ([.int .i64 4], .tup [.agg [.int .i64 731580, .int .i64 731946], .bool true]),
  ([.int .i64 5], .tup [.agg [.int .i64 731946, .int .i64 732311], .bool true]),
  ([.int .i64 6], .tup [.agg [.int .i64 732311, .int .i64 732676], .bool true]),
  ([.int .i64 7], .tup [.agg [.int .i64 732676, .int .i64 733041], .bool true]),
  ([.int .i64 8], .tup [.agg [.int .i64 733041, .int .i64 733407], .bool true]),
  ([.int .i64 9], .tup [.agg [.int .i64 733407, .int .i64 733772], .bool true])]) :: s11
theorem s12k_ok : SpecsOk E0 s12 := s11k_ok.memo (by kernel_rfl) (all_cons r11k_0 <| all_cons r11k_1 <| all_cons r11k_2 <| all_cons r11k_3 <| all_cons r11k_4 <| all_cons r11k_5 <| all_cons r11k_6 <| all_cons r11k_7 <| all_cons r11k_8 <| all_cons r11k_9 <| all_cons r11k_10 <| all_cons r11k_11 <| all_cons r11k_12 <| all_cons r11k_13 <| all_cons r11k_14 <| all_cons r11k_15 <| all_cons r11k_16 <| all_cons r11k_17 <| all_cons r11k_18 <| all_cons r11k_19 <| all_nil)
/-- With bounds for the day. -/
noncomputable def dayB (lo hi : Int) : Nat → Option (Int × Int) := fun i => match Nat.beq i 2 with
  | true => some (lo, hi)
  | false => none
noncomputable def ED (lo hi : Int) : Env := ⟨E0.P, E0.G, E0.spec, E0.join, dayB lo hi, E0.val, E0.base, E0.old⟩
theorem bounded_day {lo hi : Int} {ν : Nat → Int} (h1 : lo ≤ ν 2) (h2 : ν 2 ≤ hi) : Bounded (ED lo hi) ν := by
  intro i a b h
  have h' : (match Nat.beq i 2 with | true => some (lo, hi) | false => none) = some (a, b) := h
  split at h'
  · rename_i hb
    have := nat_beq hb
    subst this
    simp only [Option.some.injEq, Prod.mk.injEq] at h'
    omega
  · cases h'
/-- The sheet of no events. -/
noncomputable def sheet0 : AV := .agg [.sym 2, .nilSlice, .nilSlice, .bool false, .str [], .str [1], .nilSlice]
theorem day_specs (lo hi : Int) : SpecsOk (ED lo hi) s12 := SpecsOk.alike (E := E0) (E' := ED lo hi) ⟨rfl, rfl, rfl, rfl, rfl⟩ s12k_ok
end Go.Proofs.YtebegohhjdllpaaGreatDoor
