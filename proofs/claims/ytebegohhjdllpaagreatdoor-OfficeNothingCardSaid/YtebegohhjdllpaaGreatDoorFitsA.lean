/-
  A start that fits (1).
-/
import Derived.ClosedOfChecked
import Derived.LaidMore
import Derived.Stop.Joined
import Derived.Lay
import Derived.Test.YtebegohhjdllpaaGreatDoorFrame
import Derived.Test.YtebegohhjdllpaaGreatDoorRows
set_option linter.unusedVariables false
set_option linter.unusedSimpArgs false
namespace Go.Proofs.YtebegohhjdllpaaGreatDoor
open Go Go.ClosedOfChecked
theorem size0 : Tryz.checked.prog.types.size = 942 := by kernel_rfl
theorem rest0 : (Tryz.checked.prog.globals.all (fun g => decide (g.type < Tryz.checked.prog.types.size)) && Tryz.checked.prog.funcs.all (fun f => f.params.all fun t => decide (t < Tryz.checked.prog.types.size))) = true := by
  rw [size0, ← Array.all_toList, ← @Array.all_toList _ _ Tryz.checked.prog.funcs]
  kernel_rfl
theorem hty0 : Tryz.checked.prog.types = Tryz.checked.src.types := by kernel_rfl
theorem closed1 : laidOutB Tryz.checked.prog = true := laidOutB_of (allSpec_of Tryz.checked.wellFormed hty0) rest0
theorem closed2 : mapsRowed Tryz.checked.prog = true := mapsRowed_of (allSpec_of Tryz.checked.wellFormed hty0)
theorem closed3 : Tryz.checked.prog.plainKeys = false := by
  unfold Program.plainKeys
  rw [List.all_eq_false]
  exact ⟨38, List.mem_range.2 (of_decide_eq_true (by kernel_rfl)), by rw [Bool.not_eq_true]; kernel_rfl⟩
end Go.Proofs.YtebegohhjdllpaaGreatDoor
namespace Go.Proofs.YtebegohhjdllpaaGreatDoor
open Go
theorem own : ownKnob Tryz.prog.godebug = none := by kernel_rfl
noncomputable abbrev w0 (os : Os) : World := World.laidAll Tryz.prog os Rows.officeNothingRow.laid
def ev0 : Array Value := #[.int .i64 0, .int .i64 0, .int .i64 0, .int .i64 0, .int .i64 0, .int .i64 0, .int .i64 0, .int .i64 0, .int .i64 0, .string ⟨#[]⟩, .bool false, .string ⟨#[]⟩, .string ⟨#[]⟩, .slice none 0 0, .slice none 0 0,
  .int .i64 0, .int .i64 0, .int .i64 0, .int .i64 0, .slice none 0 0, .slice none 0 0]
def args0 : Array Value := #[.agg #[.int .i64 0, .int .i64 0], .agg ev0, .int .i64 0]
theorem fits0 (os : Os) : (World.holding Tryz.prog os ⟨#[], #[], []⟩).layFits Tryz.prog Rows.officeNothingRow.laid [] = true := by kernel_rfl
end Go.Proofs.YtebegohhjdllpaaGreatDoor
