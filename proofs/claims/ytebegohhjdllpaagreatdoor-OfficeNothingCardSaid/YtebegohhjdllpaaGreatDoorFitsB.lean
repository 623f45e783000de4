/-
  A start that fits (2).
-/
import Derived.Test.YtebegohhjdllpaaGreatDoorFitsA
set_option linter.unusedVariables false
set_option linter.unusedSimpArgs false
namespace Go.Proofs.YtebegohhjdllpaaGreatDoor
open Go
theorem ifaces0 (os : Os) : (World.holding Tryz.prog os ⟨#[], #[], []⟩).layIfaces Tryz.prog Rows.officeNothingRow.laid (World.laidAll Tryz.prog os Rows.officeNothingRow.laid) = true := by kernel_rfl
theorem plain0 : (Rows.officeNothingRow.laid.all fun x => x.2.handleName?.isNone) = true := by kernel_rfl
theorem met0 (os : Os) (args : Array Value) : laidMetH Tryz.prog Rows.officeNothingRow.laid ((w0 os).forCall (fun _ _ => 0) ⟨#[], args, []⟩).memory := by
  rw [MakeChecks.laidMetH_plain _ _ _ plain0]
  exact laidMet_laidAll _ (fits0 os) (ifaces0 os)
end Go.Proofs.YtebegohhjdllpaaGreatDoor
