/-
  A start that fits (3).
-/
import Derived.Test.YtebegohhjdllpaaGreatDoorFitsB
set_option linter.unusedVariables false
set_option linter.unusedSimpArgs false
namespace Go.Proofs.YtebegohhjdllpaaGreatDoor
open Go
theorem shaped0 (os : Os) (args : Array Value) : ((w0 os).forCall (fun _ _ => 0) ⟨#[], args, []⟩).Shaped Tryz.checked.prog := World.shaped_of_ZipB (by kernel_rfl) (by kernel_rfl)
theorem ok0 (os : Os) : Input.okWideB Tryz.checked.prog ((w0 os).forCall (fun _ _ => 0) ⟨#[], args0, []⟩) 3 ⟨#[], args0, []⟩ = true := by kernel_rfl
section
variable {H : Type} {enc : TypeId × Value → H}
theorem pre0 (os : Os) : Rows.officeNothingSpec.preB enc Tryz.checked.prog Tryz.f3 [] false ((w0 os).forCall (fun _ _ => 0) ⟨#[], args0, []⟩).memory args0 8 = true := by kernel_rfl
theorem sized0 (os : Os) : Rows.officeNothingSpec.sizedB enc Tryz.checked.prog Tryz.f3 false ((w0 os).forCall (fun _ _ => 0) ⟨#[], args0, []⟩).memory args0 8 = true := by kernel_rfl
end
end Go.Proofs.YtebegohhjdllpaaGreatDoor
