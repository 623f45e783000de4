/-
  The examples of the chapter.
-/
import Derived.Test.YtebegohhjdllpaaGreatDoorTabC
set_option linter.unusedVariables false
set_option linter.unusedSimpArgs false
namespace Go.Proofs.YtebegohhjdllpaaGreatDoor
open Go Go.Ev
theorem sanity_ok : ∀ ν, EntryOk E0.P E0.G ν 4 ([], .bool true) := s10k_ok.entry mixed0 rfl rfl 10000000 (by kernel_rfl)
end Go.Proofs.YtebegohhjdllpaaGreatDoor
