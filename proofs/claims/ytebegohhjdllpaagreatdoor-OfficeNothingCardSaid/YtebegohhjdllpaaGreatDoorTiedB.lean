import Derived.Test.YtebegohhjdllpaaGreatDoorRows
import Derived.LaidByTextLater
import Derived.SevenTiedAt
import Derived.LaidSub
import Derived.LaidOnce
namespace Go.Proofs.YtebegohhjdllpaaGreatDoor
open Go
set_option maxRecDepth 100000
set_option linter.unusedVariables false
/-- A run's end: its world, and whether it returned. -/
noncomputable def wOf : Stepped → World × Bool
  | .ended (.done _) w => (w, true)
  | .ended _ w => (w, false)
  | .next m => (m.world, false)
noncomputable def endT (os : Os) (tape : Tape) : Stepped := runN Tryz.prog 129 (Machine.entering Tryz.prog (World.unlaid Tryz.prog os) tape 874 ⟨#[], #[], []⟩)
noncomputable def wT (os : Os) (tape : Tape) : World := (wOf (endT os tape)).1.memory
theorem ldone : ∀ os tape, (wOf (endT os tape)).2 = true := fun _ _ => by kernel_rfl
noncomputable def oneB (w : World) (bs : List Nat) (ps : List MemPlace) : Bool :=
  nodupBits 1000 ps 0 && laidRowsB Tryz.prog w ps && ps.all fun p => match p with | .cell b _ => bs.elem b | .map _ => false
theorem lone0 : ∀ os tape, (DataW.laidRun Tryz.prog (wT os tape) 8 ["math/bits.deBruijn32tab"]).map (fun x => (x.1, oneB (wT os tape) [6] x.2)) = some ([("math/bits.deBruijn32tab", Rows.laid_math_bits_deBruijn32tab)], true) := fun _ _ => by kernel_rfl
theorem lone1 : ∀ os tape, (DataW.laidRun Tryz.prog (wT os tape) 8 ["math/bits.deBruijn64tab"]).map (fun x => (x.1, oneB (wT os tape) [7] x.2)) = some ([("math/bits.deBruijn64tab", Rows.laid_math_bits_deBruijn64tab)], true) := fun _ _ => by kernel_rfl
theorem lone2 : ∀ os tape, (DataW.laidRun Tryz.prog (wT os tape) 8 ["internal/strconv.uint64pow10"]).map (fun x => (x.1, oneB (wT os tape) [1] x.2)) = some ([("internal/strconv.uint64pow10", Rows.laid_internal_strconv_uint64pow10)], true) := fun _ _ => by kernel_rfl
theorem lone3 : ∀ os tape, (DataW.laidRun Tryz.prog (wT os tape) 8 ["unicode/utf8.acceptRanges"]).map (fun x => (x.1, oneB (wT os tape) [9] x.2)) = some ([("unicode/utf8.acceptRanges", Rows.laid_unicode_utf8_acceptRanges)], true) := fun _ _ => by kernel_rfl
theorem lone4 : ∀ os tape, (DataW.laidRun Tryz.prog (wT os tape) 8 ["strconv.ErrRange"]).map (fun x => (x.1, oneB (wT os tape) [5, 19] x.2)) = some ([("strconv.ErrRange", Rows.laid_strconv_ErrRange)], true) := fun _ _ => by kernel_rfl
theorem lone5 : ∀ os tape, (DataW.laidRun Tryz.prog (wT os tape) 8 ["strconv.ErrSyntax"]).map (fun x => (x.1, oneB (wT os tape) [4, 20] x.2)) = some ([("strconv.ErrSyntax", Rows.laid_strconv_ErrSyntax)], true) := fun _ _ => by kernel_rfl
end Go.Proofs.YtebegohhjdllpaaGreatDoor
