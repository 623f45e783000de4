import Derived.Test.YtebegohhjdllpaaGreatDoorRows
import Derived.LaidByTextLater
import Derived.SevenTiedAt
import Derived.LaidSub
import Derived.LaidOnce
import Derived.Test.YtebegohhjdllpaaGreatDoorTiedB
namespace Go.Proofs.YtebegohhjdllpaaGreatDoor
open Go
set_option maxRecDepth 100000
set_option linter.unusedVariables false
theorem lone6 : ∀ os tape, (DataW.laidRun Tryz.prog (wT os tape) 8 ["tithing/expr.table"]).map (fun x => (x.1, oneB (wT os tape) [0] x.2)) = some ([("tithing/expr.table", Rows.laid_tithing_expr_table)], true) := fun _ _ => by kernel_rfl
theorem lone7 : ∀ os tape, (DataW.laidRun Tryz.prog (wT os tape) 8 ["tithing/check.truth"]).map (fun x => (x.1, oneB (wT os tape) [13] x.2)) = some ([("tithing/check.truth", Rows.laid_tithing_check_truth)], true) := fun _ _ => by kernel_rfl
theorem lone8 : ∀ os tape, (DataW.laidRun Tryz.prog (wT os tape) 8 ["tithing/check.cash"]).map (fun x => (x.1, oneB (wT os tape) [10] x.2)) = some ([("tithing/check.cash", Rows.laid_tithing_check_cash)], true) := fun _ _ => by kernel_rfl
theorem lone9 : ∀ os tape, (DataW.laidRun Tryz.prog (wT os tape) 8 ["tithing/check.days"]).map (fun x => (x.1, oneB (wT os tape) [11] x.2)) = some ([("tithing/check.days", Rows.laid_tithing_check_days)], true) := fun _ _ => by kernel_rfl
theorem lone10 : ∀ os tape, (DataW.laidRun Tryz.prog (wT os tape) 8 ["tithing/check.plain"]).map (fun x => (x.1, oneB (wT os tape) [12] x.2)) = some ([("tithing/check.plain", Rows.laid_tithing_check_plain)], true) := fun _ _ => by kernel_rfl
theorem lone11 : ∀ os tape, (DataW.laidRun Tryz.prog (wT os tape) 8 ["tithing/statute.cash"]).map (fun x => (x.1, oneB (wT os tape) [3] x.2)) = some ([("tithing/statute.cash", Rows.laid_tithing_statute_cash)], true) := fun _ _ => by kernel_rfl
end Go.Proofs.YtebegohhjdllpaaGreatDoor
