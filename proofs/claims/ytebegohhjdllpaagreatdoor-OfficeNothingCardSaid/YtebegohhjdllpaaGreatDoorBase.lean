/-
  The program: what it has no Go body for.
-/
import Derived.KernelRfl
import Derived.Test.YtebegohhjdllpaaGreatDoorEvJ
import Derived.Test.YtebegohhjdllpaaGreatDoorProg
set_option linter.unusedVariables false
set_option linter.unusedSimpArgs false
namespace Go.Proofs.YtebegohhjdllpaaGreatDoor
open Go Go.Ev
noncomputable def joinP (f : Nat) : Bool := match Nat.beq f 61 with
  | true => true
  | false => match Nat.beq f 104 with
    | true => true
    | false => Nat.beq f 567
noncomputable def E0 : Env := ⟨Tryz.prog, 14, fun _ => none, joinP, fun _ => none, fun _ => .nilFunc, 0, fun _ => none⟩
theorem mixed0 : E0.P.follows .mixedOrders = true := by kernel_rfl
theorem ext555 : Ext0 E0.P 555 Extern.BytealgIndexByte.indexByte := Ext0.of Tryz.func555 (by kernel_rfl) (by kernel_rfl) (by kernel_rfl) (by kernel_rfl)
theorem ext176 : Ext0 E0.P 176 Extern.AbiNoEscape.same := Ext0.of Tryz.func176 (by kernel_rfl) (by kernel_rfl) (by kernel_rfl) (by kernel_rfl)
theorem ext385 : Ext0 E0.P 385 (Extern.BytealgMakeNoZero.makeNoZero #[3] #[105]) := Ext0.of Tryz.func385 (by kernel_rfl) (by kernel_rfl) (by kernel_rfl) (by kernel_rfl)
theorem row105 : E0.P.underlying 105 = some (.slice 5) := by kernel_rfl
noncomputable def s0 : List (Nat × Handler) := [(555, indexByteH), (176, idH), (385, noZeroH 5)]
theorem s0k_ok : SpecsOk E0 s0 :=
  ((SpecsOk.nil.cons (fun _ => noZero_ok ext385 row105) (fun _ _ _ _ => noZero_k)).cons (fun _ => noEscape_ok ext176) (fun _ _ _ _ => id_k)).cons (fun _ => indexByte_ok ext555) (fun _ _ _ _ => indexByte_k)
end Go.Proofs.YtebegohhjdllpaaGreatDoor
