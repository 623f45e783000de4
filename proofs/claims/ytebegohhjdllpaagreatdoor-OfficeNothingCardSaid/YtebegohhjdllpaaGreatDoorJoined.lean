/-
  The closed facts of the row.
-/
import Derived.JoinedOf
import Derived.Test.YtebegohhjdllpaaGreatDoorLeads
set_option linter.unusedVariables false
set_option linter.unusedSimpArgs false
namespace Go.Proofs.YtebegohhjdllpaaGreatDoor
open Go Go.Ev
set_option maxRecDepth 100000
theorem plain3 : (Rows.officeNothingRow.plainKeys == Tryz.checked.prog.plainKeys) = true := by
  rw [closed3]; rfl
theorem j0 : (Rows.officeNothingRow.wf (OpenSpec.ofChange Rows.officeNothingSpec)) = true := by kernel_rfl
theorem j3 : (Tryz.f3.params.all (Tryz.checked.prog.readableRec ·)) = true := by kernel_rfl
theorem j4 : (namedTie Tryz.checked.prog Rows.officeNothingRow.named Rows.officeNothingSpec.vars) = true := by kernel_rfl
theorem j5 : ((Rows.officeNothingRow.stops == [])) = true := by kernel_rfl
theorem j6 : ((Tryz.checked.prog.stops == [])) = true := by kernel_rfl
theorem j7 : ((Rows.officeNothingRow.knobs == [])) = true := by kernel_rfl
theorem j8 : ((Tryz.checked.prog.stopKnobs == [])) = true := by kernel_rfl
theorem j13 : ((Rows.officeNothingRow.maps == (Tryz.f3.params.toList ++ Rows.officeNothingSpec.plain.varTypes Tryz.checked.prog).any (Tryz.checked.prog.mapsRec ·))) = true := by kernel_rfl
theorem j14 : ((Rows.officeNothingRow.ifaces == (Tryz.f3.params.toList ++ Rows.officeNothingSpec.plain.varTypes Tryz.checked.prog).any (Tryz.checked.prog.ifacesRec ·))) = true := by kernel_rfl
theorem j15 : ((Rows.officeNothingRow.mapsOut == Tryz.checked.prog.mapsAmong Tryz.f3.resultTypes.toList)) = true := by kernel_rfl
theorem j16 : ((Rows.officeNothingRow.loops == (Tryz.f3.params.toList ++ Rows.officeNothingSpec.plain.varTypes Tryz.checked.prog).any (Tryz.checked.prog.loopsFrom ·))) = true := by kernel_rfl
theorem j17 : ((Rows.officeNothingRow.wideKeys == (Tryz.f3.params.toList ++ Rows.officeNothingSpec.plain.varTypes Tryz.checked.prog ++ Tryz.f3.resultTypes.toList).any (Tryz.checked.prog.wideKeysFrom ·))) = true := by kernel_rfl
theorem j18 : (Rows.officeNothingSpec.vars.all (Tryz.checked.prog.varReadable ·)) = true := by kernel_rfl
theorem j19 : (Tryz.f3.resultTypes.all (fun t => Tryz.checked.prog.readableRec t && decide (t < Tryz.checked.prog.types.size))) = true := by kernel_rfl
theorem j20 : ((Rows.officeNothingRow.ifacesOut == Tryz.f3.resultTypes.toList.any (Tryz.checked.prog.ifacesRec ·))) = true := by kernel_rfl
theorem j21 : ((Rows.officeNothingRow.loopsOut == Tryz.f3.resultTypes.toList.any (Tryz.checked.prog.loopsFrom ·))) = true := by kernel_rfl
theorem j23 : (Rows.officeNothingRow.shortTexts.isNone) = true := by kernel_rfl
theorem j24 : (Tryz.checked.prog.stopsHeard) = true := by kernel_rfl
theorem j25 : (Tryz.checked.prog.mayEnter) = true := by kernel_rfl
theorem j26 : ((Rows.officeNothingRow.lifted == Tryz.checked.prog.liftsFinal)) = true := by kernel_rfl
theorem j27 : ((Tryz.checked.prog.make == some Rows.officeNothingRow.make)) = true := by kernel_rfl
theorem j28 : ((Rows.officeNothingRow.kinds == (if Rows.officeNothingRow.domain.isEmpty then [] else Tryz.f3.params.toList.map fun t => match Tryz.checked.prog.underlying t with | some (.int k) => some k | _ => none))) = true := by kernel_rfl
theorem j29 : ((Rows.officeNothingRow.pinned == Rows.officeNothingRow.pinnedBy)) = true := by kernel_rfl
theorem j30 : ((Rows.officeNothingRow.veiled == (Tryz.f3.params.toList ++ Rows.officeNothingSpec.plain.varTypes Tryz.checked.prog ++ Tryz.f3.resultTypes.toList).any (Tryz.checked.prog.veiledRec ·))) = true := by kernel_rfl
theorem j31 : (Rows.officeNothingRow.veiledFits Tryz.checked.prog Tryz.f3.params.toList (Tryz.f3.params.toList ++ Rows.officeNothingSpec.plain.varTypes Tryz.checked.prog ++ Tryz.f3.resultTypes.toList)) = true := by kernel_rfl
theorem joined : joinedFacts Tryz.checked.prog 3 Tryz.f3 Rows.officeNothingSpec Rows.officeNothingRow = true := by
  unfold joinedFacts
  simp only [Bool.and_eq_true]
  exact ⟨⟨⟨⟨⟨⟨⟨⟨⟨⟨⟨⟨⟨⟨⟨⟨⟨⟨⟨⟨⟨⟨⟨⟨⟨⟨⟨⟨⟨⟨⟨j0, closed1⟩, closed2⟩, j3⟩, j4⟩, j5⟩, j6⟩, j7⟩, j8⟩, inPlace3⟩, (by rw [show Tryz.checked.prog.unfollowed 3 = true from unfollowed3]; rfl)⟩, (by rw [show Tryz.checked.prog.recurses 3 = true from recurses3]; rfl)⟩, varsNamed3⟩, j13⟩, j14⟩, j15⟩, j16⟩, j17⟩, j18⟩, j19⟩, j20⟩, j21⟩, plain3⟩, j23⟩, j24⟩, j25⟩, j26⟩, j27⟩, j28⟩, j29⟩, j30⟩, j31⟩
end Go.Proofs.YtebegohhjdllpaaGreatDoor
