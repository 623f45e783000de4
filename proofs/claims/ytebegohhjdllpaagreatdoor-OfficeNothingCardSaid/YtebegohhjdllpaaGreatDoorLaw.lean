/-
  For every input the law OfficeNothing returns true, and its arguments read as before; the condition: the listed package-level variables hold their initial data, which is tied to the text of the program.
-/
import Derived.WalkKit
import Derived.ProofKit
import Derived.Test.YtebegohhjdllpaaGreatDoorFitsC
import Derived.Test.YtebegohhjdllpaaGreatDoorJoined
import Derived.Test.YtebegohhjdllpaaGreatDoorStill
import Derived.Test.YtebegohhjdllpaaGreatDoorTiedD
import Derived.Test.YtebegohhjdllpaaGreatDoorCards
set_option linter.unusedVariables false
set_option linter.unusedSimpArgs false
namespace Go.Proofs.YtebegohhjdllpaaGreatDoor
open Go Go.ChangeShapes Go.WideShapes Go.ChangeAt Go.RowKit
set_option maxRecDepth 100000
theorem size14 {W : World} (hL : laidMetH Tryz.prog Rows.officeNothingRow.laid W) : 14 ≤ W.heap.size := by
  have hn : (Rows.officeNothingRow.laid.map (·.1)).contains "tithing/check.truth" = true := by kernel_rfl
  have hm : "tithing/check.truth" ∈ Rows.officeNothingRow.laid.map (·.1) := by simpa using hn
  obtain ⟨x, hx, he⟩ := List.mem_map.1 hm
  obtain ⟨n, d⟩ := x
  simp only at he
  subst he
  have hg : Tryz.prog.globalNamed "tithing/check.truth" = some 13 := by kernel_rfl
  have := Go.Proofs.YtebegohhjdllpaaGreatDoor.size_of_laid plain0 hL hx hg
  omega
set_option maxHeartbeats 4000000 in
theorem lifted (os : Os) (started : os.Started) (H : Type) (enc : TypeId × Value → H) :
    ReturnsInHanded {} Tryz.checked os 3 .any (fun w args => (Rows.officeNothingSpec.pre enc Tryz.prog Tryz.f3 [] false w args ∧ laidMetH Tryz.prog Rows.officeNothingRow.laid w) ∧ sizedMet enc Tryz.prog Tryz.f3 (OpenSpec.ofChange Rows.officeNothingSpec) false w args)
      (Rows.officeNothingSpec.post enc Tryz.prog Tryz.f3 false true false false) := by
  refine returnsInHanded_of_change_and (C := Tryz.checked) (X := fun w _ => laidMetH Tryz.prog Rows.officeNothingRow.laid w) (fun _ _ _ hh h => h.of_heap hh) own started (by kernel_rfl) Tryz.func3
    (ChangeSpec.witness_shaped (enc := enc) (C := Tryz.checked) (os := os) (X := fun w _ => laidMetH Tryz.prog Rows.officeNothingRow.laid w) false (w0 os) args0 8 rfl (shaped0 os args0) (ok0 os) (pre0 os) (sized0 os) (met0 os _)) ?_
  intro W base args ds gs before hval0 hW _ _ hL _
  exact Go.Proofs.YtebegohhjdllpaaGreatDoor.law_frame closed1 rfl (fun d1 d2 d3 => rfl) (size14 hL) hval0 hW
theorem row_holds : Rows.OfficeNothingSaid :=
  OpenClaim.holds_of_wide 3 Tryz.f3 rfl rfl rfl rfl rfl rfl rfl ⟨rfl, rfl, rfl, rfl, rfl⟩ rfl rfl rfl rfl rfl (by kernel_rfl) Tryz.func3 joined
    (of_decide_eq_true (by kernel_rfl)) (by unfold Func.isWrapper; rw [if_neg (of_decide_eq_false (by kernel_rfl))]; exact ⟨rfl, rfl⟩)
    (fun os started H enc _ => lifted os started H enc)
theorem params_plain : ∀ (j : Nat) (t : TypeId), Tryz.f3.params[j]? = some t → Tryz.prog.wantsStandIn t = false := fun j t ht => by
  have hm := Array.mem_of_getElem? ht
  have hall : (Tryz.f3.params.toList.all fun u => !Tryz.prog.wantsStandIn u) = true := by kernel_rfl
  have := List.all_eq_true.1 hall t (by simpa using hm)
  simpa using this
theorem looks0 : true = Tryz.checked.prog.looks [] := by kernel_rfl
theorem hw0 : Rows.officeNothingRow.wfByText (OpenSpec.ofChange Rows.officeNothingSpec) = true := by kernel_rfl
theorem hm0 : Tryz.pinned.checked.prog.mainIs = some (true, "0f6f7986c460cbe96a7315037631f0c1454a331862c0714346f838e0c0a32205".toList) := by kernel_rfl
/-- The statement. -/
theorem card_holds : Rows.OfficeNothingCardSaid :=
  Claim7.holds_tied_plain_at .later [] [.data, .data, .data, .data, .sentinel, .sentinel, .widerDeep, .data, .data, .data, .data, .data, .pinned] true (true, "0f6f7986c460cbe96a7315037631f0c1454a331862c0714346f838e0c0a32205") true
    row_holds (fun D hD => by cases hD) hw0 (fun D hD => by cases hD) row_tied rfl ⟨rfl, rfl⟩ hm0 rfl
    (fun f fn hf hfn => by
      obtain rfl : f = 3 := (Option.some.inj (named3.symm.trans hf)).symm
      obtain rfl : fn = Tryz.f3 := (Option.some.inj (Tryz.func3.symm.trans hfn)).symm
      exact ⟨looks0, params_plain⟩)
    goes0
#print axioms card_holds
end Go.Proofs.YtebegohhjdllpaaGreatDoor
