/-
  DERIVED. GIVEN WITH THE SEED: THE CARDS: each row of YtebegohhjdllpaaGreatDoorRows.lean that lists a variable, with what it lists TIED to the program's text (the seventh form; the later family's looks); each row that meets fmt, with fmt's text TOLD by the authors' own Lean function (tested against real Go, not proved from fmt's source: count such statements apart). THE CARD IS WHAT COUNTS. Prove the row's statement (the work); the ties are given (YtebegohhjdllpaaGreatDoorTie.lean); close each card by the builder's one call (the guide's Derived/Test/ToyasCard.lean, 'card_holds'). Laid BY PROGRAM, IN A SANDBOX (cutbox-door.mjs). By AI agents, Wed Nov 11 2026. No macro, syntax, notation, axiom, sorry.
-/
import Derived.Test.YtebegohhjdllpaaGreatDoorRows
import GoSem.ClaimSeven
namespace Go.Proofs.YtebegohhjdllpaaGreatDoor
namespace Rows

/-- THE TIED CARD OF 'tithinglaw37.OfficeNothing'. -/
def officeNothingCard : Claim7 := { stood := { row := officeNothingRow, standIns := [], harness := (true, "0f6f7986c460cbe96a7315037631f0c1454a331862c0714346f838e0c0a32205"), looks := true }, kinds := [], alts := [], laidByText := true, laidKinds := [.data, .data, .data, .data, .sentinel, .sentinel, .widerDeep, .data, .data, .data, .data, .data, .pinned], laidTests := true, laidLooks := .later }
def OfficeNothingCardSaid : Prop := Claim7.holds Tryz.pinned (.plain (OpenSpec.ofChange officeNothingSpec)) officeNothingCard

/-- THE SECOND FORM's CARD OF 'tithinglaw37.OfficeNothing'. -/
def officeNothingUptoCard : Claim7 := { stood := { row := officeNothingUptoRow, standIns := [], harness := (true, "0f6f7986c460cbe96a7315037631f0c1454a331862c0714346f838e0c0a32205"), looks := true }, kinds := [], alts := [], laidByText := true, laidKinds := [.data, .data, .data, .data, .sentinel, .sentinel, .widerDeep, .data, .data, .data, .data, .data, .pinned], laidTests := true, laidLooks := .later }
def OfficeNothingUptoCardSaid : Prop := Claim7.holds Tryz.pinned (.plain (OpenSpec.upto officeNothingSpec)) officeNothingUptoCard
end Rows
end Go.Proofs.YtebegohhjdllpaaGreatDoor
