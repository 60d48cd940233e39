/-
  DERIVED. GIVEN WITH THE SEED: THE CARDS: each row of YtfmkeaplkdcmlaaGreatDoorRows.lean that lists a variable, with what it lists TIED to the program's text (the seventh form; the later family's looks); each row that meets fmt, with fmt's text TOLD by the authors' own Lean function (tested against real Go, not proved from fmt's source: count such statements apart). THE CARD IS WHAT COUNTS. Prove the row's statement (the work); the ties are given (YtfmkeaplkdcmlaaGreatDoorTie.lean); close each card by the builder's one call (the guide's Derived/Test/ToyasCard.lean, 'card_holds'). Laid BY PROGRAM, IN A SANDBOX (cutbox-door.mjs). By AI agents, Wed Nov 11 2026. No macro, syntax, notation, axiom, sorry.
-/
import Derived.Test.YtfmkeaplkdcmlaaGreatDoorRows
import GoSem.ClaimSeven
namespace Go.Proofs.YtfmkeaplkdcmlaaGreatDoor
namespace Rows

/-- THE TIED CARD OF 'marginalialaw21.VmNobody'. -/
def vmNobodyCard : Claim7 := { stood := { row := vmNobodyRow, standIns := [], harness := (true, "8c6e0bacb9b8e4c52a3232373e1b3da5b02c1333d2b4bd69c0c6167d4994e806"), looks := true }, kinds := [], alts := [], laidByText := true, laidKinds := [.data, .data, .data, .widerDeep, .data], laidTests := true, laidLooks := .later }
def VmNobodyCardSaid : Prop := Claim7.holds Tryz.pinned (.plain (OpenSpec.ofChange vmNobodySpec)) vmNobodyCard

/-- THE SECOND FORM's CARD OF 'marginalialaw21.VmNobody'. -/
def vmNobodyUptoCard : Claim7 := { stood := { row := vmNobodyUptoRow, standIns := [], harness := (true, "8c6e0bacb9b8e4c52a3232373e1b3da5b02c1333d2b4bd69c0c6167d4994e806"), looks := true }, kinds := [], alts := [], laidByText := true, laidKinds := [.data, .data, .data, .widerDeep, .data], laidTests := true, laidLooks := .later }
def VmNobodyUptoCardSaid : Prop := Claim7.holds Tryz.pinned (.plain (OpenSpec.upto vmNobodySpec)) vmNobodyUptoCard
end Rows
end Go.Proofs.YtfmkeaplkdcmlaaGreatDoor
