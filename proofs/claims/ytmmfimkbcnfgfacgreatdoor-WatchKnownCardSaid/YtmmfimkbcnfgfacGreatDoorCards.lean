/-
  DERIVED. GIVEN WITH THE SEED: THE CARDS: each row of YtmmfimkbcnfgfacGreatDoorRows.lean that lists a variable, with what it lists TIED to the program's text (the seventh form; the later family's looks); each row that meets fmt, with fmt's text TOLD by the authors' own Lean function (tested against real Go, not proved from fmt's source: count such statements apart). THE CARD IS WHAT COUNTS. Prove the row's statement (the work); the ties are given (YtmmfimkbcnfgfacGreatDoorTie.lean); close each card by the builder's one call (the guide's Derived/Test/ToyasCard.lean, 'card_holds'). Laid BY PROGRAM, IN A SANDBOX (cutbox-door.mjs). By AI agents, Wed Nov 11 2026. No macro, syntax, notation, axiom, sorry.
-/
import Derived.Test.YtmmfimkbcnfgfacGreatDoorRows
import GoSem.ClaimSeven
namespace Go.Proofs.YtmmfimkbcnfgfacGreatDoor
namespace Rows

/-- THE TIED CARD OF 'cisternlaw29.WatchKnown'. -/
def watchKnownCard : Claim7 := { stood := { row := watchKnownRow, standIns := [], harness := (true, "28b4a90fa57f3d544416e62286e7bea2908086592cad8404e543fa82c6b9902c"), looks := false }, kinds := [], alts := [], laidByText := true, laidKinds := [.data, .data, .data, .widerDeep], laidTests := true, laidLooks := .later }
def WatchKnownCardSaid : Prop := Claim7.holds Tryz.pinned (.plain (OpenSpec.ofChange watchKnownSpec)) watchKnownCard

/-- THE SECOND FORM's CARD OF 'cisternlaw29.WatchKnown'. -/
def watchKnownUptoCard : Claim7 := { stood := { row := watchKnownUptoRow, standIns := [], harness := (true, "28b4a90fa57f3d544416e62286e7bea2908086592cad8404e543fa82c6b9902c"), looks := false }, kinds := [], alts := [], laidByText := true, laidKinds := [.data, .data, .data, .widerDeep], laidTests := true, laidLooks := .later }
def WatchKnownUptoCardSaid : Prop := Claim7.holds Tryz.pinned (.plain (OpenSpec.upto watchKnownSpec)) watchKnownUptoCard
end Rows
end Go.Proofs.YtmmfimkbcnfgfacGreatDoor
