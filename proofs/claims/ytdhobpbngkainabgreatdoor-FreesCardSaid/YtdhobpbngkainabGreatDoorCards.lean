/-
  DERIVED. GIVEN WITH THE SEED: THE CARDS: each row of YtdhobpbngkainabGreatDoorRows.lean that lists a variable, with what it lists TIED to the program's text (the seventh form; the later family's looks); each row that meets fmt, with fmt's text TOLD by the authors' own Lean function (tested against real Go, not proved from fmt's source: count such statements apart). THE CARD IS WHAT COUNTS. Prove the row's statement (the work); the ties are given (YtdhobpbngkainabGreatDoorTie.lean); close each card by the builder's one call (the guide's Derived/Test/ToyasCard.lean, 'card_holds'). Laid BY PROGRAM, IN A SANDBOX (cutbox-door.mjs). By AI agents, Wed Nov 11 2026. No macro, syntax, notation, axiom, sorry.
-/
import Derived.Test.YtdhobpbngkainabGreatDoorRows
import GoSem.ClaimSeven
namespace Go.Proofs.YtdhobpbngkainabGreatDoor
namespace Rows

/-- THE TIED CARD OF 'versionslaw.Frees'. -/
def freesCard : Claim7 := { stood := { row := freesRow, standIns := [], harness := (true, "826e24fc8b00154b13815e3e08fd07916bb86f6885f23c31fb774c03b2b5ac27"), looks := true }, kinds := [], alts := [], laidByText := true, laidKinds := [.handle], laidTests := true, laidLooks := .later }
def FreesCardSaid : Prop := Claim7.holds Tryz.pinned (.plain (OpenSpec.ofChange freesSpec)) freesCard

/-- THE SECOND FORM's CARD OF 'versionslaw.Frees'. -/
def freesUptoCard : Claim7 := { stood := { row := freesUptoRow, standIns := [], harness := (true, "826e24fc8b00154b13815e3e08fd07916bb86f6885f23c31fb774c03b2b5ac27"), looks := true }, kinds := [], alts := [], laidByText := true, laidKinds := [.handle], laidTests := true, laidLooks := .later }
def FreesUptoCardSaid : Prop := Claim7.holds Tryz.pinned (.plain (OpenSpec.upto freesSpec)) freesUptoCard
end Rows
end Go.Proofs.YtdhobpbngkainabGreatDoor
