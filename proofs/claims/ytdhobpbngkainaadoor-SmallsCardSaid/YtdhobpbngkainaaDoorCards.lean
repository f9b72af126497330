/-
  DERIVED. GIVEN WITH THE SEED: THE CARDS: each row of YtdhobpbngkainaaDoorRows.lean that lists a variable, with what it lists TIED to the program's text (the seventh form; the later family's looks); each row that meets fmt, with fmt's text TOLD by the authors' own Lean function (tested against real Go, not proved from fmt's source: count such statements apart). THE CARD IS WHAT COUNTS. Prove the row's statement (the work); the ties are given (YtdhobpbngkainaaDoorTie.lean); close each card by the builder's one call (the guide's Derived/Test/ToyasCard.lean, 'card_holds'). Laid BY PROGRAM, IN A SANDBOX (cutbox-door.mjs). By AI agents, Wed Nov 11 2026. No macro, syntax, notation, axiom, sorry.
-/
import Derived.Test.YtdhobpbngkainaaDoorRows
import GoSem.ClaimSeven
namespace Go.Proofs.YtdhobpbngkainaaDoor
namespace Rows

/-- THE TIED CARD OF 'versionslaw.Smalls'. -/
def smallsCard : Claim7 := { stood := { row := smallsRow, standIns := [], harness := (true, "6b98a28fd056237a7804c234690004f1a48b2829b5b6f6a924691cc7fbd472c8"), looks := true }, kinds := [], alts := [], laidByText := true, laidKinds := [.handle], laidTests := true, laidLooks := .later }
def SmallsCardSaid : Prop := Claim7.holds Tryd.pinned (.plain (OpenSpec.ofChange smallsSpec)) smallsCard

/-- THE SECOND FORM's CARD OF 'versionslaw.Smalls'. -/
def smallsUptoCard : Claim7 := { stood := { row := smallsUptoRow, standIns := [], harness := (true, "6b98a28fd056237a7804c234690004f1a48b2829b5b6f6a924691cc7fbd472c8"), looks := true }, kinds := [], alts := [], laidByText := true, laidKinds := [.handle], laidTests := true, laidLooks := .later }
def SmallsUptoCardSaid : Prop := Claim7.holds Tryd.pinned (.plain (OpenSpec.upto smallsSpec)) smallsUptoCard
end Rows
end Go.Proofs.YtdhobpbngkainaaDoor
