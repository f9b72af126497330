/-
  DERIVED. GIVEN WITH THE SEED: THE CARDS: each row of YtdhobpbngkainaaGreatDoorRows.lean that lists a variable, with what it lists TIED to the program's text (the seventh form; the later family's looks); each row that meets fmt, with fmt's text TOLD by the authors' own Lean function (tested against real Go, not proved from fmt's source: count such statements apart). THE CARD IS WHAT COUNTS. Prove the row's statement (the work); the ties are given (YtdhobpbngkainaaGreatDoorTie.lean); close each card by the builder's one call (the guide's Derived/Test/ToyasCard.lean, 'card_holds'). Laid BY PROGRAM, IN A SANDBOX (cutbox-door.mjs). By AI agents, Wed Nov 11 2026. No macro, syntax, notation, axiom, sorry.
-/
import Derived.Test.YtdhobpbngkainaaGreatDoorRows
import GoSem.ClaimSeven
namespace Go.Proofs.YtdhobpbngkainaaGreatDoor
namespace Rows

/-- THE TIED CARD OF 'versionslaw.All'. -/
def allCard : Claim7 := { stood := { row := allRow, standIns := [], harness := (true, "c4cfb78a0cf713aabfa223173374004e8f065f42396a4e6df0f97306cd68e89b"), looks := true }, kinds := [], alts := [], laidByText := true, laidKinds := [.handle], laidTests := true, laidLooks := .later }
def AllCardSaid : Prop := Claim7.holds Tryz.pinned (.plain (OpenSpec.ofChange allSpec)) allCard

/-- THE TIED CARD OF 'versionslaw.Garbage'. -/
def garbageCard : Claim7 := { stood := { row := garbageRow, standIns := [], harness := (true, "c4cfb78a0cf713aabfa223173374004e8f065f42396a4e6df0f97306cd68e89b"), looks := true }, kinds := [], alts := [], laidByText := true, laidKinds := [.handle], laidTests := true, laidLooks := .later }
def GarbageCardSaid : Prop := Claim7.holds Tryz.pinned (.plain (OpenSpec.ofChange garbageSpec)) garbageCard

/-- THE TIED CARD OF 'versionslaw.Once'. -/
def onceCard : Claim7 := { stood := { row := onceRow, standIns := [], harness := (true, "c4cfb78a0cf713aabfa223173374004e8f065f42396a4e6df0f97306cd68e89b"), looks := true }, kinds := [], alts := [], laidByText := true, laidKinds := [.handle], laidTests := true, laidLooks := .later }
def OnceCardSaid : Prop := Claim7.holds Tryz.pinned (.plain (OpenSpec.ofChange onceSpec)) onceCard

/-- THE TIED CARD OF 'versionslaw.Crashes'. -/
def crashesCard : Claim7 := { stood := { row := crashesRow, standIns := [], harness := (true, "c4cfb78a0cf713aabfa223173374004e8f065f42396a4e6df0f97306cd68e89b"), looks := true }, kinds := [], alts := [], laidByText := true, laidKinds := [.handle], laidTests := true, laidLooks := .later }
def CrashesCardSaid : Prop := Claim7.holds Tryz.pinned (.plain (OpenSpec.ofChange crashesSpec)) crashesCard

/-- THE TIED CARD OF 'versionslaw.Fulls'. -/
def fullsCard : Claim7 := { stood := { row := fullsRow, standIns := [], harness := (true, "c4cfb78a0cf713aabfa223173374004e8f065f42396a4e6df0f97306cd68e89b"), looks := true }, kinds := [], alts := [], laidByText := true, laidKinds := [.handle], laidTests := true, laidLooks := .later }
def FullsCardSaid : Prop := Claim7.holds Tryz.pinned (.plain (OpenSpec.ofChange fullsSpec)) fullsCard

/-- THE TIED CARD OF 'versionslaw.Flips'. -/
def flipsCard : Claim7 := { stood := { row := flipsRow, standIns := [], harness := (true, "c4cfb78a0cf713aabfa223173374004e8f065f42396a4e6df0f97306cd68e89b"), looks := true }, kinds := [], alts := [], laidByText := true, laidKinds := [.handle], laidTests := true, laidLooks := .later }
def FlipsCardSaid : Prop := Claim7.holds Tryz.pinned (.plain (OpenSpec.ofChange flipsSpec)) flipsCard

/-- THE TIED CARD OF 'versionslaw.Contents'. -/
def contentsCard : Claim7 := { stood := { row := contentsRow, standIns := [], harness := (true, "c4cfb78a0cf713aabfa223173374004e8f065f42396a4e6df0f97306cd68e89b"), looks := true }, kinds := [], alts := [], laidByText := true, laidKinds := [.handle], laidTests := true, laidLooks := .later }
def ContentsCardSaid : Prop := Claim7.holds Tryz.pinned (.plain (OpenSpec.ofChange contentsSpec)) contentsCard

/-- THE TIED CARD OF 'versionslaw.Kept'. -/
def keptCard : Claim7 := { stood := { row := keptRow, standIns := [], harness := (true, "c4cfb78a0cf713aabfa223173374004e8f065f42396a4e6df0f97306cd68e89b"), looks := true }, kinds := [], alts := [], laidByText := true, laidKinds := [.handle], laidTests := true, laidLooks := .later }
def KeptCardSaid : Prop := Claim7.holds Tryz.pinned (.plain (OpenSpec.ofChange keptSpec)) keptCard

/-- THE SECOND FORM's CARD OF 'versionslaw.All'. -/
def allUptoCard : Claim7 := { stood := { row := allUptoRow, standIns := [], harness := (true, "c4cfb78a0cf713aabfa223173374004e8f065f42396a4e6df0f97306cd68e89b"), looks := true }, kinds := [], alts := [], laidByText := true, laidKinds := [.handle], laidTests := true, laidLooks := .later }
def AllUptoCardSaid : Prop := Claim7.holds Tryz.pinned (.plain (OpenSpec.upto allSpec)) allUptoCard

/-- THE SECOND FORM's CARD OF 'versionslaw.Garbage'. -/
def garbageUptoCard : Claim7 := { stood := { row := garbageUptoRow, standIns := [], harness := (true, "c4cfb78a0cf713aabfa223173374004e8f065f42396a4e6df0f97306cd68e89b"), looks := true }, kinds := [], alts := [], laidByText := true, laidKinds := [.handle], laidTests := true, laidLooks := .later }
def GarbageUptoCardSaid : Prop := Claim7.holds Tryz.pinned (.plain (OpenSpec.upto garbageSpec)) garbageUptoCard

/-- THE SECOND FORM's CARD OF 'versionslaw.Once'. -/
def onceUptoCard : Claim7 := { stood := { row := onceUptoRow, standIns := [], harness := (true, "c4cfb78a0cf713aabfa223173374004e8f065f42396a4e6df0f97306cd68e89b"), looks := true }, kinds := [], alts := [], laidByText := true, laidKinds := [.handle], laidTests := true, laidLooks := .later }
def OnceUptoCardSaid : Prop := Claim7.holds Tryz.pinned (.plain (OpenSpec.upto onceSpec)) onceUptoCard

/-- THE SECOND FORM's CARD OF 'versionslaw.Crashes'. -/
def crashesUptoCard : Claim7 := { stood := { row := crashesUptoRow, standIns := [], harness := (true, "c4cfb78a0cf713aabfa223173374004e8f065f42396a4e6df0f97306cd68e89b"), looks := true }, kinds := [], alts := [], laidByText := true, laidKinds := [.handle], laidTests := true, laidLooks := .later }
def CrashesUptoCardSaid : Prop := Claim7.holds Tryz.pinned (.plain (OpenSpec.upto crashesSpec)) crashesUptoCard

/-- THE SECOND FORM's CARD OF 'versionslaw.Fulls'. -/
def fullsUptoCard : Claim7 := { stood := { row := fullsUptoRow, standIns := [], harness := (true, "c4cfb78a0cf713aabfa223173374004e8f065f42396a4e6df0f97306cd68e89b"), looks := true }, kinds := [], alts := [], laidByText := true, laidKinds := [.handle], laidTests := true, laidLooks := .later }
def FullsUptoCardSaid : Prop := Claim7.holds Tryz.pinned (.plain (OpenSpec.upto fullsSpec)) fullsUptoCard

/-- THE SECOND FORM's CARD OF 'versionslaw.Flips'. -/
def flipsUptoCard : Claim7 := { stood := { row := flipsUptoRow, standIns := [], harness := (true, "c4cfb78a0cf713aabfa223173374004e8f065f42396a4e6df0f97306cd68e89b"), looks := true }, kinds := [], alts := [], laidByText := true, laidKinds := [.handle], laidTests := true, laidLooks := .later }
def FlipsUptoCardSaid : Prop := Claim7.holds Tryz.pinned (.plain (OpenSpec.upto flipsSpec)) flipsUptoCard

/-- THE SECOND FORM's CARD OF 'versionslaw.Contents'. -/
def contentsUptoCard : Claim7 := { stood := { row := contentsUptoRow, standIns := [], harness := (true, "c4cfb78a0cf713aabfa223173374004e8f065f42396a4e6df0f97306cd68e89b"), looks := true }, kinds := [], alts := [], laidByText := true, laidKinds := [.handle], laidTests := true, laidLooks := .later }
def ContentsUptoCardSaid : Prop := Claim7.holds Tryz.pinned (.plain (OpenSpec.upto contentsSpec)) contentsUptoCard

/-- THE SECOND FORM's CARD OF 'versionslaw.Kept'. -/
def keptUptoCard : Claim7 := { stood := { row := keptUptoRow, standIns := [], harness := (true, "c4cfb78a0cf713aabfa223173374004e8f065f42396a4e6df0f97306cd68e89b"), looks := true }, kinds := [], alts := [], laidByText := true, laidKinds := [.handle], laidTests := true, laidLooks := .later }
def KeptUptoCardSaid : Prop := Claim7.holds Tryz.pinned (.plain (OpenSpec.upto keptSpec)) keptUptoCard
end Rows
end Go.Proofs.YtdhobpbngkainaaGreatDoor
