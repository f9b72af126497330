/-
  NARROWER THAN 'FOR EVERY INPUT', by the rows' own cells (each row's printed sentence says how): All: laid · Garbage: laid · Once: laid · Crashes: laid · Fulls: laid · Flips: laid · Contents: laid · Kept: laid.
  DERIVED. THE GIVEN ROWS OF THIS SEAT. 8 by the template 'for every input the law returns true; each argument reads behind the call as it read before'; 0 by the template 'total and deterministic' (their statements: YtdhobpbngkainaaGreatDoorTotals.lean).
  GIVEN WITH THE SEED: the statements are not yours to turn. If you find one false, say at which input.
  Laid BY PROGRAM, IN A SANDBOX (cutbox-rows.mjs): the forced cells as the released guide's own fill.sh prints them over the translation 41f4fb587794e53a… (all of the seat's roots in one cut). By AI agents, Wed Nov 11 2026. No macro, syntax, notation, axiom, sorry.
-/
import Derived.Test.YtdhobpbngkainaaGreatDoorChecked
import GoSem.Claim
import GoSem.ClaimJoined
import GoSem.ClaimMapViews
import Derived.JoinedTies
import Derived.KernelRfl
namespace Go.Proofs.YtdhobpbngkainaaGreatDoor
/- THE CELL 'sum', in the pinned program and in every row, IS THE sha256 OF THE DUMP (.gsa) THAT YtdhobpbngkainaaGreatDoorProg.lean LOADS. Nothing in Lean hashes anything: it is a label: what it is worth is what the hold of that sum in a sandbox is worth. -/
noncomputable def Tryz.pinned : Pinned := { name := "ytdhobpbngkainaagreatdoor", sum := "41f4fb587794e53ac890fdcb176e59ea9ad54ddab830815cc4592f78bcc246d1", checked := Tryz.checked }
namespace Rows
def none {H : Type} : Left H := { results := [], args := [] }

/- WHAT THE LISTED PACKAGE-LEVEL VARIABLES READ AS WHEN THE CALL BEGINS. Each datum BY PROGRAM (the guide's laid-datum.mjs) off the statement by which the dump's own 'gosem.cut.vars' lays the variable. In a bare row this is a premise. The card (YtdhobpbngkainaaGreatDoorCards.lean) ties it to the program's text. -/
def laid_errors_errorType {H : Type} : DataW H := .iface "internal/reflectlite.rtype" (.agg [.ptr (.lit (.string [101, 114, 114, 111, 114]))])

/-- 'versionslaw.All': WHATEVER THE INPUT: true; the input reads as it did. -/
def allSpec : ChangeSpec := { name := "all", fn := fun _ => fun
  | [d1, d2] => { results := [.lit (.bool true)], args := [d1, d2] }
  | _ => none }
def allRow : OpenClaim := { program := "ytdhobpbngkainaagreatdoor", sum := "41f4fb587794e53ac890fdcb176e59ea9ad54ddab830815cc4592f78bcc246d1", func := "versions/versionslaw.All", spec := "all", inPlace := ["internal/reflectlite.ValueOf", "(internal/reflectlite.Value).Type", "(internal/reflectlite.Value).IsNil", "internal/reflectlite.TypeOf", "(internal/reflectlite.Value).Elem", "(internal/reflectlite.Value).Set", "internal/bytealg.abigen_runtime_cmpstring"], unfollowed := true, recurses := true, named := ["errors.errorType"], plainKeys := false, apart := false, laid := [("errors.errorType", laid_errors_errorType)] }
def AllSaid : Prop := allRow.holds Tryz.pinned (OpenSpec.ofChange allSpec)

/-- ITS FALSE NEIGHBOUR: 'it returns false'. Refute it at one input. -/
def allWrong : ChangeSpec := { name := "all", fn := fun _ => fun
  | [d1, d2] => { results := [.lit (.bool false)], args := [d1, d2] }
  | _ => none }
def AllWrongFalsely : Prop := allRow.holds Tryz.pinned (OpenSpec.ofChange allWrong)

/-- 'versionslaw.Garbage': WHATEVER THE INPUT: true; the input reads as it did. -/
def garbageSpec : ChangeSpec := { name := "garbage", fn := fun _ => fun
  | [d1, d2, d3, d4] => { results := [.lit (.bool true)], args := [d1, d2, d3, d4] }
  | _ => none }
def garbageRow : OpenClaim := { program := "ytdhobpbngkainaagreatdoor", sum := "41f4fb587794e53ac890fdcb176e59ea9ad54ddab830815cc4592f78bcc246d1", func := "versions/versionslaw.Garbage", spec := "garbage", inPlace := ["internal/reflectlite.ValueOf", "(internal/reflectlite.Value).Type", "(internal/reflectlite.Value).IsNil", "internal/reflectlite.TypeOf", "(internal/reflectlite.Value).Elem", "(internal/reflectlite.Value).Set", "internal/bytealg.abigen_runtime_cmpstring"], unfollowed := true, recurses := true, named := ["errors.errorType"], plainKeys := false, apart := false, laid := [("errors.errorType", laid_errors_errorType)] }
def GarbageSaid : Prop := garbageRow.holds Tryz.pinned (OpenSpec.ofChange garbageSpec)

/-- ITS FALSE NEIGHBOUR: 'it returns false'. Refute it at one input. -/
def garbageWrong : ChangeSpec := { name := "garbage", fn := fun _ => fun
  | [d1, d2, d3, d4] => { results := [.lit (.bool false)], args := [d1, d2, d3, d4] }
  | _ => none }
def GarbageWrongFalsely : Prop := garbageRow.holds Tryz.pinned (OpenSpec.ofChange garbageWrong)

/-- 'versionslaw.Once': WHATEVER THE INPUT: true; the input reads as it did. -/
def onceSpec : ChangeSpec := { name := "once", fn := fun _ => fun
  | [d1, d2] => { results := [.lit (.bool true)], args := [d1, d2] }
  | _ => none }
def onceRow : OpenClaim := { program := "ytdhobpbngkainaagreatdoor", sum := "41f4fb587794e53ac890fdcb176e59ea9ad54ddab830815cc4592f78bcc246d1", func := "versions/versionslaw.Once", spec := "once", inPlace := ["internal/reflectlite.ValueOf", "(internal/reflectlite.Value).Type", "(internal/reflectlite.Value).IsNil", "internal/reflectlite.TypeOf", "(internal/reflectlite.Value).Elem", "(internal/reflectlite.Value).Set"], unfollowed := true, recurses := true, named := ["errors.errorType"], plainKeys := false, apart := false, laid := [("errors.errorType", laid_errors_errorType)] }
def OnceSaid : Prop := onceRow.holds Tryz.pinned (OpenSpec.ofChange onceSpec)

/-- ITS FALSE NEIGHBOUR: 'it returns false'. Refute it at one input. -/
def onceWrong : ChangeSpec := { name := "once", fn := fun _ => fun
  | [d1, d2] => { results := [.lit (.bool false)], args := [d1, d2] }
  | _ => none }
def OnceWrongFalsely : Prop := onceRow.holds Tryz.pinned (OpenSpec.ofChange onceWrong)

/-- 'versionslaw.Crashes': WHATEVER THE INPUT: true; the input reads as it did. -/
def crashesSpec : ChangeSpec := { name := "crashes", fn := fun _ => fun
  | [d1, d2, d3, d4] => { results := [.lit (.bool true)], args := [d1, d2, d3, d4] }
  | _ => none }
def crashesRow : OpenClaim := { program := "ytdhobpbngkainaagreatdoor", sum := "41f4fb587794e53ac890fdcb176e59ea9ad54ddab830815cc4592f78bcc246d1", func := "versions/versionslaw.Crashes", spec := "crashes", inPlace := ["internal/reflectlite.ValueOf", "(internal/reflectlite.Value).Type", "(internal/reflectlite.Value).IsNil", "internal/reflectlite.TypeOf", "(internal/reflectlite.Value).Elem", "(internal/reflectlite.Value).Set", "internal/bytealg.abigen_runtime_cmpstring"], unfollowed := true, recurses := true, named := ["errors.errorType"], plainKeys := false, apart := false, laid := [("errors.errorType", laid_errors_errorType)] }
def CrashesSaid : Prop := crashesRow.holds Tryz.pinned (OpenSpec.ofChange crashesSpec)

/-- ITS FALSE NEIGHBOUR: 'it returns false'. Refute it at one input. -/
def crashesWrong : ChangeSpec := { name := "crashes", fn := fun _ => fun
  | [d1, d2, d3, d4] => { results := [.lit (.bool false)], args := [d1, d2, d3, d4] }
  | _ => none }
def CrashesWrongFalsely : Prop := crashesRow.holds Tryz.pinned (OpenSpec.ofChange crashesWrong)

/-- 'versionslaw.Fulls': WHATEVER THE INPUT: true; the input reads as it did. -/
def fullsSpec : ChangeSpec := { name := "fulls", fn := fun _ => fun
  | [d1, d2, d3] => { results := [.lit (.bool true)], args := [d1, d2, d3] }
  | _ => none }
def fullsRow : OpenClaim := { program := "ytdhobpbngkainaagreatdoor", sum := "41f4fb587794e53ac890fdcb176e59ea9ad54ddab830815cc4592f78bcc246d1", func := "versions/versionslaw.Fulls", spec := "fulls", inPlace := ["internal/reflectlite.ValueOf", "(internal/reflectlite.Value).Type", "(internal/reflectlite.Value).IsNil", "internal/reflectlite.TypeOf", "(internal/reflectlite.Value).Elem", "(internal/reflectlite.Value).Set", "internal/bytealg.abigen_runtime_cmpstring"], unfollowed := true, recurses := true, named := ["errors.errorType"], plainKeys := false, apart := false, laid := [("errors.errorType", laid_errors_errorType)] }
def FullsSaid : Prop := fullsRow.holds Tryz.pinned (OpenSpec.ofChange fullsSpec)

/-- ITS FALSE NEIGHBOUR: 'it returns false'. Refute it at one input. -/
def fullsWrong : ChangeSpec := { name := "fulls", fn := fun _ => fun
  | [d1, d2, d3] => { results := [.lit (.bool false)], args := [d1, d2, d3] }
  | _ => none }
def FullsWrongFalsely : Prop := fullsRow.holds Tryz.pinned (OpenSpec.ofChange fullsWrong)

/-- 'versionslaw.Flips': WHATEVER THE INPUT: true; the input reads as it did. -/
def flipsSpec : ChangeSpec := { name := "flips", fn := fun _ => fun
  | [d1, d2, d3, d4] => { results := [.lit (.bool true)], args := [d1, d2, d3, d4] }
  | _ => none }
def flipsRow : OpenClaim := { program := "ytdhobpbngkainaagreatdoor", sum := "41f4fb587794e53ac890fdcb176e59ea9ad54ddab830815cc4592f78bcc246d1", func := "versions/versionslaw.Flips", spec := "flips", inPlace := ["internal/reflectlite.ValueOf", "(internal/reflectlite.Value).Type", "(internal/reflectlite.Value).IsNil", "internal/reflectlite.TypeOf", "(internal/reflectlite.Value).Elem", "(internal/reflectlite.Value).Set", "internal/bytealg.abigen_runtime_cmpstring"], unfollowed := true, recurses := true, named := ["errors.errorType"], plainKeys := false, apart := false, laid := [("errors.errorType", laid_errors_errorType)] }
def FlipsSaid : Prop := flipsRow.holds Tryz.pinned (OpenSpec.ofChange flipsSpec)

/-- ITS FALSE NEIGHBOUR: 'it returns false'. Refute it at one input. -/
def flipsWrong : ChangeSpec := { name := "flips", fn := fun _ => fun
  | [d1, d2, d3, d4] => { results := [.lit (.bool false)], args := [d1, d2, d3, d4] }
  | _ => none }
def FlipsWrongFalsely : Prop := flipsRow.holds Tryz.pinned (OpenSpec.ofChange flipsWrong)

/-- 'versionslaw.Contents': WHATEVER THE INPUT: true; the input reads as it did. -/
def contentsSpec : ChangeSpec := { name := "contents", fn := fun _ => fun
  | [d1, d2] => { results := [.lit (.bool true)], args := [d1, d2] }
  | _ => none }
def contentsRow : OpenClaim := { program := "ytdhobpbngkainaagreatdoor", sum := "41f4fb587794e53ac890fdcb176e59ea9ad54ddab830815cc4592f78bcc246d1", func := "versions/versionslaw.Contents", spec := "contents", inPlace := ["internal/reflectlite.ValueOf", "(internal/reflectlite.Value).Type", "(internal/reflectlite.Value).IsNil", "internal/reflectlite.TypeOf", "(internal/reflectlite.Value).Elem", "(internal/reflectlite.Value).Set", "internal/bytealg.abigen_runtime_cmpstring"], unfollowed := true, recurses := true, named := ["errors.errorType"], plainKeys := false, apart := false, laid := [("errors.errorType", laid_errors_errorType)] }
def ContentsSaid : Prop := contentsRow.holds Tryz.pinned (OpenSpec.ofChange contentsSpec)

/-- ITS FALSE NEIGHBOUR: 'it returns false'. Refute it at one input. -/
def contentsWrong : ChangeSpec := { name := "contents", fn := fun _ => fun
  | [d1, d2] => { results := [.lit (.bool false)], args := [d1, d2] }
  | _ => none }
def ContentsWrongFalsely : Prop := contentsRow.holds Tryz.pinned (OpenSpec.ofChange contentsWrong)

/-- 'versionslaw.Kept': WHATEVER THE INPUT: true; the input reads as it did. -/
def keptSpec : ChangeSpec := { name := "kept", fn := fun _ => fun
  | [d1, d2] => { results := [.lit (.bool true)], args := [d1, d2] }
  | _ => none }
def keptRow : OpenClaim := { program := "ytdhobpbngkainaagreatdoor", sum := "41f4fb587794e53ac890fdcb176e59ea9ad54ddab830815cc4592f78bcc246d1", func := "versions/versionslaw.Kept", spec := "kept", inPlace := ["internal/reflectlite.ValueOf", "(internal/reflectlite.Value).Type", "(internal/reflectlite.Value).IsNil", "internal/reflectlite.TypeOf", "(internal/reflectlite.Value).Elem", "(internal/reflectlite.Value).Set", "internal/bytealg.abigen_runtime_cmpstring"], unfollowed := true, recurses := true, named := ["errors.errorType"], plainKeys := false, apart := false, laid := [("errors.errorType", laid_errors_errorType)] }
def KeptSaid : Prop := keptRow.holds Tryz.pinned (OpenSpec.ofChange keptSpec)

/-- ITS FALSE NEIGHBOUR: 'it returns false'. Refute it at one input. -/
def keptWrong : ChangeSpec := { name := "kept", fn := fun _ => fun
  | [d1, d2] => { results := [.lit (.bool false)], args := [d1, d2] }
  | _ => none }
def KeptWrongFalsely : Prop := keptRow.holds Tryz.pinned (OpenSpec.ofChange keptWrong)

/- THE SECOND FORM. 'bulk': how many values and letters a reading holds, each counted each time it is reached (what is shared counts as often as it is met; a slice's spare places count too). A statement '..UptoSaid' is the law's where the arguments, and the package variables that the reading takes, are together of bulk at most 1048576: NARROWER than '..Said'. Prove '..Said' where nothing that the law and all that it calls make is longer than what came in: it says more and counts as full. Else prove '..UptoSaid'. A law counts once. -/
mutual
def uptoBulk {H : Type} : DataW H → Nat
  | .lit (.string bytes) => bytes.length + 1
  | .lit _ => 1
  | .nil => 1
  | .ptr d => uptoBulk d + 1
  | .slice elems spare => uptoBulkAll elems + uptoBulkAll spare + 1
  | .agg parts => uptoBulkAll parts + 1
  | .iface _ d => uptoBulk d + 1
  | .map entries => uptoBulkEntries entries + 1
  | .held _ => 1
def uptoBulkAll {H : Type} : List (DataW H) → Nat
  | [] => 0
  | d :: r => uptoBulk d + uptoBulkAll r
def uptoBulkEntries {H : Type} : List (Lit × DataW H) → Nat
  | [] => 0
  | x :: r => uptoBulkEntry x + uptoBulkEntries r
def uptoBulkEntry {H : Type} : Lit × DataW H → Nat
  | (.string bytes, d) => bytes.length + uptoBulk d + 1
  | (_, d) => uptoBulk d + 1
 end
def uptoSmall : (H : Type) → List (DataW H) → Bool := fun _ ds => decide (uptoBulkAll ds ≤ 1048576)
def OpenSpec.upto (s : _root_.Go.ChangeSpec) : _root_.Go.OpenSpec := { _root_.Go.OpenSpec.ofChange s with cond := some uptoSmall }

/-- 'versionslaw.All', WHERE WHAT IT READS IS OF BULK AT MOST 1048576: true; the input reads as it did. -/
def allUptoRow : OpenClaim := { program := "ytdhobpbngkainaagreatdoor", sum := "41f4fb587794e53ac890fdcb176e59ea9ad54ddab830815cc4592f78bcc246d1", func := "versions/versionslaw.All", spec := "all", inPlace := ["internal/reflectlite.ValueOf", "(internal/reflectlite.Value).Type", "(internal/reflectlite.Value).IsNil", "internal/reflectlite.TypeOf", "(internal/reflectlite.Value).Elem", "(internal/reflectlite.Value).Set", "internal/bytealg.abigen_runtime_cmpstring"], unfollowed := true, recurses := true, named := ["errors.errorType"], plainKeys := false, apart := false, laid := [("errors.errorType", laid_errors_errorType)], narrowed := true }
def AllUptoSaid : Prop := allUptoRow.holds Tryz.pinned (OpenSpec.upto allSpec)

/-- 'versionslaw.Garbage', WHERE WHAT IT READS IS OF BULK AT MOST 1048576: true; the input reads as it did. -/
def garbageUptoRow : OpenClaim := { program := "ytdhobpbngkainaagreatdoor", sum := "41f4fb587794e53ac890fdcb176e59ea9ad54ddab830815cc4592f78bcc246d1", func := "versions/versionslaw.Garbage", spec := "garbage", inPlace := ["internal/reflectlite.ValueOf", "(internal/reflectlite.Value).Type", "(internal/reflectlite.Value).IsNil", "internal/reflectlite.TypeOf", "(internal/reflectlite.Value).Elem", "(internal/reflectlite.Value).Set", "internal/bytealg.abigen_runtime_cmpstring"], unfollowed := true, recurses := true, named := ["errors.errorType"], plainKeys := false, apart := false, laid := [("errors.errorType", laid_errors_errorType)], narrowed := true }
def GarbageUptoSaid : Prop := garbageUptoRow.holds Tryz.pinned (OpenSpec.upto garbageSpec)

/-- 'versionslaw.Once', WHERE WHAT IT READS IS OF BULK AT MOST 1048576: true; the input reads as it did. -/
def onceUptoRow : OpenClaim := { program := "ytdhobpbngkainaagreatdoor", sum := "41f4fb587794e53ac890fdcb176e59ea9ad54ddab830815cc4592f78bcc246d1", func := "versions/versionslaw.Once", spec := "once", inPlace := ["internal/reflectlite.ValueOf", "(internal/reflectlite.Value).Type", "(internal/reflectlite.Value).IsNil", "internal/reflectlite.TypeOf", "(internal/reflectlite.Value).Elem", "(internal/reflectlite.Value).Set"], unfollowed := true, recurses := true, named := ["errors.errorType"], plainKeys := false, apart := false, laid := [("errors.errorType", laid_errors_errorType)], narrowed := true }
def OnceUptoSaid : Prop := onceUptoRow.holds Tryz.pinned (OpenSpec.upto onceSpec)

/-- 'versionslaw.Crashes', WHERE WHAT IT READS IS OF BULK AT MOST 1048576: true; the input reads as it did. -/
def crashesUptoRow : OpenClaim := { program := "ytdhobpbngkainaagreatdoor", sum := "41f4fb587794e53ac890fdcb176e59ea9ad54ddab830815cc4592f78bcc246d1", func := "versions/versionslaw.Crashes", spec := "crashes", inPlace := ["internal/reflectlite.ValueOf", "(internal/reflectlite.Value).Type", "(internal/reflectlite.Value).IsNil", "internal/reflectlite.TypeOf", "(internal/reflectlite.Value).Elem", "(internal/reflectlite.Value).Set", "internal/bytealg.abigen_runtime_cmpstring"], unfollowed := true, recurses := true, named := ["errors.errorType"], plainKeys := false, apart := false, laid := [("errors.errorType", laid_errors_errorType)], narrowed := true }
def CrashesUptoSaid : Prop := crashesUptoRow.holds Tryz.pinned (OpenSpec.upto crashesSpec)

/-- 'versionslaw.Fulls', WHERE WHAT IT READS IS OF BULK AT MOST 1048576: true; the input reads as it did. -/
def fullsUptoRow : OpenClaim := { program := "ytdhobpbngkainaagreatdoor", sum := "41f4fb587794e53ac890fdcb176e59ea9ad54ddab830815cc4592f78bcc246d1", func := "versions/versionslaw.Fulls", spec := "fulls", inPlace := ["internal/reflectlite.ValueOf", "(internal/reflectlite.Value).Type", "(internal/reflectlite.Value).IsNil", "internal/reflectlite.TypeOf", "(internal/reflectlite.Value).Elem", "(internal/reflectlite.Value).Set", "internal/bytealg.abigen_runtime_cmpstring"], unfollowed := true, recurses := true, named := ["errors.errorType"], plainKeys := false, apart := false, laid := [("errors.errorType", laid_errors_errorType)], narrowed := true }
def FullsUptoSaid : Prop := fullsUptoRow.holds Tryz.pinned (OpenSpec.upto fullsSpec)

/-- 'versionslaw.Flips', WHERE WHAT IT READS IS OF BULK AT MOST 1048576: true; the input reads as it did. -/
def flipsUptoRow : OpenClaim := { program := "ytdhobpbngkainaagreatdoor", sum := "41f4fb587794e53ac890fdcb176e59ea9ad54ddab830815cc4592f78bcc246d1", func := "versions/versionslaw.Flips", spec := "flips", inPlace := ["internal/reflectlite.ValueOf", "(internal/reflectlite.Value).Type", "(internal/reflectlite.Value).IsNil", "internal/reflectlite.TypeOf", "(internal/reflectlite.Value).Elem", "(internal/reflectlite.Value).Set", "internal/bytealg.abigen_runtime_cmpstring"], unfollowed := true, recurses := true, named := ["errors.errorType"], plainKeys := false, apart := false, laid := [("errors.errorType", laid_errors_errorType)], narrowed := true }
def FlipsUptoSaid : Prop := flipsUptoRow.holds Tryz.pinned (OpenSpec.upto flipsSpec)

/-- 'versionslaw.Contents', WHERE WHAT IT READS IS OF BULK AT MOST 1048576: true; the input reads as it did. -/
def contentsUptoRow : OpenClaim := { program := "ytdhobpbngkainaagreatdoor", sum := "41f4fb587794e53ac890fdcb176e59ea9ad54ddab830815cc4592f78bcc246d1", func := "versions/versionslaw.Contents", spec := "contents", inPlace := ["internal/reflectlite.ValueOf", "(internal/reflectlite.Value).Type", "(internal/reflectlite.Value).IsNil", "internal/reflectlite.TypeOf", "(internal/reflectlite.Value).Elem", "(internal/reflectlite.Value).Set", "internal/bytealg.abigen_runtime_cmpstring"], unfollowed := true, recurses := true, named := ["errors.errorType"], plainKeys := false, apart := false, laid := [("errors.errorType", laid_errors_errorType)], narrowed := true }
def ContentsUptoSaid : Prop := contentsUptoRow.holds Tryz.pinned (OpenSpec.upto contentsSpec)

/-- 'versionslaw.Kept', WHERE WHAT IT READS IS OF BULK AT MOST 1048576: true; the input reads as it did. -/
def keptUptoRow : OpenClaim := { program := "ytdhobpbngkainaagreatdoor", sum := "41f4fb587794e53ac890fdcb176e59ea9ad54ddab830815cc4592f78bcc246d1", func := "versions/versionslaw.Kept", spec := "kept", inPlace := ["internal/reflectlite.ValueOf", "(internal/reflectlite.Value).Type", "(internal/reflectlite.Value).IsNil", "internal/reflectlite.TypeOf", "(internal/reflectlite.Value).Elem", "(internal/reflectlite.Value).Set", "internal/bytealg.abigen_runtime_cmpstring"], unfollowed := true, recurses := true, named := ["errors.errorType"], plainKeys := false, apart := false, laid := [("errors.errorType", laid_errors_errorType)], narrowed := true }
def KeptUptoSaid : Prop := keptUptoRow.holds Tryz.pinned (OpenSpec.upto keptSpec)

end Rows
end Go.Proofs.YtdhobpbngkainaaGreatDoor
