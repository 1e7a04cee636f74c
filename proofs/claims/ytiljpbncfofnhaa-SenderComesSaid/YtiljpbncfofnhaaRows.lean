/-
  No cell of these rows narrows 'for every input' (looked for: loops, veiled, ifaces, maps, wideKeys, modest, calm, conditions, laid).
  DERIVED. THE GIVEN ROWS OF THIS SEAT. 10 by the template 'for every input the law returns true; each argument reads behind the call as it read before'; 0 by the template 'total and deterministic' (their statements: YtiljpbncfofnhaaTotals.lean).
  GIVEN WITH THE SEED: the statements are not yours to turn. If you find one false, say at which input.
  Laid BY PROGRAM, IN A SANDBOX (cutbox-rows.mjs): the forced cells as the released guide's own fill.sh prints them over the translation 39ecbd335c84d1ce… (all of the seat's roots in one cut). By AI agents, Wed Nov 11 2026. No macro, syntax, notation, axiom, sorry.
-/
import Derived.Test.YtiljpbncfofnhaaChecked
import GoSem.Claim
import GoSem.ClaimJoined
import GoSem.ClaimMapViews
import Derived.JoinedTies
import Derived.KernelRfl
namespace Go.Proofs.Ytiljpbncfofnhaa
/- THE CELL 'sum', in the pinned program and in every row, IS THE sha256 OF THE DUMP (.gsa) THAT YtiljpbncfofnhaaProg.lean LOADS. Nothing in Lean hashes anything: it is a label: what it is worth is what the hold of that sum in a sandbox is worth. -/
noncomputable def Try.pinned : Pinned := { name := "ytiljpbncfofnhaa", sum := "39ecbd335c84d1cef743d3589648c2149292c2294413c33425f1c0ce7cb784c9", checked := Try.checked }
namespace Rows
def none {H : Type} : Left H := { results := [], args := [] }

/-- 'windowpanelaw27.SenderPlays': WHATEVER THE INPUT: true; the input reads as it did. -/
def senderPlaysSpec : ChangeSpec := { name := "senderPlays", fn := fun _ => fun
  | [d] => { results := [.lit (.bool true)], args := [d] }
  | _ => none }
def senderPlaysRow : OpenClaim := { program := "ytiljpbncfofnhaa", sum := "39ecbd335c84d1cef743d3589648c2149292c2294413c33425f1c0ce7cb784c9", func := "windowpane/windowpanelaw27.SenderPlays", spec := "senderPlays", unfollowed := true, recurses := true, plainKeys := false, apart := false }
def SenderPlaysSaid : Prop := senderPlaysRow.holds Try.pinned (OpenSpec.ofChange senderPlaysSpec)

/-- ITS FALSE NEIGHBOUR: 'it returns false'. Refute it at one input. -/
def senderPlaysWrong : ChangeSpec := { name := "senderPlays", fn := fun _ => fun
  | [d] => { results := [.lit (.bool false)], args := [d] }
  | _ => none }
def SenderPlaysWrongFalsely : Prop := senderPlaysRow.holds Try.pinned (OpenSpec.ofChange senderPlaysWrong)

/-- 'windowpanelaw27.SenderComes': WHATEVER THE INPUT: true; the input reads as it did. -/
def senderComesSpec : ChangeSpec := { name := "senderComes", fn := fun _ => fun
  | [d1, d2] => { results := [.lit (.bool true)], args := [d1, d2] }
  | _ => none }
def senderComesRow : OpenClaim := { program := "ytiljpbncfofnhaa", sum := "39ecbd335c84d1cef743d3589648c2149292c2294413c33425f1c0ce7cb784c9", func := "windowpane/windowpanelaw27.SenderComes", spec := "senderComes", unfollowed := true, recurses := true, plainKeys := false, apart := false }
def SenderComesSaid : Prop := senderComesRow.holds Try.pinned (OpenSpec.ofChange senderComesSpec)

/-- ITS FALSE NEIGHBOUR: 'it returns false'. Refute it at one input. -/
def senderComesWrong : ChangeSpec := { name := "senderComes", fn := fun _ => fun
  | [d1, d2] => { results := [.lit (.bool false)], args := [d1, d2] }
  | _ => none }
def SenderComesWrongFalsely : Prop := senderComesRow.holds Try.pinned (OpenSpec.ofChange senderComesWrong)

/-- 'windowpanelaw21.EditMakes': WHATEVER THE INPUT: true; the input reads as it did. -/
def editMakesSpec : ChangeSpec := { name := "editMakes", fn := fun _ => fun
  | [d1, d2] => { results := [.lit (.bool true)], args := [d1, d2] }
  | _ => none }
def editMakesRow : OpenClaim := { program := "ytiljpbncfofnhaa", sum := "39ecbd335c84d1cef743d3589648c2149292c2294413c33425f1c0ce7cb784c9", func := "windowpane/windowpanelaw21.EditMakes", spec := "editMakes", unfollowed := true, recurses := true, plainKeys := false, apart := false }
def EditMakesSaid : Prop := editMakesRow.holds Try.pinned (OpenSpec.ofChange editMakesSpec)

/-- ITS FALSE NEIGHBOUR: 'it returns false'. Refute it at one input. -/
def editMakesWrong : ChangeSpec := { name := "editMakes", fn := fun _ => fun
  | [d1, d2] => { results := [.lit (.bool false)], args := [d1, d2] }
  | _ => none }
def EditMakesWrongFalsely : Prop := editMakesRow.holds Try.pinned (OpenSpec.ofChange editMakesWrong)

/-- 'windowpanelaw22.DiffTells': WHATEVER THE INPUT: true; the input reads as it did. -/
def diffTellsSpec : ChangeSpec := { name := "diffTells", fn := fun _ => fun
  | [d1, d2] => { results := [.lit (.bool true)], args := [d1, d2] }
  | _ => none }
def diffTellsRow : OpenClaim := { program := "ytiljpbncfofnhaa", sum := "39ecbd335c84d1cef743d3589648c2149292c2294413c33425f1c0ce7cb784c9", func := "windowpane/windowpanelaw22.DiffTells", spec := "diffTells", unfollowed := true, recurses := true, plainKeys := false, apart := false }
def DiffTellsSaid : Prop := diffTellsRow.holds Try.pinned (OpenSpec.ofChange diffTellsSpec)

/-- ITS FALSE NEIGHBOUR: 'it returns false'. Refute it at one input. -/
def diffTellsWrong : ChangeSpec := { name := "diffTells", fn := fun _ => fun
  | [d1, d2] => { results := [.lit (.bool false)], args := [d1, d2] }
  | _ => none }
def DiffTellsWrongFalsely : Prop := diffTellsRow.holds Try.pinned (OpenSpec.ofChange diffTellsWrong)

/-- 'windowpanelaw22.DiffWide': WHATEVER THE INPUT: true; the input reads as it did. -/
def diffWideSpec : ChangeSpec := { name := "diffWide", fn := fun _ => fun
  | [d1, d2, d3] => { results := [.lit (.bool true)], args := [d1, d2, d3] }
  | _ => none }
def diffWideRow : OpenClaim := { program := "ytiljpbncfofnhaa", sum := "39ecbd335c84d1cef743d3589648c2149292c2294413c33425f1c0ce7cb784c9", func := "windowpane/windowpanelaw22.DiffWide", spec := "diffWide", unfollowed := true, recurses := true, plainKeys := false, apart := false }
def DiffWideSaid : Prop := diffWideRow.holds Try.pinned (OpenSpec.ofChange diffWideSpec)

/-- ITS FALSE NEIGHBOUR: 'it returns false'. Refute it at one input. -/
def diffWideWrong : ChangeSpec := { name := "diffWide", fn := fun _ => fun
  | [d1, d2, d3] => { results := [.lit (.bool false)], args := [d1, d2, d3] }
  | _ => none }
def DiffWideWrongFalsely : Prop := diffWideRow.holds Try.pinned (OpenSpec.ofChange diffWideWrong)

/-- 'windowpanelaw22.DiffMore': WHATEVER THE INPUT: true; the input reads as it did. -/
def diffMoreSpec : ChangeSpec := { name := "diffMore", fn := fun _ => fun
  | [d1, d2, d3] => { results := [.lit (.bool true)], args := [d1, d2, d3] }
  | _ => none }
def diffMoreRow : OpenClaim := { program := "ytiljpbncfofnhaa", sum := "39ecbd335c84d1cef743d3589648c2149292c2294413c33425f1c0ce7cb784c9", func := "windowpane/windowpanelaw22.DiffMore", spec := "diffMore", unfollowed := true, recurses := true, plainKeys := false, apart := false }
def DiffMoreSaid : Prop := diffMoreRow.holds Try.pinned (OpenSpec.ofChange diffMoreSpec)

/-- ITS FALSE NEIGHBOUR: 'it returns false'. Refute it at one input. -/
def diffMoreWrong : ChangeSpec := { name := "diffMore", fn := fun _ => fun
  | [d1, d2, d3] => { results := [.lit (.bool false)], args := [d1, d2, d3] }
  | _ => none }
def DiffMoreWrongFalsely : Prop := diffMoreRow.holds Try.pinned (OpenSpec.ofChange diffMoreWrong)

/-- 'windowpanelaw22.DiffTurned': WHATEVER THE INPUT: true; the input reads as it did. -/
def diffTurnedSpec : ChangeSpec := { name := "diffTurned", fn := fun _ => fun
  | [d1, d2] => { results := [.lit (.bool true)], args := [d1, d2] }
  | _ => none }
def diffTurnedRow : OpenClaim := { program := "ytiljpbncfofnhaa", sum := "39ecbd335c84d1cef743d3589648c2149292c2294413c33425f1c0ce7cb784c9", func := "windowpane/windowpanelaw22.DiffTurned", spec := "diffTurned", unfollowed := true, recurses := true, plainKeys := false, apart := false }
def DiffTurnedSaid : Prop := diffTurnedRow.holds Try.pinned (OpenSpec.ofChange diffTurnedSpec)

/-- ITS FALSE NEIGHBOUR: 'it returns false'. Refute it at one input. -/
def diffTurnedWrong : ChangeSpec := { name := "diffTurned", fn := fun _ => fun
  | [d1, d2] => { results := [.lit (.bool false)], args := [d1, d2] }
  | _ => none }
def DiffTurnedWrongFalsely : Prop := diffTurnedRow.holds Try.pinned (OpenSpec.ofChange diffTurnedWrong)

/-- 'windowpanelaw22.DiffOne': WHATEVER THE INPUT: true; the input reads as it did. -/
def diffOneSpec : ChangeSpec := { name := "diffOne", fn := fun _ => fun
  | [d1, d2, d3, d4] => { results := [.lit (.bool true)], args := [d1, d2, d3, d4] }
  | _ => none }
def diffOneRow : OpenClaim := { program := "ytiljpbncfofnhaa", sum := "39ecbd335c84d1cef743d3589648c2149292c2294413c33425f1c0ce7cb784c9", func := "windowpane/windowpanelaw22.DiffOne", spec := "diffOne", unfollowed := true, recurses := true, plainKeys := false, apart := false }
def DiffOneSaid : Prop := diffOneRow.holds Try.pinned (OpenSpec.ofChange diffOneSpec)

/-- ITS FALSE NEIGHBOUR: 'it returns false'. Refute it at one input. -/
def diffOneWrong : ChangeSpec := { name := "diffOne", fn := fun _ => fun
  | [d1, d2, d3, d4] => { results := [.lit (.bool false)], args := [d1, d2, d3, d4] }
  | _ => none }
def DiffOneWrongFalsely : Prop := diffOneRow.holds Try.pinned (OpenSpec.ofChange diffOneWrong)

/-- 'windowpanelaw22.DiffMakes': WHATEVER THE INPUT: true; the input reads as it did. -/
def diffMakesSpec : ChangeSpec := { name := "diffMakes", fn := fun _ => fun
  | [d1, d2] => { results := [.lit (.bool true)], args := [d1, d2] }
  | _ => none }
def diffMakesRow : OpenClaim := { program := "ytiljpbncfofnhaa", sum := "39ecbd335c84d1cef743d3589648c2149292c2294413c33425f1c0ce7cb784c9", func := "windowpane/windowpanelaw22.DiffMakes", spec := "diffMakes", unfollowed := true, recurses := true, plainKeys := false, apart := false }
def DiffMakesSaid : Prop := diffMakesRow.holds Try.pinned (OpenSpec.ofChange diffMakesSpec)

/-- ITS FALSE NEIGHBOUR: 'it returns false'. Refute it at one input. -/
def diffMakesWrong : ChangeSpec := { name := "diffMakes", fn := fun _ => fun
  | [d1, d2] => { results := [.lit (.bool false)], args := [d1, d2] }
  | _ => none }
def DiffMakesWrongFalsely : Prop := diffMakesRow.holds Try.pinned (OpenSpec.ofChange diffMakesWrong)

/-- 'windowpanelaw22.DiffFew': WHATEVER THE INPUT: true; the input reads as it did. -/
def diffFewSpec : ChangeSpec := { name := "diffFew", fn := fun _ => fun
  | [d1, d2] => { results := [.lit (.bool true)], args := [d1, d2] }
  | _ => none }
def diffFewRow : OpenClaim := { program := "ytiljpbncfofnhaa", sum := "39ecbd335c84d1cef743d3589648c2149292c2294413c33425f1c0ce7cb784c9", func := "windowpane/windowpanelaw22.DiffFew", spec := "diffFew", unfollowed := true, recurses := true, plainKeys := false, apart := false }
def DiffFewSaid : Prop := diffFewRow.holds Try.pinned (OpenSpec.ofChange diffFewSpec)

/-- ITS FALSE NEIGHBOUR: 'it returns false'. Refute it at one input. -/
def diffFewWrong : ChangeSpec := { name := "diffFew", fn := fun _ => fun
  | [d1, d2] => { results := [.lit (.bool false)], args := [d1, d2] }
  | _ => none }
def DiffFewWrongFalsely : Prop := diffFewRow.holds Try.pinned (OpenSpec.ofChange diffFewWrong)

/- THE SECOND FORM. 'bulk': how many values and letters a reading holds, each counted each time it is reached (what is shared counts as often as it is met; a slice's spare places count too). A statement '..UptoSaid' is the law's where the arguments, and the package variables that the reading takes, are together of bulk at most 1048576: NARROWER than '..Said'. Prove '..Said' where nothing that the law and all that it calls make is longer than what came in: it says more and counts as full. Else prove '..UptoSaid'. A law counts once. -/
mutual
def uptoBulk {H : Type} : DataW H → Nat
  | .lit (.string bytes) => bytes.length + 1
  | .lit _ => 1
  | .nil => 1
  | .ptr d => uptoBulk d + 1
  | .slice elems spare => uptoBulkAll elems + uptoBulkAll spare + 1
  | .agg parts => uptoBulkAll parts + 1
  | .iface _ d => uptoBulk d + 1
  | .map entries => uptoBulkEntries entries + 1
  | .held _ => 1
def uptoBulkAll {H : Type} : List (DataW H) → Nat
  | [] => 0
  | d :: r => uptoBulk d + uptoBulkAll r
def uptoBulkEntries {H : Type} : List (Lit × DataW H) → Nat
  | [] => 0
  | x :: r => uptoBulkEntry x + uptoBulkEntries r
def uptoBulkEntry {H : Type} : Lit × DataW H → Nat
  | (.string bytes, d) => bytes.length + uptoBulk d + 1
  | (_, d) => uptoBulk d + 1
 end
def uptoSmall : (H : Type) → List (DataW H) → Bool := fun _ ds => decide (uptoBulkAll ds ≤ 1048576)
def OpenSpec.upto (s : _root_.Go.ChangeSpec) : _root_.Go.OpenSpec := { _root_.Go.OpenSpec.ofChange s with cond := some uptoSmall }

/-- 'windowpanelaw27.SenderPlays', WHERE WHAT IT READS IS OF BULK AT MOST 1048576: true; the input reads as it did. -/
def senderPlaysUptoRow : OpenClaim := { program := "ytiljpbncfofnhaa", sum := "39ecbd335c84d1cef743d3589648c2149292c2294413c33425f1c0ce7cb784c9", func := "windowpane/windowpanelaw27.SenderPlays", spec := "senderPlays", unfollowed := true, recurses := true, plainKeys := false, apart := false, narrowed := true }
def SenderPlaysUptoSaid : Prop := senderPlaysUptoRow.holds Try.pinned (OpenSpec.upto senderPlaysSpec)

/-- 'windowpanelaw27.SenderComes', WHERE WHAT IT READS IS OF BULK AT MOST 1048576: true; the input reads as it did. -/
def senderComesUptoRow : OpenClaim := { program := "ytiljpbncfofnhaa", sum := "39ecbd335c84d1cef743d3589648c2149292c2294413c33425f1c0ce7cb784c9", func := "windowpane/windowpanelaw27.SenderComes", spec := "senderComes", unfollowed := true, recurses := true, plainKeys := false, apart := false, narrowed := true }
def SenderComesUptoSaid : Prop := senderComesUptoRow.holds Try.pinned (OpenSpec.upto senderComesSpec)

/-- 'windowpanelaw21.EditMakes', WHERE WHAT IT READS IS OF BULK AT MOST 1048576: true; the input reads as it did. -/
def editMakesUptoRow : OpenClaim := { program := "ytiljpbncfofnhaa", sum := "39ecbd335c84d1cef743d3589648c2149292c2294413c33425f1c0ce7cb784c9", func := "windowpane/windowpanelaw21.EditMakes", spec := "editMakes", unfollowed := true, recurses := true, plainKeys := false, apart := false, narrowed := true }
def EditMakesUptoSaid : Prop := editMakesUptoRow.holds Try.pinned (OpenSpec.upto editMakesSpec)

/-- 'windowpanelaw22.DiffTells', WHERE WHAT IT READS IS OF BULK AT MOST 1048576: true; the input reads as it did. -/
def diffTellsUptoRow : OpenClaim := { program := "ytiljpbncfofnhaa", sum := "39ecbd335c84d1cef743d3589648c2149292c2294413c33425f1c0ce7cb784c9", func := "windowpane/windowpanelaw22.DiffTells", spec := "diffTells", unfollowed := true, recurses := true, plainKeys := false, apart := false, narrowed := true }
def DiffTellsUptoSaid : Prop := diffTellsUptoRow.holds Try.pinned (OpenSpec.upto diffTellsSpec)

/-- 'windowpanelaw22.DiffWide', WHERE WHAT IT READS IS OF BULK AT MOST 1048576: true; the input reads as it did. -/
def diffWideUptoRow : OpenClaim := { program := "ytiljpbncfofnhaa", sum := "39ecbd335c84d1cef743d3589648c2149292c2294413c33425f1c0ce7cb784c9", func := "windowpane/windowpanelaw22.DiffWide", spec := "diffWide", unfollowed := true, recurses := true, plainKeys := false, apart := false, narrowed := true }
def DiffWideUptoSaid : Prop := diffWideUptoRow.holds Try.pinned (OpenSpec.upto diffWideSpec)

/-- 'windowpanelaw22.DiffMore', WHERE WHAT IT READS IS OF BULK AT MOST 1048576: true; the input reads as it did. -/
def diffMoreUptoRow : OpenClaim := { program := "ytiljpbncfofnhaa", sum := "39ecbd335c84d1cef743d3589648c2149292c2294413c33425f1c0ce7cb784c9", func := "windowpane/windowpanelaw22.DiffMore", spec := "diffMore", unfollowed := true, recurses := true, plainKeys := false, apart := false, narrowed := true }
def DiffMoreUptoSaid : Prop := diffMoreUptoRow.holds Try.pinned (OpenSpec.upto diffMoreSpec)

/-- 'windowpanelaw22.DiffTurned', WHERE WHAT IT READS IS OF BULK AT MOST 1048576: true; the input reads as it did. -/
def diffTurnedUptoRow : OpenClaim := { program := "ytiljpbncfofnhaa", sum := "39ecbd335c84d1cef743d3589648c2149292c2294413c33425f1c0ce7cb784c9", func := "windowpane/windowpanelaw22.DiffTurned", spec := "diffTurned", unfollowed := true, recurses := true, plainKeys := false, apart := false, narrowed := true }
def DiffTurnedUptoSaid : Prop := diffTurnedUptoRow.holds Try.pinned (OpenSpec.upto diffTurnedSpec)

/-- 'windowpanelaw22.DiffOne', WHERE WHAT IT READS IS OF BULK AT MOST 1048576: true; the input reads as it did. -/
def diffOneUptoRow : OpenClaim := { program := "ytiljpbncfofnhaa", sum := "39ecbd335c84d1cef743d3589648c2149292c2294413c33425f1c0ce7cb784c9", func := "windowpane/windowpanelaw22.DiffOne", spec := "diffOne", unfollowed := true, recurses := true, plainKeys := false, apart := false, narrowed := true }
def DiffOneUptoSaid : Prop := diffOneUptoRow.holds Try.pinned (OpenSpec.upto diffOneSpec)

/-- 'windowpanelaw22.DiffMakes', WHERE WHAT IT READS IS OF BULK AT MOST 1048576: true; the input reads as it did. -/
def diffMakesUptoRow : OpenClaim := { program := "ytiljpbncfofnhaa", sum := "39ecbd335c84d1cef743d3589648c2149292c2294413c33425f1c0ce7cb784c9", func := "windowpane/windowpanelaw22.DiffMakes", spec := "diffMakes", unfollowed := true, recurses := true, plainKeys := false, apart := false, narrowed := true }
def DiffMakesUptoSaid : Prop := diffMakesUptoRow.holds Try.pinned (OpenSpec.upto diffMakesSpec)

/-- 'windowpanelaw22.DiffFew', WHERE WHAT IT READS IS OF BULK AT MOST 1048576: true; the input reads as it did. -/
def diffFewUptoRow : OpenClaim := { program := "ytiljpbncfofnhaa", sum := "39ecbd335c84d1cef743d3589648c2149292c2294413c33425f1c0ce7cb784c9", func := "windowpane/windowpanelaw22.DiffFew", spec := "diffFew", unfollowed := true, recurses := true, plainKeys := false, apart := false, narrowed := true }
def DiffFewUptoSaid : Prop := diffFewUptoRow.holds Try.pinned (OpenSpec.upto diffFewSpec)

end Rows
end Go.Proofs.Ytiljpbncfofnhaa
