/-
  No cell of these rows narrows 'for every input' (looked for: loops, veiled, ifaces, maps, wideKeys, modest, calm, conditions, laid).
  DERIVED. THE GIVEN ROWS OF THIS SEAT. 12 by the template 'for every input the law returns true; each argument reads behind the call as it read before'; 0 by the template 'total and deterministic' (their statements: YtiommdidkhohgaaTotals.lean).
  GIVEN WITH THE SEED: the statements are not yours to turn. If you find one false, say at which input.
  Laid BY PROGRAM, IN A SANDBOX (cutbox-rows.mjs): the forced cells as the released guide's own fill.sh prints them over the translation 3f567576fa3fb4c3… (all of the seat's roots in one cut). By AI agents, Wed Nov 11 2026. No macro, syntax, notation, axiom, sorry.
-/
import Derived.Test.YtiommdidkhohgaaChecked
import GoSem.Claim
import GoSem.ClaimJoined
import GoSem.ClaimMapViews
import Derived.JoinedTies
import Derived.KernelRfl
namespace Go.Proofs.Ytiommdidkhohgaa
/- THE CELL 'sum', in the pinned program and in every row, IS THE sha256 OF THE DUMP (.gsa) THAT YtiommdidkhohgaaProg.lean LOADS. Nothing in Lean hashes anything: it is a label: what it is worth is what the hold of that sum in a sandbox is worth. -/
noncomputable def Try.pinned : Pinned := { name := "ytiommdidkhohgaa", sum := "3f567576fa3fb4c31e20d55676946ffdd01eeffef9ca779d15d5b55de415a431", checked := Try.checked }
namespace Rows
def none {H : Type} : Left H := { results := [], args := [] }

/-- 'windowpanelaw04.WireTakes': WHATEVER THE INPUT: true; the input reads as it did. -/
def wireTakesSpec : ChangeSpec := { name := "wireTakes", fn := fun _ => fun
  | [d1, d2] => { results := [.lit (.bool true)], args := [d1, d2] }
  | _ => none }
def wireTakesRow : OpenClaim := { program := "ytiommdidkhohgaa", sum := "3f567576fa3fb4c31e20d55676946ffdd01eeffef9ca779d15d5b55de415a431", func := "windowpane/windowpanelaw04.WireTakes", spec := "wireTakes", unfollowed := true, recurses := true, apart := false }
def WireTakesSaid : Prop := wireTakesRow.holds Try.pinned (OpenSpec.ofChange wireTakesSpec)

/-- ITS FALSE NEIGHBOUR: 'it returns false'. Refute it at one input. -/
def wireTakesWrong : ChangeSpec := { name := "wireTakes", fn := fun _ => fun
  | [d1, d2] => { results := [.lit (.bool false)], args := [d1, d2] }
  | _ => none }
def WireTakesWrongFalsely : Prop := wireTakesRow.holds Try.pinned (OpenSpec.ofChange wireTakesWrong)

/-- 'windowpanelaw04.WirePuts': WHATEVER THE INPUT: true; the input reads as it did. -/
def wirePutsSpec : ChangeSpec := { name := "wirePuts", fn := fun _ => fun
  | [d1, d2, d3] => { results := [.lit (.bool true)], args := [d1, d2, d3] }
  | _ => none }
def wirePutsRow : OpenClaim := { program := "ytiommdidkhohgaa", sum := "3f567576fa3fb4c31e20d55676946ffdd01eeffef9ca779d15d5b55de415a431", func := "windowpane/windowpanelaw04.WirePuts", spec := "wirePuts", unfollowed := true, recurses := true, apart := false }
def WirePutsSaid : Prop := wirePutsRow.holds Try.pinned (OpenSpec.ofChange wirePutsSpec)

/-- ITS FALSE NEIGHBOUR: 'it returns false'. Refute it at one input. -/
def wirePutsWrong : ChangeSpec := { name := "wirePuts", fn := fun _ => fun
  | [d1, d2, d3] => { results := [.lit (.bool false)], args := [d1, d2, d3] }
  | _ => none }
def WirePutsWrongFalsely : Prop := wirePutsRow.holds Try.pinned (OpenSpec.ofChange wirePutsWrong)

/-- 'windowpanelaw04.WireTorn': WHATEVER THE INPUT: true; the input reads as it did. -/
def wireTornSpec : ChangeSpec := { name := "wireTorn", fn := fun _ => fun
  | [d1, d2, d3, d4] => { results := [.lit (.bool true)], args := [d1, d2, d3, d4] }
  | _ => none }
def wireTornRow : OpenClaim := { program := "ytiommdidkhohgaa", sum := "3f567576fa3fb4c31e20d55676946ffdd01eeffef9ca779d15d5b55de415a431", func := "windowpane/windowpanelaw04.WireTorn", spec := "wireTorn", unfollowed := true, recurses := true, apart := false }
def WireTornSaid : Prop := wireTornRow.holds Try.pinned (OpenSpec.ofChange wireTornSpec)

/-- ITS FALSE NEIGHBOUR: 'it returns false'. Refute it at one input. -/
def wireTornWrong : ChangeSpec := { name := "wireTorn", fn := fun _ => fun
  | [d1, d2, d3, d4] => { results := [.lit (.bool false)], args := [d1, d2, d3, d4] }
  | _ => none }
def WireTornWrongFalsely : Prop := wireTornRow.holds Try.pinned (OpenSpec.ofChange wireTornWrong)

/-- 'windowpanelaw04.WireZero': WHATEVER THE INPUT: true; the input reads as it did. -/
def wireZeroSpec : ChangeSpec := { name := "wireZero", fn := fun _ => fun
  | [d1, d2, d3, d4] => { results := [.lit (.bool true)], args := [d1, d2, d3, d4] }
  | _ => none }
def wireZeroRow : OpenClaim := { program := "ytiommdidkhohgaa", sum := "3f567576fa3fb4c31e20d55676946ffdd01eeffef9ca779d15d5b55de415a431", func := "windowpane/windowpanelaw04.WireZero", spec := "wireZero", unfollowed := true, recurses := true, apart := false }
def WireZeroSaid : Prop := wireZeroRow.holds Try.pinned (OpenSpec.ofChange wireZeroSpec)

/-- ITS FALSE NEIGHBOUR: 'it returns false'. Refute it at one input. -/
def wireZeroWrong : ChangeSpec := { name := "wireZero", fn := fun _ => fun
  | [d1, d2, d3, d4] => { results := [.lit (.bool false)], args := [d1, d2, d3, d4] }
  | _ => none }
def WireZeroWrongFalsely : Prop := wireZeroRow.holds Try.pinned (OpenSpec.ofChange wireZeroWrong)

/-- 'windowpanelaw04.WireLong': WHATEVER THE INPUT: true; the input reads as it did. -/
def wireLongSpec : ChangeSpec := { name := "wireLong", fn := fun _ => fun
  | [d1, d2] => { results := [.lit (.bool true)], args := [d1, d2] }
  | _ => none }
def wireLongRow : OpenClaim := { program := "ytiommdidkhohgaa", sum := "3f567576fa3fb4c31e20d55676946ffdd01eeffef9ca779d15d5b55de415a431", func := "windowpane/windowpanelaw04.WireLong", spec := "wireLong", unfollowed := true, recurses := true, apart := false }
def WireLongSaid : Prop := wireLongRow.holds Try.pinned (OpenSpec.ofChange wireLongSpec)

/-- ITS FALSE NEIGHBOUR: 'it returns false'. Refute it at one input. -/
def wireLongWrong : ChangeSpec := { name := "wireLong", fn := fun _ => fun
  | [d1, d2] => { results := [.lit (.bool false)], args := [d1, d2] }
  | _ => none }
def WireLongWrongFalsely : Prop := wireLongRow.holds Try.pinned (OpenSpec.ofChange wireLongWrong)

/-- 'windowpanelaw04.WireBack': WHATEVER THE INPUT: true; the input reads as it did. -/
def wireBackSpec : ChangeSpec := { name := "wireBack", fn := fun _ => fun
  | [d1, d2, d3] => { results := [.lit (.bool true)], args := [d1, d2, d3] }
  | _ => none }
def wireBackRow : OpenClaim := { program := "ytiommdidkhohgaa", sum := "3f567576fa3fb4c31e20d55676946ffdd01eeffef9ca779d15d5b55de415a431", func := "windowpane/windowpanelaw04.WireBack", spec := "wireBack", unfollowed := true, recurses := true, apart := false }
def WireBackSaid : Prop := wireBackRow.holds Try.pinned (OpenSpec.ofChange wireBackSpec)

/-- ITS FALSE NEIGHBOUR: 'it returns false'. Refute it at one input. -/
def wireBackWrong : ChangeSpec := { name := "wireBack", fn := fun _ => fun
  | [d1, d2, d3] => { results := [.lit (.bool false)], args := [d1, d2, d3] }
  | _ => none }
def WireBackWrongFalsely : Prop := wireBackRow.holds Try.pinned (OpenSpec.ofChange wireBackWrong)

/-- 'windowpanelaw04.WireRows': WHATEVER THE INPUT: true; the input reads as it did. -/
def wireRowsSpec : ChangeSpec := { name := "wireRows", fn := fun _ => fun
  | [d1, d2, d3, d4] => { results := [.lit (.bool true)], args := [d1, d2, d3, d4] }
  | _ => none }
def wireRowsRow : OpenClaim := { program := "ytiommdidkhohgaa", sum := "3f567576fa3fb4c31e20d55676946ffdd01eeffef9ca779d15d5b55de415a431", func := "windowpane/windowpanelaw04.WireRows", spec := "wireRows", unfollowed := true, recurses := true, apart := false }
def WireRowsSaid : Prop := wireRowsRow.holds Try.pinned (OpenSpec.ofChange wireRowsSpec)

/-- ITS FALSE NEIGHBOUR: 'it returns false'. Refute it at one input. -/
def wireRowsWrong : ChangeSpec := { name := "wireRows", fn := fun _ => fun
  | [d1, d2, d3, d4] => { results := [.lit (.bool false)], args := [d1, d2, d3, d4] }
  | _ => none }
def WireRowsWrongFalsely : Prop := wireRowsRow.holds Try.pinned (OpenSpec.ofChange wireRowsWrong)

/-- 'windowpanelaw24.MessageReads': WHATEVER THE INPUT: true; the input reads as it did. -/
def messageReadsSpec : ChangeSpec := { name := "messageReads", fn := fun _ => fun
  | [d] => { results := [.lit (.bool true)], args := [d] }
  | _ => none }
def messageReadsRow : OpenClaim := { program := "ytiommdidkhohgaa", sum := "3f567576fa3fb4c31e20d55676946ffdd01eeffef9ca779d15d5b55de415a431", func := "windowpane/windowpanelaw24.MessageReads", spec := "messageReads", unfollowed := true, recurses := true, apart := false }
def MessageReadsSaid : Prop := messageReadsRow.holds Try.pinned (OpenSpec.ofChange messageReadsSpec)

/-- ITS FALSE NEIGHBOUR: 'it returns false'. Refute it at one input. -/
def messageReadsWrong : ChangeSpec := { name := "messageReads", fn := fun _ => fun
  | [d] => { results := [.lit (.bool false)], args := [d] }
  | _ => none }
def MessageReadsWrongFalsely : Prop := messageReadsRow.holds Try.pinned (OpenSpec.ofChange messageReadsWrong)

/-- 'windowpanelaw24.MessageKinds': WHATEVER THE INPUT: true; the input reads as it did. -/
def messageKindsSpec : ChangeSpec := { name := "messageKinds", fn := fun _ => fun
  | [d1, d2, d3, d4] => { results := [.lit (.bool true)], args := [d1, d2, d3, d4] }
  | _ => none }
def messageKindsRow : OpenClaim := { program := "ytiommdidkhohgaa", sum := "3f567576fa3fb4c31e20d55676946ffdd01eeffef9ca779d15d5b55de415a431", func := "windowpane/windowpanelaw24.MessageKinds", spec := "messageKinds", unfollowed := true, recurses := true, apart := false }
def MessageKindsSaid : Prop := messageKindsRow.holds Try.pinned (OpenSpec.ofChange messageKindsSpec)

/-- ITS FALSE NEIGHBOUR: 'it returns false'. Refute it at one input. -/
def messageKindsWrong : ChangeSpec := { name := "messageKinds", fn := fun _ => fun
  | [d1, d2, d3, d4] => { results := [.lit (.bool false)], args := [d1, d2, d3, d4] }
  | _ => none }
def MessageKindsWrongFalsely : Prop := messageKindsRow.holds Try.pinned (OpenSpec.ofChange messageKindsWrong)

/-- 'windowpanelaw24.MessageBounds': WHATEVER THE INPUT: true; the input reads as it did. -/
def messageBoundsSpec : ChangeSpec := { name := "messageBounds", fn := fun _ => fun
  | [d1, d2, d3] => { results := [.lit (.bool true)], args := [d1, d2, d3] }
  | _ => none }
def messageBoundsRow : OpenClaim := { program := "ytiommdidkhohgaa", sum := "3f567576fa3fb4c31e20d55676946ffdd01eeffef9ca779d15d5b55de415a431", func := "windowpane/windowpanelaw24.MessageBounds", spec := "messageBounds", unfollowed := true, recurses := true, apart := false }
def MessageBoundsSaid : Prop := messageBoundsRow.holds Try.pinned (OpenSpec.ofChange messageBoundsSpec)

/-- ITS FALSE NEIGHBOUR: 'it returns false'. Refute it at one input. -/
def messageBoundsWrong : ChangeSpec := { name := "messageBounds", fn := fun _ => fun
  | [d1, d2, d3] => { results := [.lit (.bool false)], args := [d1, d2, d3] }
  | _ => none }
def MessageBoundsWrongFalsely : Prop := messageBoundsRow.holds Try.pinned (OpenSpec.ofChange messageBoundsWrong)

/-- 'windowpanelaw24.MessageForms': WHATEVER THE INPUT: true; the input reads as it did. -/
def messageFormsSpec : ChangeSpec := { name := "messageForms", fn := fun _ => fun
  | [d1, d2] => { results := [.lit (.bool true)], args := [d1, d2] }
  | _ => none }
def messageFormsRow : OpenClaim := { program := "ytiommdidkhohgaa", sum := "3f567576fa3fb4c31e20d55676946ffdd01eeffef9ca779d15d5b55de415a431", func := "windowpane/windowpanelaw24.MessageForms", spec := "messageForms", unfollowed := true, recurses := true, apart := false }
def MessageFormsSaid : Prop := messageFormsRow.holds Try.pinned (OpenSpec.ofChange messageFormsSpec)

/-- ITS FALSE NEIGHBOUR: 'it returns false'. Refute it at one input. -/
def messageFormsWrong : ChangeSpec := { name := "messageForms", fn := fun _ => fun
  | [d1, d2] => { results := [.lit (.bool false)], args := [d1, d2] }
  | _ => none }
def MessageFormsWrongFalsely : Prop := messageFormsRow.holds Try.pinned (OpenSpec.ofChange messageFormsWrong)

/-- 'windowpanelaw24.MessageTorn': WHATEVER THE INPUT: true; the input reads as it did. -/
def messageTornSpec : ChangeSpec := { name := "messageTorn", fn := fun _ => fun
  | [d1, d2, d3] => { results := [.lit (.bool true)], args := [d1, d2, d3] }
  | _ => none }
def messageTornRow : OpenClaim := { program := "ytiommdidkhohgaa", sum := "3f567576fa3fb4c31e20d55676946ffdd01eeffef9ca779d15d5b55de415a431", func := "windowpane/windowpanelaw24.MessageTorn", spec := "messageTorn", unfollowed := true, recurses := true, apart := false }
def MessageTornSaid : Prop := messageTornRow.holds Try.pinned (OpenSpec.ofChange messageTornSpec)

/-- ITS FALSE NEIGHBOUR: 'it returns false'. Refute it at one input. -/
def messageTornWrong : ChangeSpec := { name := "messageTorn", fn := fun _ => fun
  | [d1, d2, d3] => { results := [.lit (.bool false)], args := [d1, d2, d3] }
  | _ => none }
def MessageTornWrongFalsely : Prop := messageTornRow.holds Try.pinned (OpenSpec.ofChange messageTornWrong)

/- THE SECOND FORM. 'bulk': how many values and letters a reading holds, each counted each time it is reached (what is shared counts as often as it is met; a slice's spare places count too). A statement '..UptoSaid' is the law's where the arguments, and the package variables that the reading takes, are together of bulk at most 1048576: NARROWER than '..Said'. Prove '..Said' where nothing that the law and all that it calls make is longer than what came in: it says more and counts as full. Else prove '..UptoSaid'. A law counts once. -/
mutual
def uptoBulk {H : Type} : DataW H → Nat
  | .lit (.string bytes) => bytes.length + 1
  | .lit _ => 1
  | .nil => 1
  | .ptr d => uptoBulk d + 1
  | .slice elems spare => uptoBulkAll elems + uptoBulkAll spare + 1
  | .agg parts => uptoBulkAll parts + 1
  | .iface _ d => uptoBulk d + 1
  | .map entries => uptoBulkEntries entries + 1
  | .held _ => 1
def uptoBulkAll {H : Type} : List (DataW H) → Nat
  | [] => 0
  | d :: r => uptoBulk d + uptoBulkAll r
def uptoBulkEntries {H : Type} : List (Lit × DataW H) → Nat
  | [] => 0
  | x :: r => uptoBulkEntry x + uptoBulkEntries r
def uptoBulkEntry {H : Type} : Lit × DataW H → Nat
  | (.string bytes, d) => bytes.length + uptoBulk d + 1
  | (_, d) => uptoBulk d + 1
 end
def uptoSmall : (H : Type) → List (DataW H) → Bool := fun _ ds => decide (uptoBulkAll ds ≤ 1048576)
def OpenSpec.upto (s : _root_.Go.ChangeSpec) : _root_.Go.OpenSpec := { _root_.Go.OpenSpec.ofChange s with cond := some uptoSmall }

/-- 'windowpanelaw04.WireTakes', WHERE WHAT IT READS IS OF BULK AT MOST 1048576: true; the input reads as it did. -/
def wireTakesUptoRow : OpenClaim := { program := "ytiommdidkhohgaa", sum := "3f567576fa3fb4c31e20d55676946ffdd01eeffef9ca779d15d5b55de415a431", func := "windowpane/windowpanelaw04.WireTakes", spec := "wireTakes", unfollowed := true, recurses := true, apart := false, narrowed := true }
def WireTakesUptoSaid : Prop := wireTakesUptoRow.holds Try.pinned (OpenSpec.upto wireTakesSpec)

/-- 'windowpanelaw04.WirePuts', WHERE WHAT IT READS IS OF BULK AT MOST 1048576: true; the input reads as it did. -/
def wirePutsUptoRow : OpenClaim := { program := "ytiommdidkhohgaa", sum := "3f567576fa3fb4c31e20d55676946ffdd01eeffef9ca779d15d5b55de415a431", func := "windowpane/windowpanelaw04.WirePuts", spec := "wirePuts", unfollowed := true, recurses := true, apart := false, narrowed := true }
def WirePutsUptoSaid : Prop := wirePutsUptoRow.holds Try.pinned (OpenSpec.upto wirePutsSpec)

/-- 'windowpanelaw04.WireTorn', WHERE WHAT IT READS IS OF BULK AT MOST 1048576: true; the input reads as it did. -/
def wireTornUptoRow : OpenClaim := { program := "ytiommdidkhohgaa", sum := "3f567576fa3fb4c31e20d55676946ffdd01eeffef9ca779d15d5b55de415a431", func := "windowpane/windowpanelaw04.WireTorn", spec := "wireTorn", unfollowed := true, recurses := true, apart := false, narrowed := true }
def WireTornUptoSaid : Prop := wireTornUptoRow.holds Try.pinned (OpenSpec.upto wireTornSpec)

/-- 'windowpanelaw04.WireZero', WHERE WHAT IT READS IS OF BULK AT MOST 1048576: true; the input reads as it did. -/
def wireZeroUptoRow : OpenClaim := { program := "ytiommdidkhohgaa", sum := "3f567576fa3fb4c31e20d55676946ffdd01eeffef9ca779d15d5b55de415a431", func := "windowpane/windowpanelaw04.WireZero", spec := "wireZero", unfollowed := true, recurses := true, apart := false, narrowed := true }
def WireZeroUptoSaid : Prop := wireZeroUptoRow.holds Try.pinned (OpenSpec.upto wireZeroSpec)

/-- 'windowpanelaw04.WireLong', WHERE WHAT IT READS IS OF BULK AT MOST 1048576: true; the input reads as it did. -/
def wireLongUptoRow : OpenClaim := { program := "ytiommdidkhohgaa", sum := "3f567576fa3fb4c31e20d55676946ffdd01eeffef9ca779d15d5b55de415a431", func := "windowpane/windowpanelaw04.WireLong", spec := "wireLong", unfollowed := true, recurses := true, apart := false, narrowed := true }
def WireLongUptoSaid : Prop := wireLongUptoRow.holds Try.pinned (OpenSpec.upto wireLongSpec)

/-- 'windowpanelaw04.WireBack', WHERE WHAT IT READS IS OF BULK AT MOST 1048576: true; the input reads as it did. -/
def wireBackUptoRow : OpenClaim := { program := "ytiommdidkhohgaa", sum := "3f567576fa3fb4c31e20d55676946ffdd01eeffef9ca779d15d5b55de415a431", func := "windowpane/windowpanelaw04.WireBack", spec := "wireBack", unfollowed := true, recurses := true, apart := false, narrowed := true }
def WireBackUptoSaid : Prop := wireBackUptoRow.holds Try.pinned (OpenSpec.upto wireBackSpec)

/-- 'windowpanelaw04.WireRows', WHERE WHAT IT READS IS OF BULK AT MOST 1048576: true; the input reads as it did. -/
def wireRowsUptoRow : OpenClaim := { program := "ytiommdidkhohgaa", sum := "3f567576fa3fb4c31e20d55676946ffdd01eeffef9ca779d15d5b55de415a431", func := "windowpane/windowpanelaw04.WireRows", spec := "wireRows", unfollowed := true, recurses := true, apart := false, narrowed := true }
def WireRowsUptoSaid : Prop := wireRowsUptoRow.holds Try.pinned (OpenSpec.upto wireRowsSpec)

/-- 'windowpanelaw24.MessageReads', WHERE WHAT IT READS IS OF BULK AT MOST 1048576: true; the input reads as it did. -/
def messageReadsUptoRow : OpenClaim := { program := "ytiommdidkhohgaa", sum := "3f567576fa3fb4c31e20d55676946ffdd01eeffef9ca779d15d5b55de415a431", func := "windowpane/windowpanelaw24.MessageReads", spec := "messageReads", unfollowed := true, recurses := true, apart := false, narrowed := true }
def MessageReadsUptoSaid : Prop := messageReadsUptoRow.holds Try.pinned (OpenSpec.upto messageReadsSpec)

/-- 'windowpanelaw24.MessageKinds', WHERE WHAT IT READS IS OF BULK AT MOST 1048576: true; the input reads as it did. -/
def messageKindsUptoRow : OpenClaim := { program := "ytiommdidkhohgaa", sum := "3f567576fa3fb4c31e20d55676946ffdd01eeffef9ca779d15d5b55de415a431", func := "windowpane/windowpanelaw24.MessageKinds", spec := "messageKinds", unfollowed := true, recurses := true, apart := false, narrowed := true }
def MessageKindsUptoSaid : Prop := messageKindsUptoRow.holds Try.pinned (OpenSpec.upto messageKindsSpec)

/-- 'windowpanelaw24.MessageBounds', WHERE WHAT IT READS IS OF BULK AT MOST 1048576: true; the input reads as it did. -/
def messageBoundsUptoRow : OpenClaim := { program := "ytiommdidkhohgaa", sum := "3f567576fa3fb4c31e20d55676946ffdd01eeffef9ca779d15d5b55de415a431", func := "windowpane/windowpanelaw24.MessageBounds", spec := "messageBounds", unfollowed := true, recurses := true, apart := false, narrowed := true }
def MessageBoundsUptoSaid : Prop := messageBoundsUptoRow.holds Try.pinned (OpenSpec.upto messageBoundsSpec)

/-- 'windowpanelaw24.MessageForms', WHERE WHAT IT READS IS OF BULK AT MOST 1048576: true; the input reads as it did. -/
def messageFormsUptoRow : OpenClaim := { program := "ytiommdidkhohgaa", sum := "3f567576fa3fb4c31e20d55676946ffdd01eeffef9ca779d15d5b55de415a431", func := "windowpane/windowpanelaw24.MessageForms", spec := "messageForms", unfollowed := true, recurses := true, apart := false, narrowed := true }
def MessageFormsUptoSaid : Prop := messageFormsUptoRow.holds Try.pinned (OpenSpec.upto messageFormsSpec)

/-- 'windowpanelaw24.MessageTorn', WHERE WHAT IT READS IS OF BULK AT MOST 1048576: true; the input reads as it did. -/
def messageTornUptoRow : OpenClaim := { program := "ytiommdidkhohgaa", sum := "3f567576fa3fb4c31e20d55676946ffdd01eeffef9ca779d15d5b55de415a431", func := "windowpane/windowpanelaw24.MessageTorn", spec := "messageTorn", unfollowed := true, recurses := true, apart := false, narrowed := true }
def MessageTornUptoSaid : Prop := messageTornUptoRow.holds Try.pinned (OpenSpec.upto messageTornSpec)

end Rows
end Go.Proofs.Ytiommdidkhohgaa
