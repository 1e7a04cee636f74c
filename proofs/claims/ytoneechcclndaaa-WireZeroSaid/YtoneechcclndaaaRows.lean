/-
  No cell of these rows narrows 'for every input' (looked for: loops, veiled, ifaces, maps, wideKeys, modest, calm, conditions, laid).
  DERIVED. THE GIVEN ROWS OF THIS SEAT. 13 by the template 'for every input the law returns true; each argument reads behind the call as it read before'; 0 by the template 'total and deterministic' (their statements: YtoneechcclndaaaTotals.lean).
  GIVEN WITH THE SEED: the statements are not yours to turn. If you find one false, say at which input.
  Laid BY PROGRAM, IN A SANDBOX (cutbox-rows.mjs): the forced cells as the released guide's own fill.sh prints them over the translation 270a41ea17fe09f4… (all of the seat's roots in one cut). By AI agents, Wed Nov 11 2026. No macro, syntax, notation, axiom, sorry.
-/
import Derived.Test.YtoneechcclndaaaChecked
import GoSem.Claim
import GoSem.ClaimJoined
import GoSem.ClaimMapViews
import Derived.JoinedTies
import Derived.KernelRfl
namespace Go.Proofs.Ytoneechcclndaaa
/- THE CELL 'sum', in the pinned program and in every row, IS THE sha256 OF THE DUMP (.gsa) THAT YtoneechcclndaaaProg.lean LOADS. Nothing in Lean hashes anything: it is a label: what it is worth is what the hold of that sum in a sandbox is worth. -/
noncomputable def Try.pinned : Pinned := { name := "ytoneechcclndaaa", sum := "270a41ea17fe09f435027c39fa7f1a20aca9d142593276d19f1cac23423e711c", checked := Try.checked }
namespace Rows
def none {H : Type} : Left H := { results := [], args := [] }

/-- 'windowpanelaw04.WirePuts': WHATEVER THE INPUT: true; the input reads as it did. -/
def wirePutsSpec : ChangeSpec := { name := "wirePuts", fn := fun _ => fun
  | [d1, d2, d3] => { results := [.lit (.bool true)], args := [d1, d2, d3] }
  | _ => none }
def wirePutsRow : OpenClaim := { program := "ytoneechcclndaaa", sum := "270a41ea17fe09f435027c39fa7f1a20aca9d142593276d19f1cac23423e711c", func := "windowpane/windowpanelaw04.WirePuts", spec := "wirePuts", unfollowed := true, recurses := true, plainKeys := false, apart := false }
def WirePutsSaid : Prop := wirePutsRow.holds Try.pinned (OpenSpec.ofChange wirePutsSpec)

/-- ITS FALSE NEIGHBOUR: 'it returns false'. Refute it at one input. -/
def wirePutsWrong : ChangeSpec := { name := "wirePuts", fn := fun _ => fun
  | [d1, d2, d3] => { results := [.lit (.bool false)], args := [d1, d2, d3] }
  | _ => none }
def WirePutsWrongFalsely : Prop := wirePutsRow.holds Try.pinned (OpenSpec.ofChange wirePutsWrong)

/-- 'windowpanelaw04.WireZero': WHATEVER THE INPUT: true; the input reads as it did. -/
def wireZeroSpec : ChangeSpec := { name := "wireZero", fn := fun _ => fun
  | [d1, d2, d3, d4] => { results := [.lit (.bool true)], args := [d1, d2, d3, d4] }
  | _ => none }
def wireZeroRow : OpenClaim := { program := "ytoneechcclndaaa", sum := "270a41ea17fe09f435027c39fa7f1a20aca9d142593276d19f1cac23423e711c", func := "windowpane/windowpanelaw04.WireZero", spec := "wireZero", unfollowed := true, recurses := true, plainKeys := false, apart := false }
def WireZeroSaid : Prop := wireZeroRow.holds Try.pinned (OpenSpec.ofChange wireZeroSpec)

/-- ITS FALSE NEIGHBOUR: 'it returns false'. Refute it at one input. -/
def wireZeroWrong : ChangeSpec := { name := "wireZero", fn := fun _ => fun
  | [d1, d2, d3, d4] => { results := [.lit (.bool false)], args := [d1, d2, d3, d4] }
  | _ => none }
def WireZeroWrongFalsely : Prop := wireZeroRow.holds Try.pinned (OpenSpec.ofChange wireZeroWrong)

/-- 'windowpanelaw04.WireLong': WHATEVER THE INPUT: true; the input reads as it did. -/
def wireLongSpec : ChangeSpec := { name := "wireLong", fn := fun _ => fun
  | [d1, d2] => { results := [.lit (.bool true)], args := [d1, d2] }
  | _ => none }
def wireLongRow : OpenClaim := { program := "ytoneechcclndaaa", sum := "270a41ea17fe09f435027c39fa7f1a20aca9d142593276d19f1cac23423e711c", func := "windowpane/windowpanelaw04.WireLong", spec := "wireLong", unfollowed := true, recurses := true, plainKeys := false, apart := false }
def WireLongSaid : Prop := wireLongRow.holds Try.pinned (OpenSpec.ofChange wireLongSpec)

/-- ITS FALSE NEIGHBOUR: 'it returns false'. Refute it at one input. -/
def wireLongWrong : ChangeSpec := { name := "wireLong", fn := fun _ => fun
  | [d1, d2] => { results := [.lit (.bool false)], args := [d1, d2] }
  | _ => none }
def WireLongWrongFalsely : Prop := wireLongRow.holds Try.pinned (OpenSpec.ofChange wireLongWrong)

/-- 'windowpanelaw24.MessageReads': WHATEVER THE INPUT: true; the input reads as it did. -/
def messageReadsSpec : ChangeSpec := { name := "messageReads", fn := fun _ => fun
  | [d] => { results := [.lit (.bool true)], args := [d] }
  | _ => none }
def messageReadsRow : OpenClaim := { program := "ytoneechcclndaaa", sum := "270a41ea17fe09f435027c39fa7f1a20aca9d142593276d19f1cac23423e711c", func := "windowpane/windowpanelaw24.MessageReads", spec := "messageReads", unfollowed := true, recurses := true, plainKeys := false, apart := false }
def MessageReadsSaid : Prop := messageReadsRow.holds Try.pinned (OpenSpec.ofChange messageReadsSpec)

/-- ITS FALSE NEIGHBOUR: 'it returns false'. Refute it at one input. -/
def messageReadsWrong : ChangeSpec := { name := "messageReads", fn := fun _ => fun
  | [d] => { results := [.lit (.bool false)], args := [d] }
  | _ => none }
def MessageReadsWrongFalsely : Prop := messageReadsRow.holds Try.pinned (OpenSpec.ofChange messageReadsWrong)

/-- 'windowpanelaw24.MessageForms': WHATEVER THE INPUT: true; the input reads as it did. -/
def messageFormsSpec : ChangeSpec := { name := "messageForms", fn := fun _ => fun
  | [d1, d2] => { results := [.lit (.bool true)], args := [d1, d2] }
  | _ => none }
def messageFormsRow : OpenClaim := { program := "ytoneechcclndaaa", sum := "270a41ea17fe09f435027c39fa7f1a20aca9d142593276d19f1cac23423e711c", func := "windowpane/windowpanelaw24.MessageForms", spec := "messageForms", unfollowed := true, recurses := true, plainKeys := false, apart := false }
def MessageFormsSaid : Prop := messageFormsRow.holds Try.pinned (OpenSpec.ofChange messageFormsSpec)

/-- ITS FALSE NEIGHBOUR: 'it returns false'. Refute it at one input. -/
def messageFormsWrong : ChangeSpec := { name := "messageForms", fn := fun _ => fun
  | [d1, d2] => { results := [.lit (.bool false)], args := [d1, d2] }
  | _ => none }
def MessageFormsWrongFalsely : Prop := messageFormsRow.holds Try.pinned (OpenSpec.ofChange messageFormsWrong)

/-- 'windowpanelaw24.MessageBack': WHATEVER THE INPUT: true; the input reads as it did. -/
def messageBackSpec : ChangeSpec := { name := "messageBack", fn := fun _ => fun
  | [d1, d2] => { results := [.lit (.bool true)], args := [d1, d2] }
  | _ => none }
def messageBackRow : OpenClaim := { program := "ytoneechcclndaaa", sum := "270a41ea17fe09f435027c39fa7f1a20aca9d142593276d19f1cac23423e711c", func := "windowpane/windowpanelaw24.MessageBack", spec := "messageBack", unfollowed := true, recurses := true, plainKeys := false, apart := false }
def MessageBackSaid : Prop := messageBackRow.holds Try.pinned (OpenSpec.ofChange messageBackSpec)

/-- ITS FALSE NEIGHBOUR: 'it returns false'. Refute it at one input. -/
def messageBackWrong : ChangeSpec := { name := "messageBack", fn := fun _ => fun
  | [d1, d2] => { results := [.lit (.bool false)], args := [d1, d2] }
  | _ => none }
def MessageBackWrongFalsely : Prop := messageBackRow.holds Try.pinned (OpenSpec.ofChange messageBackWrong)

/-- 'windowpanelaw20.FragHangs': WHATEVER THE INPUT: true; the input reads as it did. -/
def fragHangsSpec : ChangeSpec := { name := "fragHangs", fn := fun _ => fun
  | [d1, d2] => { results := [.lit (.bool true)], args := [d1, d2] }
  | _ => none }
def fragHangsRow : OpenClaim := { program := "ytoneechcclndaaa", sum := "270a41ea17fe09f435027c39fa7f1a20aca9d142593276d19f1cac23423e711c", func := "windowpane/windowpanelaw20.FragHangs", spec := "fragHangs", unfollowed := true, recurses := true, plainKeys := false, apart := false }
def FragHangsSaid : Prop := fragHangsRow.holds Try.pinned (OpenSpec.ofChange fragHangsSpec)

/-- ITS FALSE NEIGHBOUR: 'it returns false'. Refute it at one input. -/
def fragHangsWrong : ChangeSpec := { name := "fragHangs", fn := fun _ => fun
  | [d1, d2] => { results := [.lit (.bool false)], args := [d1, d2] }
  | _ => none }
def FragHangsWrongFalsely : Prop := fragHangsRow.holds Try.pinned (OpenSpec.ofChange fragHangsWrong)

/-- 'windowpanelaw20.FragFirst': WHATEVER THE INPUT: true; the input reads as it did. -/
def fragFirstSpec : ChangeSpec := { name := "fragFirst", fn := fun _ => fun
  | [d1, d2, d3] => { results := [.lit (.bool true)], args := [d1, d2, d3] }
  | _ => none }
def fragFirstRow : OpenClaim := { program := "ytoneechcclndaaa", sum := "270a41ea17fe09f435027c39fa7f1a20aca9d142593276d19f1cac23423e711c", func := "windowpane/windowpanelaw20.FragFirst", spec := "fragFirst", unfollowed := true, recurses := true, plainKeys := false, apart := false }
def FragFirstSaid : Prop := fragFirstRow.holds Try.pinned (OpenSpec.ofChange fragFirstSpec)

/-- ITS FALSE NEIGHBOUR: 'it returns false'. Refute it at one input. -/
def fragFirstWrong : ChangeSpec := { name := "fragFirst", fn := fun _ => fun
  | [d1, d2, d3] => { results := [.lit (.bool false)], args := [d1, d2, d3] }
  | _ => none }
def FragFirstWrongFalsely : Prop := fragFirstRow.holds Try.pinned (OpenSpec.ofChange fragFirstWrong)

/-- 'windowpanelaw20.FragSpoilt': WHATEVER THE INPUT: true; the input reads as it did. -/
def fragSpoiltSpec : ChangeSpec := { name := "fragSpoilt", fn := fun _ => fun
  | [d1, d2, d3] => { results := [.lit (.bool true)], args := [d1, d2, d3] }
  | _ => none }
def fragSpoiltRow : OpenClaim := { program := "ytoneechcclndaaa", sum := "270a41ea17fe09f435027c39fa7f1a20aca9d142593276d19f1cac23423e711c", func := "windowpane/windowpanelaw20.FragSpoilt", spec := "fragSpoilt", unfollowed := true, recurses := true, plainKeys := false, apart := false }
def FragSpoiltSaid : Prop := fragSpoiltRow.holds Try.pinned (OpenSpec.ofChange fragSpoiltSpec)

/-- ITS FALSE NEIGHBOUR: 'it returns false'. Refute it at one input. -/
def fragSpoiltWrong : ChangeSpec := { name := "fragSpoilt", fn := fun _ => fun
  | [d1, d2, d3] => { results := [.lit (.bool false)], args := [d1, d2, d3] }
  | _ => none }
def FragSpoiltWrongFalsely : Prop := fragSpoiltRow.holds Try.pinned (OpenSpec.ofChange fragSpoiltWrong)

/-- 'windowpanelaw20.FragApart': WHATEVER THE INPUT: true; the input reads as it did. -/
def fragApartSpec : ChangeSpec := { name := "fragApart", fn := fun _ => fun
  | [d1, d2, d3] => { results := [.lit (.bool true)], args := [d1, d2, d3] }
  | _ => none }
def fragApartRow : OpenClaim := { program := "ytoneechcclndaaa", sum := "270a41ea17fe09f435027c39fa7f1a20aca9d142593276d19f1cac23423e711c", func := "windowpane/windowpanelaw20.FragApart", spec := "fragApart", unfollowed := true, recurses := true, plainKeys := false, apart := false }
def FragApartSaid : Prop := fragApartRow.holds Try.pinned (OpenSpec.ofChange fragApartSpec)

/-- ITS FALSE NEIGHBOUR: 'it returns false'. Refute it at one input. -/
def fragApartWrong : ChangeSpec := { name := "fragApart", fn := fun _ => fun
  | [d1, d2, d3] => { results := [.lit (.bool false)], args := [d1, d2, d3] }
  | _ => none }
def FragApartWrongFalsely : Prop := fragApartRow.holds Try.pinned (OpenSpec.ofChange fragApartWrong)

/-- 'windowpanelaw20.FragForms': WHATEVER THE INPUT: true; the input reads as it did. -/
def fragFormsSpec : ChangeSpec := { name := "fragForms", fn := fun _ => fun
  | [d1, d2] => { results := [.lit (.bool true)], args := [d1, d2] }
  | _ => none }
def fragFormsRow : OpenClaim := { program := "ytoneechcclndaaa", sum := "270a41ea17fe09f435027c39fa7f1a20aca9d142593276d19f1cac23423e711c", func := "windowpane/windowpanelaw20.FragForms", spec := "fragForms", unfollowed := true, recurses := true, plainKeys := false, apart := false }
def FragFormsSaid : Prop := fragFormsRow.holds Try.pinned (OpenSpec.ofChange fragFormsSpec)

/-- ITS FALSE NEIGHBOUR: 'it returns false'. Refute it at one input. -/
def fragFormsWrong : ChangeSpec := { name := "fragForms", fn := fun _ => fun
  | [d1, d2] => { results := [.lit (.bool false)], args := [d1, d2] }
  | _ => none }
def FragFormsWrongFalsely : Prop := fragFormsRow.holds Try.pinned (OpenSpec.ofChange fragFormsWrong)

/-- 'windowpanelaw20.FragMost': WHATEVER THE INPUT: true; the input reads as it did. -/
def fragMostSpec : ChangeSpec := { name := "fragMost", fn := fun _ => fun
  | [d1, d2] => { results := [.lit (.bool true)], args := [d1, d2] }
  | _ => none }
def fragMostRow : OpenClaim := { program := "ytoneechcclndaaa", sum := "270a41ea17fe09f435027c39fa7f1a20aca9d142593276d19f1cac23423e711c", func := "windowpane/windowpanelaw20.FragMost", spec := "fragMost", unfollowed := true, recurses := true, plainKeys := false, apart := false }
def FragMostSaid : Prop := fragMostRow.holds Try.pinned (OpenSpec.ofChange fragMostSpec)

/-- ITS FALSE NEIGHBOUR: 'it returns false'. Refute it at one input. -/
def fragMostWrong : ChangeSpec := { name := "fragMost", fn := fun _ => fun
  | [d1, d2] => { results := [.lit (.bool false)], args := [d1, d2] }
  | _ => none }
def FragMostWrongFalsely : Prop := fragMostRow.holds Try.pinned (OpenSpec.ofChange fragMostWrong)

/-- 'windowpanelaw20.FragBack': WHATEVER THE INPUT: true; the input reads as it did. -/
def fragBackSpec : ChangeSpec := { name := "fragBack", fn := fun _ => fun
  | [d1, d2] => { results := [.lit (.bool true)], args := [d1, d2] }
  | _ => none }
def fragBackRow : OpenClaim := { program := "ytoneechcclndaaa", sum := "270a41ea17fe09f435027c39fa7f1a20aca9d142593276d19f1cac23423e711c", func := "windowpane/windowpanelaw20.FragBack", spec := "fragBack", unfollowed := true, recurses := true, plainKeys := false, apart := false }
def FragBackSaid : Prop := fragBackRow.holds Try.pinned (OpenSpec.ofChange fragBackSpec)

/-- ITS FALSE NEIGHBOUR: 'it returns false'. Refute it at one input. -/
def fragBackWrong : ChangeSpec := { name := "fragBack", fn := fun _ => fun
  | [d1, d2] => { results := [.lit (.bool false)], args := [d1, d2] }
  | _ => none }
def FragBackWrongFalsely : Prop := fragBackRow.holds Try.pinned (OpenSpec.ofChange fragBackWrong)

/- THE SECOND FORM. 'bulk': how many values and letters a reading holds, each counted each time it is reached (what is shared counts as often as it is met; a slice's spare places count too). A statement '..UptoSaid' is the law's where the arguments, and the package variables that the reading takes, are together of bulk at most 1048576: NARROWER than '..Said'. Prove '..Said' where nothing that the law and all that it calls make is longer than what came in: it says more and counts as full. Else prove '..UptoSaid'. A law counts once. -/
mutual
def uptoBulk {H : Type} : DataW H → Nat
  | .lit (.string bytes) => bytes.length + 1
  | .lit _ => 1
  | .nil => 1
  | .ptr d => uptoBulk d + 1
  | .slice elems spare => uptoBulkAll elems + uptoBulkAll spare + 1
  | .agg parts => uptoBulkAll parts + 1
  | .iface _ d => uptoBulk d + 1
  | .map entries => uptoBulkEntries entries + 1
  | .held _ => 1
def uptoBulkAll {H : Type} : List (DataW H) → Nat
  | [] => 0
  | d :: r => uptoBulk d + uptoBulkAll r
def uptoBulkEntries {H : Type} : List (Lit × DataW H) → Nat
  | [] => 0
  | x :: r => uptoBulkEntry x + uptoBulkEntries r
def uptoBulkEntry {H : Type} : Lit × DataW H → Nat
  | (.string bytes, d) => bytes.length + uptoBulk d + 1
  | (_, d) => uptoBulk d + 1
 end
def uptoSmall : (H : Type) → List (DataW H) → Bool := fun _ ds => decide (uptoBulkAll ds ≤ 1048576)
def OpenSpec.upto (s : _root_.Go.ChangeSpec) : _root_.Go.OpenSpec := { _root_.Go.OpenSpec.ofChange s with cond := some uptoSmall }

/-- 'windowpanelaw04.WirePuts', WHERE WHAT IT READS IS OF BULK AT MOST 1048576: true; the input reads as it did. -/
def wirePutsUptoRow : OpenClaim := { program := "ytoneechcclndaaa", sum := "270a41ea17fe09f435027c39fa7f1a20aca9d142593276d19f1cac23423e711c", func := "windowpane/windowpanelaw04.WirePuts", spec := "wirePuts", unfollowed := true, recurses := true, plainKeys := false, apart := false, narrowed := true }
def WirePutsUptoSaid : Prop := wirePutsUptoRow.holds Try.pinned (OpenSpec.upto wirePutsSpec)

/-- 'windowpanelaw04.WireZero', WHERE WHAT IT READS IS OF BULK AT MOST 1048576: true; the input reads as it did. -/
def wireZeroUptoRow : OpenClaim := { program := "ytoneechcclndaaa", sum := "270a41ea17fe09f435027c39fa7f1a20aca9d142593276d19f1cac23423e711c", func := "windowpane/windowpanelaw04.WireZero", spec := "wireZero", unfollowed := true, recurses := true, plainKeys := false, apart := false, narrowed := true }
def WireZeroUptoSaid : Prop := wireZeroUptoRow.holds Try.pinned (OpenSpec.upto wireZeroSpec)

/-- 'windowpanelaw04.WireLong', WHERE WHAT IT READS IS OF BULK AT MOST 1048576: true; the input reads as it did. -/
def wireLongUptoRow : OpenClaim := { program := "ytoneechcclndaaa", sum := "270a41ea17fe09f435027c39fa7f1a20aca9d142593276d19f1cac23423e711c", func := "windowpane/windowpanelaw04.WireLong", spec := "wireLong", unfollowed := true, recurses := true, plainKeys := false, apart := false, narrowed := true }
def WireLongUptoSaid : Prop := wireLongUptoRow.holds Try.pinned (OpenSpec.upto wireLongSpec)

/-- 'windowpanelaw24.MessageReads', WHERE WHAT IT READS IS OF BULK AT MOST 1048576: true; the input reads as it did. -/
def messageReadsUptoRow : OpenClaim := { program := "ytoneechcclndaaa", sum := "270a41ea17fe09f435027c39fa7f1a20aca9d142593276d19f1cac23423e711c", func := "windowpane/windowpanelaw24.MessageReads", spec := "messageReads", unfollowed := true, recurses := true, plainKeys := false, apart := false, narrowed := true }
def MessageReadsUptoSaid : Prop := messageReadsUptoRow.holds Try.pinned (OpenSpec.upto messageReadsSpec)

/-- 'windowpanelaw24.MessageForms', WHERE WHAT IT READS IS OF BULK AT MOST 1048576: true; the input reads as it did. -/
def messageFormsUptoRow : OpenClaim := { program := "ytoneechcclndaaa", sum := "270a41ea17fe09f435027c39fa7f1a20aca9d142593276d19f1cac23423e711c", func := "windowpane/windowpanelaw24.MessageForms", spec := "messageForms", unfollowed := true, recurses := true, plainKeys := false, apart := false, narrowed := true }
def MessageFormsUptoSaid : Prop := messageFormsUptoRow.holds Try.pinned (OpenSpec.upto messageFormsSpec)

/-- 'windowpanelaw24.MessageBack', WHERE WHAT IT READS IS OF BULK AT MOST 1048576: true; the input reads as it did. -/
def messageBackUptoRow : OpenClaim := { program := "ytoneechcclndaaa", sum := "270a41ea17fe09f435027c39fa7f1a20aca9d142593276d19f1cac23423e711c", func := "windowpane/windowpanelaw24.MessageBack", spec := "messageBack", unfollowed := true, recurses := true, plainKeys := false, apart := false, narrowed := true }
def MessageBackUptoSaid : Prop := messageBackUptoRow.holds Try.pinned (OpenSpec.upto messageBackSpec)

/-- 'windowpanelaw20.FragHangs', WHERE WHAT IT READS IS OF BULK AT MOST 1048576: true; the input reads as it did. -/
def fragHangsUptoRow : OpenClaim := { program := "ytoneechcclndaaa", sum := "270a41ea17fe09f435027c39fa7f1a20aca9d142593276d19f1cac23423e711c", func := "windowpane/windowpanelaw20.FragHangs", spec := "fragHangs", unfollowed := true, recurses := true, plainKeys := false, apart := false, narrowed := true }
def FragHangsUptoSaid : Prop := fragHangsUptoRow.holds Try.pinned (OpenSpec.upto fragHangsSpec)

/-- 'windowpanelaw20.FragFirst', WHERE WHAT IT READS IS OF BULK AT MOST 1048576: true; the input reads as it did. -/
def fragFirstUptoRow : OpenClaim := { program := "ytoneechcclndaaa", sum := "270a41ea17fe09f435027c39fa7f1a20aca9d142593276d19f1cac23423e711c", func := "windowpane/windowpanelaw20.FragFirst", spec := "fragFirst", unfollowed := true, recurses := true, plainKeys := false, apart := false, narrowed := true }
def FragFirstUptoSaid : Prop := fragFirstUptoRow.holds Try.pinned (OpenSpec.upto fragFirstSpec)

/-- 'windowpanelaw20.FragSpoilt', WHERE WHAT IT READS IS OF BULK AT MOST 1048576: true; the input reads as it did. -/
def fragSpoiltUptoRow : OpenClaim := { program := "ytoneechcclndaaa", sum := "270a41ea17fe09f435027c39fa7f1a20aca9d142593276d19f1cac23423e711c", func := "windowpane/windowpanelaw20.FragSpoilt", spec := "fragSpoilt", unfollowed := true, recurses := true, plainKeys := false, apart := false, narrowed := true }
def FragSpoiltUptoSaid : Prop := fragSpoiltUptoRow.holds Try.pinned (OpenSpec.upto fragSpoiltSpec)

/-- 'windowpanelaw20.FragApart', WHERE WHAT IT READS IS OF BULK AT MOST 1048576: true; the input reads as it did. -/
def fragApartUptoRow : OpenClaim := { program := "ytoneechcclndaaa", sum := "270a41ea17fe09f435027c39fa7f1a20aca9d142593276d19f1cac23423e711c", func := "windowpane/windowpanelaw20.FragApart", spec := "fragApart", unfollowed := true, recurses := true, plainKeys := false, apart := false, narrowed := true }
def FragApartUptoSaid : Prop := fragApartUptoRow.holds Try.pinned (OpenSpec.upto fragApartSpec)

/-- 'windowpanelaw20.FragForms', WHERE WHAT IT READS IS OF BULK AT MOST 1048576: true; the input reads as it did. -/
def fragFormsUptoRow : OpenClaim := { program := "ytoneechcclndaaa", sum := "270a41ea17fe09f435027c39fa7f1a20aca9d142593276d19f1cac23423e711c", func := "windowpane/windowpanelaw20.FragForms", spec := "fragForms", unfollowed := true, recurses := true, plainKeys := false, apart := false, narrowed := true }
def FragFormsUptoSaid : Prop := fragFormsUptoRow.holds Try.pinned (OpenSpec.upto fragFormsSpec)

/-- 'windowpanelaw20.FragMost', WHERE WHAT IT READS IS OF BULK AT MOST 1048576: true; the input reads as it did. -/
def fragMostUptoRow : OpenClaim := { program := "ytoneechcclndaaa", sum := "270a41ea17fe09f435027c39fa7f1a20aca9d142593276d19f1cac23423e711c", func := "windowpane/windowpanelaw20.FragMost", spec := "fragMost", unfollowed := true, recurses := true, plainKeys := false, apart := false, narrowed := true }
def FragMostUptoSaid : Prop := fragMostUptoRow.holds Try.pinned (OpenSpec.upto fragMostSpec)

/-- 'windowpanelaw20.FragBack', WHERE WHAT IT READS IS OF BULK AT MOST 1048576: true; the input reads as it did. -/
def fragBackUptoRow : OpenClaim := { program := "ytoneechcclndaaa", sum := "270a41ea17fe09f435027c39fa7f1a20aca9d142593276d19f1cac23423e711c", func := "windowpane/windowpanelaw20.FragBack", spec := "fragBack", unfollowed := true, recurses := true, plainKeys := false, apart := false, narrowed := true }
def FragBackUptoSaid : Prop := fragBackUptoRow.holds Try.pinned (OpenSpec.upto fragBackSpec)

end Rows
end Go.Proofs.Ytoneechcclndaaa
