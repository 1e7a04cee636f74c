/-
  No cell of these rows narrows 'for every input' (looked for: loops, veiled, ifaces, maps, wideKeys, modest, calm, conditions, laid).
  DERIVED. THE GIVEN ROWS OF THIS SEAT. 4 by the template 'for every input the law returns true; each argument reads behind the call as it read before'; 0 by the template 'total and deterministic' (their statements: YtfpdiblnbbhhmaaTotals.lean).
  GIVEN WITH THE SEED: the statements are not yours to turn. If you find one false, say at which input.
  Laid BY PROGRAM, IN A SANDBOX (cutbox-rows.mjs): the forced cells as the released guide's own fill.sh prints them over the translation e8bf2721f99d75e2… (all of the seat's roots in one cut). By AI agents, Wed Nov 11 2026. No macro, syntax, notation, axiom, sorry.
-/
import Derived.Test.YtfpdiblnbbhhmaaChecked
import GoSem.Claim
import GoSem.ClaimJoined
import GoSem.ClaimMapViews
import Derived.JoinedTies
import Derived.KernelRfl
namespace Go.Proofs.Ytfpdiblnbbhhmaa
/- THE CELL 'sum', in the pinned program and in every row, IS THE sha256 OF THE DUMP (.gsa) THAT YtfpdiblnbbhhmaaProg.lean LOADS. Nothing in Lean hashes anything: it is a label: what it is worth is what the hold of that sum in a sandbox is worth. -/
noncomputable def Try.pinned : Pinned := { name := "ytfpdiblnbbhhmaa", sum := "e8bf2721f99d75e2f8ebba5f2693979ba357a7a04a3cd6b4cc0100239ce549d4", checked := Try.checked }
namespace Rows
def none {H : Type} : Left H := { results := [], args := [] }

/-- 'windowpanelaw20.FragKeys': WHATEVER THE INPUT: true; the input reads as it did. -/
def fragKeysSpec : ChangeSpec := { name := "fragKeys", fn := fun _ => fun
  | [d1, d2, d3, d4] => { results := [.lit (.bool true)], args := [d1, d2, d3, d4] }
  | _ => none }
def fragKeysRow : OpenClaim := { program := "ytfpdiblnbbhhmaa", sum := "e8bf2721f99d75e2f8ebba5f2693979ba357a7a04a3cd6b4cc0100239ce549d4", func := "windowpane/windowpanelaw20.FragKeys", spec := "fragKeys", unfollowed := true, recurses := true, plainKeys := false, apart := false }
def FragKeysSaid : Prop := fragKeysRow.holds Try.pinned (OpenSpec.ofChange fragKeysSpec)

/-- ITS FALSE NEIGHBOUR: 'it returns false'. Refute it at one input. -/
def fragKeysWrong : ChangeSpec := { name := "fragKeys", fn := fun _ => fun
  | [d1, d2, d3, d4] => { results := [.lit (.bool false)], args := [d1, d2, d3, d4] }
  | _ => none }
def FragKeysWrongFalsely : Prop := fragKeysRow.holds Try.pinned (OpenSpec.ofChange fragKeysWrong)

/-- 'windowpanelaw23.ChunkNil': WHATEVER THE INPUT: true; the input reads as it did. -/
def chunkNilSpec : ChangeSpec := { name := "chunkNil", fn := fun _ => fun
  | [d1, d2, d3] => { results := [.lit (.bool true)], args := [d1, d2, d3] }
  | _ => none }
def chunkNilRow : OpenClaim := { program := "ytfpdiblnbbhhmaa", sum := "e8bf2721f99d75e2f8ebba5f2693979ba357a7a04a3cd6b4cc0100239ce549d4", func := "windowpane/windowpanelaw23.ChunkNil", spec := "chunkNil", plainKeys := false, apart := false }
def ChunkNilSaid : Prop := chunkNilRow.holds Try.pinned (OpenSpec.ofChange chunkNilSpec)

/-- ITS FALSE NEIGHBOUR: 'it returns false'. Refute it at one input. -/
def chunkNilWrong : ChangeSpec := { name := "chunkNil", fn := fun _ => fun
  | [d1, d2, d3] => { results := [.lit (.bool false)], args := [d1, d2, d3] }
  | _ => none }
def ChunkNilWrongFalsely : Prop := chunkNilRow.holds Try.pinned (OpenSpec.ofChange chunkNilWrong)

/-- 'windowpanelaw23.ChunkJoins': WHATEVER THE INPUT: true; the input reads as it did. -/
def chunkJoinsSpec : ChangeSpec := { name := "chunkJoins", fn := fun _ => fun
  | [d] => { results := [.lit (.bool true)], args := [d] }
  | _ => none }
def chunkJoinsRow : OpenClaim := { program := "ytfpdiblnbbhhmaa", sum := "e8bf2721f99d75e2f8ebba5f2693979ba357a7a04a3cd6b4cc0100239ce549d4", func := "windowpane/windowpanelaw23.ChunkJoins", spec := "chunkJoins", plainKeys := false, apart := false }
def ChunkJoinsSaid : Prop := chunkJoinsRow.holds Try.pinned (OpenSpec.ofChange chunkJoinsSpec)

/-- ITS FALSE NEIGHBOUR: 'it returns false'. Refute it at one input. -/
def chunkJoinsWrong : ChangeSpec := { name := "chunkJoins", fn := fun _ => fun
  | [d] => { results := [.lit (.bool false)], args := [d] }
  | _ => none }
def ChunkJoinsWrongFalsely : Prop := chunkJoinsRow.holds Try.pinned (OpenSpec.ofChange chunkJoinsWrong)

/-- 'windowpanelaw20.FragTrees': WHATEVER THE INPUT: true; the input reads as it did. -/
def fragTreesSpec : ChangeSpec := { name := "fragTrees", fn := fun _ => fun
  | [d1, d2] => { results := [.lit (.bool true)], args := [d1, d2] }
  | _ => none }
def fragTreesRow : OpenClaim := { program := "ytfpdiblnbbhhmaa", sum := "e8bf2721f99d75e2f8ebba5f2693979ba357a7a04a3cd6b4cc0100239ce549d4", func := "windowpane/windowpanelaw20.FragTrees", spec := "fragTrees", unfollowed := true, recurses := true, plainKeys := false, apart := false }
def FragTreesSaid : Prop := fragTreesRow.holds Try.pinned (OpenSpec.ofChange fragTreesSpec)

/-- ITS FALSE NEIGHBOUR: 'it returns false'. Refute it at one input. -/
def fragTreesWrong : ChangeSpec := { name := "fragTrees", fn := fun _ => fun
  | [d1, d2] => { results := [.lit (.bool false)], args := [d1, d2] }
  | _ => none }
def FragTreesWrongFalsely : Prop := fragTreesRow.holds Try.pinned (OpenSpec.ofChange fragTreesWrong)

/- THE SECOND FORM. 'bulk': how many values and letters a reading holds, each counted each time it is reached (what is shared counts as often as it is met; a slice's spare places count too). A statement '..UptoSaid' is the law's where the arguments, and the package variables that the reading takes, are together of bulk at most 1048576: NARROWER than '..Said'. Prove '..Said' where nothing that the law and all that it calls make is longer than what came in: it says more and counts as full. Else prove '..UptoSaid'. A law counts once. -/
mutual
def uptoBulk {H : Type} : DataW H → Nat
  | .lit (.string bytes) => bytes.length + 1
  | .lit _ => 1
  | .nil => 1
  | .ptr d => uptoBulk d + 1
  | .slice elems spare => uptoBulkAll elems + uptoBulkAll spare + 1
  | .agg parts => uptoBulkAll parts + 1
  | .iface _ d => uptoBulk d + 1
  | .map entries => uptoBulkEntries entries + 1
  | .held _ => 1
def uptoBulkAll {H : Type} : List (DataW H) → Nat
  | [] => 0
  | d :: r => uptoBulk d + uptoBulkAll r
def uptoBulkEntries {H : Type} : List (Lit × DataW H) → Nat
  | [] => 0
  | x :: r => uptoBulkEntry x + uptoBulkEntries r
def uptoBulkEntry {H : Type} : Lit × DataW H → Nat
  | (.string bytes, d) => bytes.length + uptoBulk d + 1
  | (_, d) => uptoBulk d + 1
 end
def uptoSmall : (H : Type) → List (DataW H) → Bool := fun _ ds => decide (uptoBulkAll ds ≤ 1048576)
def OpenSpec.upto (s : _root_.Go.ChangeSpec) : _root_.Go.OpenSpec := { _root_.Go.OpenSpec.ofChange s with cond := some uptoSmall }

/-- 'windowpanelaw20.FragKeys', WHERE WHAT IT READS IS OF BULK AT MOST 1048576: true; the input reads as it did. -/
def fragKeysUptoRow : OpenClaim := { program := "ytfpdiblnbbhhmaa", sum := "e8bf2721f99d75e2f8ebba5f2693979ba357a7a04a3cd6b4cc0100239ce549d4", func := "windowpane/windowpanelaw20.FragKeys", spec := "fragKeys", unfollowed := true, recurses := true, plainKeys := false, apart := false, narrowed := true }
def FragKeysUptoSaid : Prop := fragKeysUptoRow.holds Try.pinned (OpenSpec.upto fragKeysSpec)

/-- 'windowpanelaw23.ChunkNil', WHERE WHAT IT READS IS OF BULK AT MOST 1048576: true; the input reads as it did. -/
def chunkNilUptoRow : OpenClaim := { program := "ytfpdiblnbbhhmaa", sum := "e8bf2721f99d75e2f8ebba5f2693979ba357a7a04a3cd6b4cc0100239ce549d4", func := "windowpane/windowpanelaw23.ChunkNil", spec := "chunkNil", plainKeys := false, apart := false, narrowed := true }
def ChunkNilUptoSaid : Prop := chunkNilUptoRow.holds Try.pinned (OpenSpec.upto chunkNilSpec)

/-- 'windowpanelaw23.ChunkJoins', WHERE WHAT IT READS IS OF BULK AT MOST 1048576: true; the input reads as it did. -/
def chunkJoinsUptoRow : OpenClaim := { program := "ytfpdiblnbbhhmaa", sum := "e8bf2721f99d75e2f8ebba5f2693979ba357a7a04a3cd6b4cc0100239ce549d4", func := "windowpane/windowpanelaw23.ChunkJoins", spec := "chunkJoins", plainKeys := false, apart := false, narrowed := true }
def ChunkJoinsUptoSaid : Prop := chunkJoinsUptoRow.holds Try.pinned (OpenSpec.upto chunkJoinsSpec)

/-- 'windowpanelaw20.FragTrees', WHERE WHAT IT READS IS OF BULK AT MOST 1048576: true; the input reads as it did. -/
def fragTreesUptoRow : OpenClaim := { program := "ytfpdiblnbbhhmaa", sum := "e8bf2721f99d75e2f8ebba5f2693979ba357a7a04a3cd6b4cc0100239ce549d4", func := "windowpane/windowpanelaw20.FragTrees", spec := "fragTrees", unfollowed := true, recurses := true, plainKeys := false, apart := false, narrowed := true }
def FragTreesUptoSaid : Prop := fragTreesUptoRow.holds Try.pinned (OpenSpec.upto fragTreesSpec)

end Rows
end Go.Proofs.Ytfpdiblnbbhhmaa
