/-
  No cell of these rows narrows 'for every input' (looked for: loops, veiled, ifaces, maps, wideKeys, modest, calm, conditions, laid).
  DERIVED. THE GIVEN ROWS OF THIS SEAT. 5 by the template 'for every input the law returns true; each argument reads behind the call as it read before'; 0 by the template 'total and deterministic' (their statements: YtnpngkbcfkolnaaTotals.lean).
  GIVEN WITH THE SEED: the statements are not yours to turn. If you find one false, say at which input.
  Laid BY PROGRAM, IN A SANDBOX (cutbox-rows.mjs): the forced cells as the released guide's own fill.sh prints them over the translation fc2058eb3c94ec07… (all of the seat's roots in one cut). By AI agents, Wed Nov 11 2026. No macro, syntax, notation, axiom, sorry.
-/
import Derived.Test.YtnpngkbcfkolnaaChecked
import GoSem.Claim
import GoSem.ClaimJoined
import GoSem.ClaimMapViews
import Derived.JoinedTies
import Derived.KernelRfl
namespace Go.Proofs.Ytnpngkbcfkolnaa
/- THE CELL 'sum', in the pinned program and in every row, IS THE sha256 OF THE DUMP (.gsa) THAT YtnpngkbcfkolnaaProg.lean LOADS. Nothing in Lean hashes anything: it is a label: what it is worth is what the hold of that sum in a sandbox is worth. -/
noncomputable def Try.pinned : Pinned := { name := "ytnpngkbcfkolnaa", sum := "fc2058eb3c94ec070662c87f0bcff68b6a4e17413abe469ecf907d1beca4cdb6", checked := Try.checked }
namespace Rows
def none {H : Type} : Left H := { results := [], args := [] }

/-- 'silolaw6.DigestLengths': WHATEVER THE INPUT: true; the input reads as it did. -/
def digestLengthsSpec : ChangeSpec := { name := "digestLengths", fn := fun _ => fun
  | [d] => { results := [.lit (.bool true)], args := [d] }
  | _ => none }
def digestLengthsRow : OpenClaim := { program := "ytnpngkbcfkolnaa", sum := "fc2058eb3c94ec070662c87f0bcff68b6a4e17413abe469ecf907d1beca4cdb6", func := "silo/silolaw6.DigestLengths", spec := "digestLengths", apart := false }
def DigestLengthsSaid : Prop := digestLengthsRow.holds Try.pinned (OpenSpec.ofChange digestLengthsSpec)

/-- ITS FALSE NEIGHBOUR: 'it returns false'. Refute it at one input. -/
def digestLengthsWrong : ChangeSpec := { name := "digestLengths", fn := fun _ => fun
  | [d] => { results := [.lit (.bool false)], args := [d] }
  | _ => none }
def DigestLengthsWrongFalsely : Prop := digestLengthsRow.holds Try.pinned (OpenSpec.ofChange digestLengthsWrong)

/-- 'silolaw6.DigestOf': WHATEVER THE INPUT: true; the input reads as it did. -/
def digestOfSpec : ChangeSpec := { name := "digestOf", fn := fun _ => fun
  | [d] => { results := [.lit (.bool true)], args := [d] }
  | _ => none }
def digestOfRow : OpenClaim := { program := "ytnpngkbcfkolnaa", sum := "fc2058eb3c94ec070662c87f0bcff68b6a4e17413abe469ecf907d1beca4cdb6", func := "silo/silolaw6.DigestOf", spec := "digestOf", apart := false }
def DigestOfSaid : Prop := digestOfRow.holds Try.pinned (OpenSpec.ofChange digestOfSpec)

/-- ITS FALSE NEIGHBOUR: 'it returns false'. Refute it at one input. -/
def digestOfWrong : ChangeSpec := { name := "digestOf", fn := fun _ => fun
  | [d] => { results := [.lit (.bool false)], args := [d] }
  | _ => none }
def DigestOfWrongFalsely : Prop := digestOfRow.holds Try.pinned (OpenSpec.ofChange digestOfWrong)

/-- 'silolaw6.DigestFeeds': WHATEVER THE INPUT: true; the input reads as it did. -/
def digestFeedsSpec : ChangeSpec := { name := "digestFeeds", fn := fun _ => fun
  | [d] => { results := [.lit (.bool true)], args := [d] }
  | _ => none }
def digestFeedsRow : OpenClaim := { program := "ytnpngkbcfkolnaa", sum := "fc2058eb3c94ec070662c87f0bcff68b6a4e17413abe469ecf907d1beca4cdb6", func := "silo/silolaw6.DigestFeeds", spec := "digestFeeds", apart := false }
def DigestFeedsSaid : Prop := digestFeedsRow.holds Try.pinned (OpenSpec.ofChange digestFeedsSpec)

/-- ITS FALSE NEIGHBOUR: 'it returns false'. Refute it at one input. -/
def digestFeedsWrong : ChangeSpec := { name := "digestFeeds", fn := fun _ => fun
  | [d] => { results := [.lit (.bool false)], args := [d] }
  | _ => none }
def DigestFeedsWrongFalsely : Prop := digestFeedsRow.holds Try.pinned (OpenSpec.ofChange digestFeedsWrong)

/-- 'silolaw6.DigestLong': WHATEVER THE INPUT: true; the input reads as it did. -/
def digestLongSpec : ChangeSpec := { name := "digestLong", fn := fun _ => fun
  | [d] => { results := [.lit (.bool true)], args := [d] }
  | _ => none }
def digestLongRow : OpenClaim := { program := "ytnpngkbcfkolnaa", sum := "fc2058eb3c94ec070662c87f0bcff68b6a4e17413abe469ecf907d1beca4cdb6", func := "silo/silolaw6.DigestLong", spec := "digestLong", apart := false }
def DigestLongSaid : Prop := digestLongRow.holds Try.pinned (OpenSpec.ofChange digestLongSpec)

/-- ITS FALSE NEIGHBOUR: 'it returns false'. Refute it at one input. -/
def digestLongWrong : ChangeSpec := { name := "digestLong", fn := fun _ => fun
  | [d] => { results := [.lit (.bool false)], args := [d] }
  | _ => none }
def DigestLongWrongFalsely : Prop := digestLongRow.holds Try.pinned (OpenSpec.ofChange digestLongWrong)

/-- 'silolaw6.DigestHex': WHATEVER THE INPUT: true; the input reads as it did. -/
def digestHexSpec : ChangeSpec := { name := "digestHex", fn := fun _ => fun
  | [d] => { results := [.lit (.bool true)], args := [d] }
  | _ => none }
def digestHexRow : OpenClaim := { program := "ytnpngkbcfkolnaa", sum := "fc2058eb3c94ec070662c87f0bcff68b6a4e17413abe469ecf907d1beca4cdb6", func := "silo/silolaw6.DigestHex", spec := "digestHex", inPlace := ["internal/bytealg.IndexByteString"], apart := false }
def DigestHexSaid : Prop := digestHexRow.holds Try.pinned (OpenSpec.ofChange digestHexSpec)

/-- ITS FALSE NEIGHBOUR: 'it returns false'. Refute it at one input. -/
def digestHexWrong : ChangeSpec := { name := "digestHex", fn := fun _ => fun
  | [d] => { results := [.lit (.bool false)], args := [d] }
  | _ => none }
def DigestHexWrongFalsely : Prop := digestHexRow.holds Try.pinned (OpenSpec.ofChange digestHexWrong)

/- THE SECOND FORM. 'bulk': how many values and letters a reading holds, each counted each time it is reached (what is shared counts as often as it is met; a slice's spare places count too). A statement '..UptoSaid' is the law's where the arguments, and the package variables that the reading takes, are together of bulk at most 1048576: NARROWER than '..Said'. Prove '..Said' where nothing that the law and all that it calls make is longer than what came in: it says more and counts as full. Else prove '..UptoSaid'. A law counts once. -/
mutual
def uptoBulk {H : Type} : DataW H → Nat
  | .lit (.string bytes) => bytes.length + 1
  | .lit _ => 1
  | .nil => 1
  | .ptr d => uptoBulk d + 1
  | .slice elems spare => uptoBulkAll elems + uptoBulkAll spare + 1
  | .agg parts => uptoBulkAll parts + 1
  | .iface _ d => uptoBulk d + 1
  | .map entries => uptoBulkEntries entries + 1
  | .held _ => 1
def uptoBulkAll {H : Type} : List (DataW H) → Nat
  | [] => 0
  | d :: r => uptoBulk d + uptoBulkAll r
def uptoBulkEntries {H : Type} : List (Lit × DataW H) → Nat
  | [] => 0
  | x :: r => uptoBulkEntry x + uptoBulkEntries r
def uptoBulkEntry {H : Type} : Lit × DataW H → Nat
  | (.string bytes, d) => bytes.length + uptoBulk d + 1
  | (_, d) => uptoBulk d + 1
 end
def uptoSmall : (H : Type) → List (DataW H) → Bool := fun _ ds => decide (uptoBulkAll ds ≤ 1048576)
def OpenSpec.upto (s : _root_.Go.ChangeSpec) : _root_.Go.OpenSpec := { _root_.Go.OpenSpec.ofChange s with cond := some uptoSmall }

/-- 'silolaw6.DigestLengths', WHERE WHAT IT READS IS OF BULK AT MOST 1048576: true; the input reads as it did. -/
def digestLengthsUptoRow : OpenClaim := { program := "ytnpngkbcfkolnaa", sum := "fc2058eb3c94ec070662c87f0bcff68b6a4e17413abe469ecf907d1beca4cdb6", func := "silo/silolaw6.DigestLengths", spec := "digestLengths", apart := false, narrowed := true }
def DigestLengthsUptoSaid : Prop := digestLengthsUptoRow.holds Try.pinned (OpenSpec.upto digestLengthsSpec)

/-- 'silolaw6.DigestOf', WHERE WHAT IT READS IS OF BULK AT MOST 1048576: true; the input reads as it did. -/
def digestOfUptoRow : OpenClaim := { program := "ytnpngkbcfkolnaa", sum := "fc2058eb3c94ec070662c87f0bcff68b6a4e17413abe469ecf907d1beca4cdb6", func := "silo/silolaw6.DigestOf", spec := "digestOf", apart := false, narrowed := true }
def DigestOfUptoSaid : Prop := digestOfUptoRow.holds Try.pinned (OpenSpec.upto digestOfSpec)

/-- 'silolaw6.DigestFeeds', WHERE WHAT IT READS IS OF BULK AT MOST 1048576: true; the input reads as it did. -/
def digestFeedsUptoRow : OpenClaim := { program := "ytnpngkbcfkolnaa", sum := "fc2058eb3c94ec070662c87f0bcff68b6a4e17413abe469ecf907d1beca4cdb6", func := "silo/silolaw6.DigestFeeds", spec := "digestFeeds", apart := false, narrowed := true }
def DigestFeedsUptoSaid : Prop := digestFeedsUptoRow.holds Try.pinned (OpenSpec.upto digestFeedsSpec)

/-- 'silolaw6.DigestLong', WHERE WHAT IT READS IS OF BULK AT MOST 1048576: true; the input reads as it did. -/
def digestLongUptoRow : OpenClaim := { program := "ytnpngkbcfkolnaa", sum := "fc2058eb3c94ec070662c87f0bcff68b6a4e17413abe469ecf907d1beca4cdb6", func := "silo/silolaw6.DigestLong", spec := "digestLong", apart := false, narrowed := true }
def DigestLongUptoSaid : Prop := digestLongUptoRow.holds Try.pinned (OpenSpec.upto digestLongSpec)

/-- 'silolaw6.DigestHex', WHERE WHAT IT READS IS OF BULK AT MOST 1048576: true; the input reads as it did. -/
def digestHexUptoRow : OpenClaim := { program := "ytnpngkbcfkolnaa", sum := "fc2058eb3c94ec070662c87f0bcff68b6a4e17413abe469ecf907d1beca4cdb6", func := "silo/silolaw6.DigestHex", spec := "digestHex", inPlace := ["internal/bytealg.IndexByteString"], apart := false, narrowed := true }
def DigestHexUptoSaid : Prop := digestHexUptoRow.holds Try.pinned (OpenSpec.upto digestHexSpec)

end Rows
end Go.Proofs.Ytnpngkbcfkolnaa
