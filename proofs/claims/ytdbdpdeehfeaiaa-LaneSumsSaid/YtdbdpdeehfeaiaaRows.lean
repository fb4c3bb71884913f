/-
  No cell of these rows narrows 'for every input' (looked for: loops, veiled, ifaces, maps, wideKeys, modest, calm, conditions, laid).
  DERIVED. THE GIVEN ROWS OF THIS SEAT. 5 by the template 'for every input the law returns true; each argument reads behind the call as it read before'; 0 by the template 'total and deterministic' (their statements: YtdbdpdeehfeaiaaTotals.lean).
  GIVEN WITH THE SEED: the statements are not yours to turn. If you find one false, say at which input.
  Laid BY PROGRAM, IN A SANDBOX (cutbox-rows.mjs): the forced cells as the released guide's own fill.sh prints them over the translation b6af5df90a3dd596… (all of the seat's roots in one cut). By AI agents, Wed Nov 11 2026. No macro, syntax, notation, axiom, sorry.
-/
import Derived.Test.YtdbdpdeehfeaiaaChecked
import GoSem.Claim
import GoSem.ClaimJoined
import GoSem.ClaimMapViews
import Derived.JoinedTies
import Derived.KernelRfl
namespace Go.Proofs.Ytdbdpdeehfeaiaa
/- THE CELL 'sum', in the pinned program and in every row, IS THE sha256 OF THE DUMP (.gsa) THAT YtdbdpdeehfeaiaaProg.lean LOADS. Nothing in Lean hashes anything: it is a label: what it is worth is what the hold of that sum in a sandbox is worth. -/
noncomputable def Try.pinned : Pinned := { name := "ytdbdpdeehfeaiaa", sum := "b6af5df90a3dd596027d72e11d448c6904b6aacdb676e33e047a52a8712803fd", checked := Try.checked }
namespace Rows
def none {H : Type} : Left H := { results := [], args := [] }

/-- 'silolaw2.LaneBytes': WHATEVER THE INPUT: true; the input reads as it did. -/
def laneBytesSpec : ChangeSpec := { name := "laneBytes", fn := fun _ => fun
  | [d] => { results := [.lit (.bool true)], args := [d] }
  | _ => none }
def laneBytesRow : OpenClaim := { program := "ytdbdpdeehfeaiaa", sum := "b6af5df90a3dd596027d72e11d448c6904b6aacdb676e33e047a52a8712803fd", func := "silo/silolaw2.LaneBytes", spec := "laneBytes", inPlace := ["internal/abi.NoEscape", "internal/bytealg.MakeNoZero"], apart := false }
def LaneBytesSaid : Prop := laneBytesRow.holds Try.pinned (OpenSpec.ofChange laneBytesSpec)

/-- ITS FALSE NEIGHBOUR: 'it returns false'. Refute it at one input. -/
def laneBytesWrong : ChangeSpec := { name := "laneBytes", fn := fun _ => fun
  | [d] => { results := [.lit (.bool false)], args := [d] }
  | _ => none }
def LaneBytesWrongFalsely : Prop := laneBytesRow.holds Try.pinned (OpenSpec.ofChange laneBytesWrong)

/-- 'silolaw2.LaneTwos': WHATEVER THE INPUT: true; the input reads as it did. -/
def laneTwosSpec : ChangeSpec := { name := "laneTwos", fn := fun _ => fun
  | [d] => { results := [.lit (.bool true)], args := [d] }
  | _ => none }
def laneTwosRow : OpenClaim := { program := "ytdbdpdeehfeaiaa", sum := "b6af5df90a3dd596027d72e11d448c6904b6aacdb676e33e047a52a8712803fd", func := "silo/silolaw2.LaneTwos", spec := "laneTwos", inPlace := ["internal/abi.NoEscape", "internal/bytealg.MakeNoZero"], apart := false }
def LaneTwosSaid : Prop := laneTwosRow.holds Try.pinned (OpenSpec.ofChange laneTwosSpec)

/-- ITS FALSE NEIGHBOUR: 'it returns false'. Refute it at one input. -/
def laneTwosWrong : ChangeSpec := { name := "laneTwos", fn := fun _ => fun
  | [d] => { results := [.lit (.bool false)], args := [d] }
  | _ => none }
def LaneTwosWrongFalsely : Prop := laneTwosRow.holds Try.pinned (OpenSpec.ofChange laneTwosWrong)

/-- 'silolaw2.LaneBack': WHATEVER THE INPUT: true; the input reads as it did. -/
def laneBackSpec : ChangeSpec := { name := "laneBack", fn := fun _ => fun
  | [d] => { results := [.lit (.bool true)], args := [d] }
  | _ => none }
def laneBackRow : OpenClaim := { program := "ytdbdpdeehfeaiaa", sum := "b6af5df90a3dd596027d72e11d448c6904b6aacdb676e33e047a52a8712803fd", func := "silo/silolaw2.LaneBack", spec := "laneBack", inPlace := ["internal/abi.NoEscape", "internal/bytealg.MakeNoZero"], apart := false }
def LaneBackSaid : Prop := laneBackRow.holds Try.pinned (OpenSpec.ofChange laneBackSpec)

/-- ITS FALSE NEIGHBOUR: 'it returns false'. Refute it at one input. -/
def laneBackWrong : ChangeSpec := { name := "laneBack", fn := fun _ => fun
  | [d] => { results := [.lit (.bool false)], args := [d] }
  | _ => none }
def LaneBackWrongFalsely : Prop := laneBackRow.holds Try.pinned (OpenSpec.ofChange laneBackWrong)

/-- 'silolaw2.LaneSums': WHATEVER THE INPUT: true; the input reads as it did. -/
def laneSumsSpec : ChangeSpec := { name := "laneSums", fn := fun _ => fun
  | [d] => { results := [.lit (.bool true)], args := [d] }
  | _ => none }
def laneSumsRow : OpenClaim := { program := "ytdbdpdeehfeaiaa", sum := "b6af5df90a3dd596027d72e11d448c6904b6aacdb676e33e047a52a8712803fd", func := "silo/silolaw2.LaneSums", spec := "laneSums", inPlace := ["internal/abi.NoEscape", "internal/bytealg.MakeNoZero"], apart := false }
def LaneSumsSaid : Prop := laneSumsRow.holds Try.pinned (OpenSpec.ofChange laneSumsSpec)

/-- ITS FALSE NEIGHBOUR: 'it returns false'. Refute it at one input. -/
def laneSumsWrong : ChangeSpec := { name := "laneSums", fn := fun _ => fun
  | [d] => { results := [.lit (.bool false)], args := [d] }
  | _ => none }
def LaneSumsWrongFalsely : Prop := laneSumsRow.holds Try.pinned (OpenSpec.ofChange laneSumsWrong)

/-- 'silolaw2.LaneOrders': WHATEVER THE INPUT: true; the input reads as it did. -/
def laneOrdersSpec : ChangeSpec := { name := "laneOrders", fn := fun _ => fun
  | [d] => { results := [.lit (.bool true)], args := [d] }
  | _ => none }
def laneOrdersRow : OpenClaim := { program := "ytdbdpdeehfeaiaa", sum := "b6af5df90a3dd596027d72e11d448c6904b6aacdb676e33e047a52a8712803fd", func := "silo/silolaw2.LaneOrders", spec := "laneOrders", inPlace := ["internal/abi.NoEscape", "internal/bytealg.MakeNoZero"], apart := false }
def LaneOrdersSaid : Prop := laneOrdersRow.holds Try.pinned (OpenSpec.ofChange laneOrdersSpec)

/-- ITS FALSE NEIGHBOUR: 'it returns false'. Refute it at one input. -/
def laneOrdersWrong : ChangeSpec := { name := "laneOrders", fn := fun _ => fun
  | [d] => { results := [.lit (.bool false)], args := [d] }
  | _ => none }
def LaneOrdersWrongFalsely : Prop := laneOrdersRow.holds Try.pinned (OpenSpec.ofChange laneOrdersWrong)

/- THE SECOND FORM. 'bulk': how many values and letters a reading holds, each counted each time it is reached (what is shared counts as often as it is met; a slice's spare places count too). A statement '..UptoSaid' is the law's where the arguments, and the package variables that the reading takes, are together of bulk at most 1048576: NARROWER than '..Said'. Prove '..Said' where nothing that the law and all that it calls make is longer than what came in: it says more and counts as full. Else prove '..UptoSaid'. A law counts once. -/
mutual
def uptoBulk {H : Type} : DataW H → Nat
  | .lit (.string bytes) => bytes.length + 1
  | .lit _ => 1
  | .nil => 1
  | .ptr d => uptoBulk d + 1
  | .slice elems spare => uptoBulkAll elems + uptoBulkAll spare + 1
  | .agg parts => uptoBulkAll parts + 1
  | .iface _ d => uptoBulk d + 1
  | .map entries => uptoBulkEntries entries + 1
  | .held _ => 1
def uptoBulkAll {H : Type} : List (DataW H) → Nat
  | [] => 0
  | d :: r => uptoBulk d + uptoBulkAll r
def uptoBulkEntries {H : Type} : List (Lit × DataW H) → Nat
  | [] => 0
  | x :: r => uptoBulkEntry x + uptoBulkEntries r
def uptoBulkEntry {H : Type} : Lit × DataW H → Nat
  | (.string bytes, d) => bytes.length + uptoBulk d + 1
  | (_, d) => uptoBulk d + 1
 end
def uptoSmall : (H : Type) → List (DataW H) → Bool := fun _ ds => decide (uptoBulkAll ds ≤ 1048576)
def OpenSpec.upto (s : _root_.Go.ChangeSpec) : _root_.Go.OpenSpec := { _root_.Go.OpenSpec.ofChange s with cond := some uptoSmall }

/-- 'silolaw2.LaneBytes', WHERE WHAT IT READS IS OF BULK AT MOST 1048576: true; the input reads as it did. -/
def laneBytesUptoRow : OpenClaim := { program := "ytdbdpdeehfeaiaa", sum := "b6af5df90a3dd596027d72e11d448c6904b6aacdb676e33e047a52a8712803fd", func := "silo/silolaw2.LaneBytes", spec := "laneBytes", inPlace := ["internal/abi.NoEscape", "internal/bytealg.MakeNoZero"], apart := false, narrowed := true }
def LaneBytesUptoSaid : Prop := laneBytesUptoRow.holds Try.pinned (OpenSpec.upto laneBytesSpec)

/-- 'silolaw2.LaneTwos', WHERE WHAT IT READS IS OF BULK AT MOST 1048576: true; the input reads as it did. -/
def laneTwosUptoRow : OpenClaim := { program := "ytdbdpdeehfeaiaa", sum := "b6af5df90a3dd596027d72e11d448c6904b6aacdb676e33e047a52a8712803fd", func := "silo/silolaw2.LaneTwos", spec := "laneTwos", inPlace := ["internal/abi.NoEscape", "internal/bytealg.MakeNoZero"], apart := false, narrowed := true }
def LaneTwosUptoSaid : Prop := laneTwosUptoRow.holds Try.pinned (OpenSpec.upto laneTwosSpec)

/-- 'silolaw2.LaneBack', WHERE WHAT IT READS IS OF BULK AT MOST 1048576: true; the input reads as it did. -/
def laneBackUptoRow : OpenClaim := { program := "ytdbdpdeehfeaiaa", sum := "b6af5df90a3dd596027d72e11d448c6904b6aacdb676e33e047a52a8712803fd", func := "silo/silolaw2.LaneBack", spec := "laneBack", inPlace := ["internal/abi.NoEscape", "internal/bytealg.MakeNoZero"], apart := false, narrowed := true }
def LaneBackUptoSaid : Prop := laneBackUptoRow.holds Try.pinned (OpenSpec.upto laneBackSpec)

/-- 'silolaw2.LaneSums', WHERE WHAT IT READS IS OF BULK AT MOST 1048576: true; the input reads as it did. -/
def laneSumsUptoRow : OpenClaim := { program := "ytdbdpdeehfeaiaa", sum := "b6af5df90a3dd596027d72e11d448c6904b6aacdb676e33e047a52a8712803fd", func := "silo/silolaw2.LaneSums", spec := "laneSums", inPlace := ["internal/abi.NoEscape", "internal/bytealg.MakeNoZero"], apart := false, narrowed := true }
def LaneSumsUptoSaid : Prop := laneSumsUptoRow.holds Try.pinned (OpenSpec.upto laneSumsSpec)

/-- 'silolaw2.LaneOrders', WHERE WHAT IT READS IS OF BULK AT MOST 1048576: true; the input reads as it did. -/
def laneOrdersUptoRow : OpenClaim := { program := "ytdbdpdeehfeaiaa", sum := "b6af5df90a3dd596027d72e11d448c6904b6aacdb676e33e047a52a8712803fd", func := "silo/silolaw2.LaneOrders", spec := "laneOrders", inPlace := ["internal/abi.NoEscape", "internal/bytealg.MakeNoZero"], apart := false, narrowed := true }
def LaneOrdersUptoSaid : Prop := laneOrdersUptoRow.holds Try.pinned (OpenSpec.upto laneOrdersSpec)

end Rows
end Go.Proofs.Ytdbdpdeehfeaiaa
