/-
  No cell of these rows narrows 'for every input' (looked for: loops, veiled, ifaces, maps, wideKeys, modest, calm, conditions, laid).
  DERIVED. THE GIVEN ROWS OF THIS SEAT. 3 by the template 'for every input the law returns true; each argument reads behind the call as it read before'; 0 by the template 'total and deterministic' (their statements: YtijcmdcjjcemfaaTotals.lean).
  GIVEN WITH THE SEED: the statements are not yours to turn. If you find one false, say at which input.
  Laid BY PROGRAM, IN A SANDBOX (cutbox-rows.mjs): the forced cells as the released guide's own fill.sh prints them over the translation 5d7bfd9333b7fd54… (all of the seat's roots in one cut). By AI agents, Wed Nov 11 2026. No macro, syntax, notation, axiom, sorry.
-/
import Derived.Test.YtijcmdcjjcemfaaChecked
import GoSem.Claim
import GoSem.ClaimJoined
import GoSem.ClaimMapViews
import Derived.JoinedTies
import Derived.KernelRfl
namespace Go.Proofs.Ytijcmdcjjcemfaa
/- THE CELL 'sum', in the pinned program and in every row, IS THE sha256 OF THE DUMP (.gsa) THAT YtijcmdcjjcemfaaProg.lean LOADS. Nothing in Lean hashes anything: it is a label: what it is worth is what the hold of that sum in a sandbox is worth. -/
noncomputable def Try.pinned : Pinned := { name := "ytijcmdcjjcemfaa", sum := "5d7bfd9333b7fd54076a83371bf1e355217a0e5a0ae51b1897f6af619f5770da", checked := Try.checked }
namespace Rows
def none {H : Type} : Left H := { results := [], args := [] }

/-- 'silolaw5.SpotMends': WHATEVER THE INPUT: true; the input reads as it did. -/
def spotMendsSpec : ChangeSpec := { name := "spotMends", fn := fun _ => fun
  | [d] => { results := [.lit (.bool true)], args := [d] }
  | _ => none }
def spotMendsRow : OpenClaim := { program := "ytijcmdcjjcemfaa", sum := "5d7bfd9333b7fd54076a83371bf1e355217a0e5a0ae51b1897f6af619f5770da", func := "silo/silolaw5.SpotMends", spec := "spotMends", unfollowed := true, recurses := true, apart := false }
def SpotMendsSaid : Prop := spotMendsRow.holds Try.pinned (OpenSpec.ofChange spotMendsSpec)

/-- ITS FALSE NEIGHBOUR: 'it returns false'. Refute it at one input. -/
def spotMendsWrong : ChangeSpec := { name := "spotMends", fn := fun _ => fun
  | [d] => { results := [.lit (.bool false)], args := [d] }
  | _ => none }
def SpotMendsWrongFalsely : Prop := spotMendsRow.holds Try.pinned (OpenSpec.ofChange spotMendsWrong)

/-- 'silolaw5.SpotWrong': WHATEVER THE INPUT: true; the input reads as it did. -/
def spotWrongSpec : ChangeSpec := { name := "spotWrong", fn := fun _ => fun
  | [d] => { results := [.lit (.bool true)], args := [d] }
  | _ => none }
def spotWrongRow : OpenClaim := { program := "ytijcmdcjjcemfaa", sum := "5d7bfd9333b7fd54076a83371bf1e355217a0e5a0ae51b1897f6af619f5770da", func := "silo/silolaw5.SpotWrong", spec := "spotWrong", unfollowed := true, recurses := true, apart := false }
def SpotWrongSaid : Prop := spotWrongRow.holds Try.pinned (OpenSpec.ofChange spotWrongSpec)

/-- ITS FALSE NEIGHBOUR: 'it returns false'. Refute it at one input. -/
def spotWrongWrong : ChangeSpec := { name := "spotWrong", fn := fun _ => fun
  | [d] => { results := [.lit (.bool false)], args := [d] }
  | _ => none }
def SpotWrongWrongFalsely : Prop := spotWrongRow.holds Try.pinned (OpenSpec.ofChange spotWrongWrong)

/-- 'silolaw5.SpotClean': WHATEVER THE INPUT: true; the input reads as it did. -/
def spotCleanSpec : ChangeSpec := { name := "spotClean", fn := fun _ => fun
  | [d] => { results := [.lit (.bool true)], args := [d] }
  | _ => none }
def spotCleanRow : OpenClaim := { program := "ytijcmdcjjcemfaa", sum := "5d7bfd9333b7fd54076a83371bf1e355217a0e5a0ae51b1897f6af619f5770da", func := "silo/silolaw5.SpotClean", spec := "spotClean", unfollowed := true, recurses := true, apart := false }
def SpotCleanSaid : Prop := spotCleanRow.holds Try.pinned (OpenSpec.ofChange spotCleanSpec)

/-- ITS FALSE NEIGHBOUR: 'it returns false'. Refute it at one input. -/
def spotCleanWrong : ChangeSpec := { name := "spotClean", fn := fun _ => fun
  | [d] => { results := [.lit (.bool false)], args := [d] }
  | _ => none }
def SpotCleanWrongFalsely : Prop := spotCleanRow.holds Try.pinned (OpenSpec.ofChange spotCleanWrong)

/- THE SECOND FORM. 'bulk': how many values and letters a reading holds, each counted each time it is reached (what is shared counts as often as it is met; a slice's spare places count too). A statement '..UptoSaid' is the law's where the arguments, and the package variables that the reading takes, are together of bulk at most 1048576: NARROWER than '..Said'. Prove '..Said' where nothing that the law and all that it calls make is longer than what came in: it says more and counts as full. Else prove '..UptoSaid'. A law counts once. -/
mutual
def uptoBulk {H : Type} : DataW H → Nat
  | .lit (.string bytes) => bytes.length + 1
  | .lit _ => 1
  | .nil => 1
  | .ptr d => uptoBulk d + 1
  | .slice elems spare => uptoBulkAll elems + uptoBulkAll spare + 1
  | .agg parts => uptoBulkAll parts + 1
  | .iface _ d => uptoBulk d + 1
  | .map entries => uptoBulkEntries entries + 1
  | .held _ => 1
def uptoBulkAll {H : Type} : List (DataW H) → Nat
  | [] => 0
  | d :: r => uptoBulk d + uptoBulkAll r
def uptoBulkEntries {H : Type} : List (Lit × DataW H) → Nat
  | [] => 0
  | x :: r => uptoBulkEntry x + uptoBulkEntries r
def uptoBulkEntry {H : Type} : Lit × DataW H → Nat
  | (.string bytes, d) => bytes.length + uptoBulk d + 1
  | (_, d) => uptoBulk d + 1
 end
def uptoSmall : (H : Type) → List (DataW H) → Bool := fun _ ds => decide (uptoBulkAll ds ≤ 1048576)
def OpenSpec.upto (s : _root_.Go.ChangeSpec) : _root_.Go.OpenSpec := { _root_.Go.OpenSpec.ofChange s with cond := some uptoSmall }

/-- 'silolaw5.SpotMends', WHERE WHAT IT READS IS OF BULK AT MOST 1048576: true; the input reads as it did. -/
def spotMendsUptoRow : OpenClaim := { program := "ytijcmdcjjcemfaa", sum := "5d7bfd9333b7fd54076a83371bf1e355217a0e5a0ae51b1897f6af619f5770da", func := "silo/silolaw5.SpotMends", spec := "spotMends", unfollowed := true, recurses := true, apart := false, narrowed := true }
def SpotMendsUptoSaid : Prop := spotMendsUptoRow.holds Try.pinned (OpenSpec.upto spotMendsSpec)

/-- 'silolaw5.SpotWrong', WHERE WHAT IT READS IS OF BULK AT MOST 1048576: true; the input reads as it did. -/
def spotWrongUptoRow : OpenClaim := { program := "ytijcmdcjjcemfaa", sum := "5d7bfd9333b7fd54076a83371bf1e355217a0e5a0ae51b1897f6af619f5770da", func := "silo/silolaw5.SpotWrong", spec := "spotWrong", unfollowed := true, recurses := true, apart := false, narrowed := true }
def SpotWrongUptoSaid : Prop := spotWrongUptoRow.holds Try.pinned (OpenSpec.upto spotWrongSpec)

/-- 'silolaw5.SpotClean', WHERE WHAT IT READS IS OF BULK AT MOST 1048576: true; the input reads as it did. -/
def spotCleanUptoRow : OpenClaim := { program := "ytijcmdcjjcemfaa", sum := "5d7bfd9333b7fd54076a83371bf1e355217a0e5a0ae51b1897f6af619f5770da", func := "silo/silolaw5.SpotClean", spec := "spotClean", unfollowed := true, recurses := true, apart := false, narrowed := true }
def SpotCleanUptoSaid : Prop := spotCleanUptoRow.holds Try.pinned (OpenSpec.upto spotCleanSpec)

end Rows
end Go.Proofs.Ytijcmdcjjcemfaa
