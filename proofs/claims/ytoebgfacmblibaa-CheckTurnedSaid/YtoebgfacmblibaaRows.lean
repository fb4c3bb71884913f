/-
  No cell of these rows narrows 'for every input' (looked for: loops, veiled, ifaces, maps, wideKeys, modest, calm, conditions, laid).
  DERIVED. THE GIVEN ROWS OF THIS SEAT. 4 by the template 'for every input the law returns true; each argument reads behind the call as it read before'; 0 by the template 'total and deterministic' (their statements: YtoebgfacmblibaaTotals.lean).
  GIVEN WITH THE SEED: the statements are not yours to turn. If you find one false, say at which input.
  Laid BY PROGRAM, IN A SANDBOX (cutbox-rows.mjs): the forced cells as the released guide's own fill.sh prints them over the translation 8e1160ce03a4b924… (all of the seat's roots in one cut). By AI agents, Wed Nov 11 2026. No macro, syntax, notation, axiom, sorry.
-/
import Derived.Test.YtoebgfacmblibaaChecked
import GoSem.Claim
import GoSem.ClaimJoined
import GoSem.ClaimMapViews
import Derived.JoinedTies
import Derived.KernelRfl
namespace Go.Proofs.Ytoebgfacmblibaa
/- THE CELL 'sum', in the pinned program and in every row, IS THE sha256 OF THE DUMP (.gsa) THAT YtoebgfacmblibaaProg.lean LOADS. Nothing in Lean hashes anything: it is a label: what it is worth is what the hold of that sum in a sandbox is worth. -/
noncomputable def Try.pinned : Pinned := { name := "ytoebgfacmblibaa", sum := "8e1160ce03a4b9248ebbf0b87276050371a0b35eea1f2f950d830d401757ae38", checked := Try.checked }
namespace Rows
def none {H : Type} : Left H := { results := [], args := [] }

/-- 'silolaw9.CheckTurned': WHATEVER THE INPUT: true; the input reads as it did. -/
def checkTurnedSpec : ChangeSpec := { name := "checkTurned", fn := fun _ => fun
  | [d] => { results := [.lit (.bool true)], args := [d] }
  | _ => none }
def checkTurnedRow : OpenClaim := { program := "ytoebgfacmblibaa", sum := "8e1160ce03a4b9248ebbf0b87276050371a0b35eea1f2f950d830d401757ae38", func := "silo/silolaw9.CheckTurned", spec := "checkTurned", apart := false }
def CheckTurnedSaid : Prop := checkTurnedRow.holds Try.pinned (OpenSpec.ofChange checkTurnedSpec)

/-- ITS FALSE NEIGHBOUR: 'it returns false'. Refute it at one input. -/
def checkTurnedWrong : ChangeSpec := { name := "checkTurned", fn := fun _ => fun
  | [d] => { results := [.lit (.bool false)], args := [d] }
  | _ => none }
def CheckTurnedWrongFalsely : Prop := checkTurnedRow.holds Try.pinned (OpenSpec.ofChange checkTurnedWrong)

/-- 'silolaw9.CheckRuns': WHATEVER THE INPUT: true; the input reads as it did. -/
def checkRunsSpec : ChangeSpec := { name := "checkRuns", fn := fun _ => fun
  | [d] => { results := [.lit (.bool true)], args := [d] }
  | _ => none }
def checkRunsRow : OpenClaim := { program := "ytoebgfacmblibaa", sum := "8e1160ce03a4b9248ebbf0b87276050371a0b35eea1f2f950d830d401757ae38", func := "silo/silolaw9.CheckRuns", spec := "checkRuns", apart := false }
def CheckRunsSaid : Prop := checkRunsRow.holds Try.pinned (OpenSpec.ofChange checkRunsSpec)

/-- ITS FALSE NEIGHBOUR: 'it returns false'. Refute it at one input. -/
def checkRunsWrong : ChangeSpec := { name := "checkRuns", fn := fun _ => fun
  | [d] => { results := [.lit (.bool false)], args := [d] }
  | _ => none }
def CheckRunsWrongFalsely : Prop := checkRunsRow.holds Try.pinned (OpenSpec.ofChange checkRunsWrong)

/-- 'silolaw9.CheckOf': WHATEVER THE INPUT: true; the input reads as it did. -/
def checkOfSpec : ChangeSpec := { name := "checkOf", fn := fun _ => fun
  | [d] => { results := [.lit (.bool true)], args := [d] }
  | _ => none }
def checkOfRow : OpenClaim := { program := "ytoebgfacmblibaa", sum := "8e1160ce03a4b9248ebbf0b87276050371a0b35eea1f2f950d830d401757ae38", func := "silo/silolaw9.CheckOf", spec := "checkOf", apart := false }
def CheckOfSaid : Prop := checkOfRow.holds Try.pinned (OpenSpec.ofChange checkOfSpec)

/-- ITS FALSE NEIGHBOUR: 'it returns false'. Refute it at one input. -/
def checkOfWrong : ChangeSpec := { name := "checkOf", fn := fun _ => fun
  | [d] => { results := [.lit (.bool false)], args := [d] }
  | _ => none }
def CheckOfWrongFalsely : Prop := checkOfRow.holds Try.pinned (OpenSpec.ofChange checkOfWrong)

/-- 'silolaw9.CheckBoth': WHATEVER THE INPUT: true; the input reads as it did. -/
def checkBothSpec : ChangeSpec := { name := "checkBoth", fn := fun _ => fun
  | [d] => { results := [.lit (.bool true)], args := [d] }
  | _ => none }
def checkBothRow : OpenClaim := { program := "ytoebgfacmblibaa", sum := "8e1160ce03a4b9248ebbf0b87276050371a0b35eea1f2f950d830d401757ae38", func := "silo/silolaw9.CheckBoth", spec := "checkBoth", apart := false }
def CheckBothSaid : Prop := checkBothRow.holds Try.pinned (OpenSpec.ofChange checkBothSpec)

/-- ITS FALSE NEIGHBOUR: 'it returns false'. Refute it at one input. -/
def checkBothWrong : ChangeSpec := { name := "checkBoth", fn := fun _ => fun
  | [d] => { results := [.lit (.bool false)], args := [d] }
  | _ => none }
def CheckBothWrongFalsely : Prop := checkBothRow.holds Try.pinned (OpenSpec.ofChange checkBothWrong)

/- THE SECOND FORM. 'bulk': how many values and letters a reading holds, each counted each time it is reached (what is shared counts as often as it is met; a slice's spare places count too). A statement '..UptoSaid' is the law's where the arguments, and the package variables that the reading takes, are together of bulk at most 1048576: NARROWER than '..Said'. Prove '..Said' where nothing that the law and all that it calls make is longer than what came in: it says more and counts as full. Else prove '..UptoSaid'. A law counts once. -/
mutual
def uptoBulk {H : Type} : DataW H → Nat
  | .lit (.string bytes) => bytes.length + 1
  | .lit _ => 1
  | .nil => 1
  | .ptr d => uptoBulk d + 1
  | .slice elems spare => uptoBulkAll elems + uptoBulkAll spare + 1
  | .agg parts => uptoBulkAll parts + 1
  | .iface _ d => uptoBulk d + 1
  | .map entries => uptoBulkEntries entries + 1
  | .held _ => 1
def uptoBulkAll {H : Type} : List (DataW H) → Nat
  | [] => 0
  | d :: r => uptoBulk d + uptoBulkAll r
def uptoBulkEntries {H : Type} : List (Lit × DataW H) → Nat
  | [] => 0
  | x :: r => uptoBulkEntry x + uptoBulkEntries r
def uptoBulkEntry {H : Type} : Lit × DataW H → Nat
  | (.string bytes, d) => bytes.length + uptoBulk d + 1
  | (_, d) => uptoBulk d + 1
 end
def uptoSmall : (H : Type) → List (DataW H) → Bool := fun _ ds => decide (uptoBulkAll ds ≤ 1048576)
def OpenSpec.upto (s : _root_.Go.ChangeSpec) : _root_.Go.OpenSpec := { _root_.Go.OpenSpec.ofChange s with cond := some uptoSmall }

/-- 'silolaw9.CheckTurned', WHERE WHAT IT READS IS OF BULK AT MOST 1048576: true; the input reads as it did. -/
def checkTurnedUptoRow : OpenClaim := { program := "ytoebgfacmblibaa", sum := "8e1160ce03a4b9248ebbf0b87276050371a0b35eea1f2f950d830d401757ae38", func := "silo/silolaw9.CheckTurned", spec := "checkTurned", apart := false, narrowed := true }
def CheckTurnedUptoSaid : Prop := checkTurnedUptoRow.holds Try.pinned (OpenSpec.upto checkTurnedSpec)

/-- 'silolaw9.CheckRuns', WHERE WHAT IT READS IS OF BULK AT MOST 1048576: true; the input reads as it did. -/
def checkRunsUptoRow : OpenClaim := { program := "ytoebgfacmblibaa", sum := "8e1160ce03a4b9248ebbf0b87276050371a0b35eea1f2f950d830d401757ae38", func := "silo/silolaw9.CheckRuns", spec := "checkRuns", apart := false, narrowed := true }
def CheckRunsUptoSaid : Prop := checkRunsUptoRow.holds Try.pinned (OpenSpec.upto checkRunsSpec)

/-- 'silolaw9.CheckOf', WHERE WHAT IT READS IS OF BULK AT MOST 1048576: true; the input reads as it did. -/
def checkOfUptoRow : OpenClaim := { program := "ytoebgfacmblibaa", sum := "8e1160ce03a4b9248ebbf0b87276050371a0b35eea1f2f950d830d401757ae38", func := "silo/silolaw9.CheckOf", spec := "checkOf", apart := false, narrowed := true }
def CheckOfUptoSaid : Prop := checkOfUptoRow.holds Try.pinned (OpenSpec.upto checkOfSpec)

/-- 'silolaw9.CheckBoth', WHERE WHAT IT READS IS OF BULK AT MOST 1048576: true; the input reads as it did. -/
def checkBothUptoRow : OpenClaim := { program := "ytoebgfacmblibaa", sum := "8e1160ce03a4b9248ebbf0b87276050371a0b35eea1f2f950d830d401757ae38", func := "silo/silolaw9.CheckBoth", spec := "checkBoth", apart := false, narrowed := true }
def CheckBothUptoSaid : Prop := checkBothUptoRow.holds Try.pinned (OpenSpec.upto checkBothSpec)

end Rows
end Go.Proofs.Ytoebgfacmblibaa
