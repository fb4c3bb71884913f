/-
  No cell of these rows narrows 'for every input' (looked for: loops, veiled, ifaces, maps, wideKeys, modest, calm, conditions, laid).
  DERIVED. THE GIVEN ROWS OF THIS SEAT. 7 by the template 'for every input the law returns true; each argument reads behind the call as it read before'; 0 by the template 'total and deterministic' (their statements: YtdagnmhioellhaaTotals.lean).
  GIVEN WITH THE SEED: the statements are not yours to turn. If you find one false, say at which input.
  Laid BY PROGRAM, IN A SANDBOX (cutbox-rows.mjs): the forced cells as the released guide's own fill.sh prints them over the translation c23e3a66d97c8c60… (all of the seat's roots in one cut). By AI agents, Wed Nov 11 2026. No macro, syntax, notation, axiom, sorry.
-/
import Derived.Test.YtdagnmhioellhaaChecked
import GoSem.Claim
import GoSem.ClaimJoined
import GoSem.ClaimMapViews
import Derived.JoinedTies
import Derived.KernelRfl
namespace Go.Proofs.Ytdagnmhioellhaa
/- THE CELL 'sum', in the pinned program and in every row, IS THE sha256 OF THE DUMP (.gsa) THAT YtdagnmhioellhaaProg.lean LOADS. Nothing in Lean hashes anything: it is a label: what it is worth is what the hold of that sum in a sandbox is worth. -/
noncomputable def Try.pinned : Pinned := { name := "ytdagnmhioellhaa", sum := "c23e3a66d97c8c60562cbecf19acbbb46afc630e089b4b016b6259f519974c9b", checked := Try.checked }
namespace Rows
def none {H : Type} : Left H := { results := [], args := [] }

/-- 'silolaw4.CodeEncodes': WHATEVER THE INPUT: true; the input reads as it did. -/
def codeEncodesSpec : ChangeSpec := { name := "codeEncodes", fn := fun _ => fun
  | [d] => { results := [.lit (.bool true)], args := [d] }
  | _ => none }
def codeEncodesRow : OpenClaim := { program := "ytdagnmhioellhaa", sum := "c23e3a66d97c8c60562cbecf19acbbb46afc630e089b4b016b6259f519974c9b", func := "silo/silolaw4.CodeEncodes", spec := "codeEncodes", unfollowed := true, recurses := true, apart := false }
def CodeEncodesSaid : Prop := codeEncodesRow.holds Try.pinned (OpenSpec.ofChange codeEncodesSpec)

/-- ITS FALSE NEIGHBOUR: 'it returns false'. Refute it at one input. -/
def codeEncodesWrong : ChangeSpec := { name := "codeEncodes", fn := fun _ => fun
  | [d] => { results := [.lit (.bool false)], args := [d] }
  | _ => none }
def CodeEncodesWrongFalsely : Prop := codeEncodesRow.holds Try.pinned (OpenSpec.ofChange codeEncodesWrong)

/-- 'silolaw4.CodeAny': WHATEVER THE INPUT: true; the input reads as it did. -/
def codeAnySpec : ChangeSpec := { name := "codeAny", fn := fun _ => fun
  | [d] => { results := [.lit (.bool true)], args := [d] }
  | _ => none }
def codeAnyRow : OpenClaim := { program := "ytdagnmhioellhaa", sum := "c23e3a66d97c8c60562cbecf19acbbb46afc630e089b4b016b6259f519974c9b", func := "silo/silolaw4.CodeAny", spec := "codeAny", unfollowed := true, recurses := true, apart := false }
def CodeAnySaid : Prop := codeAnyRow.holds Try.pinned (OpenSpec.ofChange codeAnySpec)

/-- ITS FALSE NEIGHBOUR: 'it returns false'. Refute it at one input. -/
def codeAnyWrong : ChangeSpec := { name := "codeAny", fn := fun _ => fun
  | [d] => { results := [.lit (.bool false)], args := [d] }
  | _ => none }
def CodeAnyWrongFalsely : Prop := codeAnyRow.holds Try.pinned (OpenSpec.ofChange codeAnyWrong)

/-- 'silolaw4.CodeRebuilds': WHATEVER THE INPUT: true; the input reads as it did. -/
def codeRebuildsSpec : ChangeSpec := { name := "codeRebuilds", fn := fun _ => fun
  | [d] => { results := [.lit (.bool true)], args := [d] }
  | _ => none }
def codeRebuildsRow : OpenClaim := { program := "ytdagnmhioellhaa", sum := "c23e3a66d97c8c60562cbecf19acbbb46afc630e089b4b016b6259f519974c9b", func := "silo/silolaw4.CodeRebuilds", spec := "codeRebuilds", unfollowed := true, recurses := true, apart := false }
def CodeRebuildsSaid : Prop := codeRebuildsRow.holds Try.pinned (OpenSpec.ofChange codeRebuildsSpec)

/-- ITS FALSE NEIGHBOUR: 'it returns false'. Refute it at one input. -/
def codeRebuildsWrong : ChangeSpec := { name := "codeRebuilds", fn := fun _ => fun
  | [d] => { results := [.lit (.bool false)], args := [d] }
  | _ => none }
def CodeRebuildsWrongFalsely : Prop := codeRebuildsRow.holds Try.pinned (OpenSpec.ofChange codeRebuildsWrong)

/-- 'silolaw4.CodeOne': WHATEVER THE INPUT: true; the input reads as it did. -/
def codeOneSpec : ChangeSpec := { name := "codeOne", fn := fun _ => fun
  | [d] => { results := [.lit (.bool true)], args := [d] }
  | _ => none }
def codeOneRow : OpenClaim := { program := "ytdagnmhioellhaa", sum := "c23e3a66d97c8c60562cbecf19acbbb46afc630e089b4b016b6259f519974c9b", func := "silo/silolaw4.CodeOne", spec := "codeOne", unfollowed := true, recurses := true, apart := false }
def CodeOneSaid : Prop := codeOneRow.holds Try.pinned (OpenSpec.ofChange codeOneSpec)

/-- ITS FALSE NEIGHBOUR: 'it returns false'. Refute it at one input. -/
def codeOneWrong : ChangeSpec := { name := "codeOne", fn := fun _ => fun
  | [d] => { results := [.lit (.bool false)], args := [d] }
  | _ => none }
def CodeOneWrongFalsely : Prop := codeOneRow.holds Try.pinned (OpenSpec.ofChange codeOneWrong)

/-- 'silolaw4.CodeSingle': WHATEVER THE INPUT: true; the input reads as it did. -/
def codeSingleSpec : ChangeSpec := { name := "codeSingle", fn := fun _ => fun
  | [d] => { results := [.lit (.bool true)], args := [d] }
  | _ => none }
def codeSingleRow : OpenClaim := { program := "ytdagnmhioellhaa", sum := "c23e3a66d97c8c60562cbecf19acbbb46afc630e089b4b016b6259f519974c9b", func := "silo/silolaw4.CodeSingle", spec := "codeSingle", unfollowed := true, recurses := true, apart := false }
def CodeSingleSaid : Prop := codeSingleRow.holds Try.pinned (OpenSpec.ofChange codeSingleSpec)

/-- ITS FALSE NEIGHBOUR: 'it returns false'. Refute it at one input. -/
def codeSingleWrong : ChangeSpec := { name := "codeSingle", fn := fun _ => fun
  | [d] => { results := [.lit (.bool false)], args := [d] }
  | _ => none }
def CodeSingleWrongFalsely : Prop := codeSingleRow.holds Try.pinned (OpenSpec.ofChange codeSingleWrong)

/-- 'silolaw4.CodeNone': WHATEVER THE INPUT: true; the input reads as it did. -/
def codeNoneSpec : ChangeSpec := { name := "codeNone", fn := fun _ => fun
  | [d] => { results := [.lit (.bool true)], args := [d] }
  | _ => none }
def codeNoneRow : OpenClaim := { program := "ytdagnmhioellhaa", sum := "c23e3a66d97c8c60562cbecf19acbbb46afc630e089b4b016b6259f519974c9b", func := "silo/silolaw4.CodeNone", spec := "codeNone", unfollowed := true, recurses := true, apart := false }
def CodeNoneSaid : Prop := codeNoneRow.holds Try.pinned (OpenSpec.ofChange codeNoneSpec)

/-- ITS FALSE NEIGHBOUR: 'it returns false'. Refute it at one input. -/
def codeNoneWrong : ChangeSpec := { name := "codeNone", fn := fun _ => fun
  | [d] => { results := [.lit (.bool false)], args := [d] }
  | _ => none }
def CodeNoneWrongFalsely : Prop := codeNoneRow.holds Try.pinned (OpenSpec.ofChange codeNoneWrong)

/-- 'silolaw4.CodeGreat': WHATEVER THE INPUT: true; the input reads as it did. -/
def codeGreatSpec : ChangeSpec := { name := "codeGreat", fn := fun _ => fun
  | [d] => { results := [.lit (.bool true)], args := [d] }
  | _ => none }
def codeGreatRow : OpenClaim := { program := "ytdagnmhioellhaa", sum := "c23e3a66d97c8c60562cbecf19acbbb46afc630e089b4b016b6259f519974c9b", func := "silo/silolaw4.CodeGreat", spec := "codeGreat", unfollowed := true, recurses := true, apart := false }
def CodeGreatSaid : Prop := codeGreatRow.holds Try.pinned (OpenSpec.ofChange codeGreatSpec)

/-- ITS FALSE NEIGHBOUR: 'it returns false'. Refute it at one input. -/
def codeGreatWrong : ChangeSpec := { name := "codeGreat", fn := fun _ => fun
  | [d] => { results := [.lit (.bool false)], args := [d] }
  | _ => none }
def CodeGreatWrongFalsely : Prop := codeGreatRow.holds Try.pinned (OpenSpec.ofChange codeGreatWrong)

/- THE SECOND FORM. 'bulk': how many values and letters a reading holds, each counted each time it is reached (what is shared counts as often as it is met; a slice's spare places count too). A statement '..UptoSaid' is the law's where the arguments, and the package variables that the reading takes, are together of bulk at most 1048576: NARROWER than '..Said'. Prove '..Said' where nothing that the law and all that it calls make is longer than what came in: it says more and counts as full. Else prove '..UptoSaid'. A law counts once. -/
mutual
def uptoBulk {H : Type} : DataW H → Nat
  | .lit (.string bytes) => bytes.length + 1
  | .lit _ => 1
  | .nil => 1
  | .ptr d => uptoBulk d + 1
  | .slice elems spare => uptoBulkAll elems + uptoBulkAll spare + 1
  | .agg parts => uptoBulkAll parts + 1
  | .iface _ d => uptoBulk d + 1
  | .map entries => uptoBulkEntries entries + 1
  | .held _ => 1
def uptoBulkAll {H : Type} : List (DataW H) → Nat
  | [] => 0
  | d :: r => uptoBulk d + uptoBulkAll r
def uptoBulkEntries {H : Type} : List (Lit × DataW H) → Nat
  | [] => 0
  | x :: r => uptoBulkEntry x + uptoBulkEntries r
def uptoBulkEntry {H : Type} : Lit × DataW H → Nat
  | (.string bytes, d) => bytes.length + uptoBulk d + 1
  | (_, d) => uptoBulk d + 1
 end
def uptoSmall : (H : Type) → List (DataW H) → Bool := fun _ ds => decide (uptoBulkAll ds ≤ 1048576)
def OpenSpec.upto (s : _root_.Go.ChangeSpec) : _root_.Go.OpenSpec := { _root_.Go.OpenSpec.ofChange s with cond := some uptoSmall }

/-- 'silolaw4.CodeEncodes', WHERE WHAT IT READS IS OF BULK AT MOST 1048576: true; the input reads as it did. -/
def codeEncodesUptoRow : OpenClaim := { program := "ytdagnmhioellhaa", sum := "c23e3a66d97c8c60562cbecf19acbbb46afc630e089b4b016b6259f519974c9b", func := "silo/silolaw4.CodeEncodes", spec := "codeEncodes", unfollowed := true, recurses := true, apart := false, narrowed := true }
def CodeEncodesUptoSaid : Prop := codeEncodesUptoRow.holds Try.pinned (OpenSpec.upto codeEncodesSpec)

/-- 'silolaw4.CodeAny', WHERE WHAT IT READS IS OF BULK AT MOST 1048576: true; the input reads as it did. -/
def codeAnyUptoRow : OpenClaim := { program := "ytdagnmhioellhaa", sum := "c23e3a66d97c8c60562cbecf19acbbb46afc630e089b4b016b6259f519974c9b", func := "silo/silolaw4.CodeAny", spec := "codeAny", unfollowed := true, recurses := true, apart := false, narrowed := true }
def CodeAnyUptoSaid : Prop := codeAnyUptoRow.holds Try.pinned (OpenSpec.upto codeAnySpec)

/-- 'silolaw4.CodeRebuilds', WHERE WHAT IT READS IS OF BULK AT MOST 1048576: true; the input reads as it did. -/
def codeRebuildsUptoRow : OpenClaim := { program := "ytdagnmhioellhaa", sum := "c23e3a66d97c8c60562cbecf19acbbb46afc630e089b4b016b6259f519974c9b", func := "silo/silolaw4.CodeRebuilds", spec := "codeRebuilds", unfollowed := true, recurses := true, apart := false, narrowed := true }
def CodeRebuildsUptoSaid : Prop := codeRebuildsUptoRow.holds Try.pinned (OpenSpec.upto codeRebuildsSpec)

/-- 'silolaw4.CodeOne', WHERE WHAT IT READS IS OF BULK AT MOST 1048576: true; the input reads as it did. -/
def codeOneUptoRow : OpenClaim := { program := "ytdagnmhioellhaa", sum := "c23e3a66d97c8c60562cbecf19acbbb46afc630e089b4b016b6259f519974c9b", func := "silo/silolaw4.CodeOne", spec := "codeOne", unfollowed := true, recurses := true, apart := false, narrowed := true }
def CodeOneUptoSaid : Prop := codeOneUptoRow.holds Try.pinned (OpenSpec.upto codeOneSpec)

/-- 'silolaw4.CodeSingle', WHERE WHAT IT READS IS OF BULK AT MOST 1048576: true; the input reads as it did. -/
def codeSingleUptoRow : OpenClaim := { program := "ytdagnmhioellhaa", sum := "c23e3a66d97c8c60562cbecf19acbbb46afc630e089b4b016b6259f519974c9b", func := "silo/silolaw4.CodeSingle", spec := "codeSingle", unfollowed := true, recurses := true, apart := false, narrowed := true }
def CodeSingleUptoSaid : Prop := codeSingleUptoRow.holds Try.pinned (OpenSpec.upto codeSingleSpec)

/-- 'silolaw4.CodeNone', WHERE WHAT IT READS IS OF BULK AT MOST 1048576: true; the input reads as it did. -/
def codeNoneUptoRow : OpenClaim := { program := "ytdagnmhioellhaa", sum := "c23e3a66d97c8c60562cbecf19acbbb46afc630e089b4b016b6259f519974c9b", func := "silo/silolaw4.CodeNone", spec := "codeNone", unfollowed := true, recurses := true, apart := false, narrowed := true }
def CodeNoneUptoSaid : Prop := codeNoneUptoRow.holds Try.pinned (OpenSpec.upto codeNoneSpec)

/-- 'silolaw4.CodeGreat', WHERE WHAT IT READS IS OF BULK AT MOST 1048576: true; the input reads as it did. -/
def codeGreatUptoRow : OpenClaim := { program := "ytdagnmhioellhaa", sum := "c23e3a66d97c8c60562cbecf19acbbb46afc630e089b4b016b6259f519974c9b", func := "silo/silolaw4.CodeGreat", spec := "codeGreat", unfollowed := true, recurses := true, apart := false, narrowed := true }
def CodeGreatUptoSaid : Prop := codeGreatUptoRow.holds Try.pinned (OpenSpec.upto codeGreatSpec)

end Rows
end Go.Proofs.Ytdagnmhioellhaa
