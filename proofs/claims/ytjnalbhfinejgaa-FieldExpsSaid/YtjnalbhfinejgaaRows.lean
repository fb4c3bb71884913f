/-
  No cell of these rows narrows 'for every input' (looked for: loops, veiled, ifaces, maps, wideKeys, modest, calm, conditions, laid).
  DERIVED. THE GIVEN ROWS OF THIS SEAT. 7 by the template 'for every input the law returns true; each argument reads behind the call as it read before'; 0 by the template 'total and deterministic' (their statements: YtjnalbhfinejgaaTotals.lean).
  GIVEN WITH THE SEED: the statements are not yours to turn. If you find one false, say at which input.
  Laid BY PROGRAM, IN A SANDBOX (cutbox-rows.mjs): the forced cells as the released guide's own fill.sh prints them over the translation d1bff31d5a4c17e6… (all of the seat's roots in one cut). By AI agents, Wed Nov 11 2026. No macro, syntax, notation, axiom, sorry.
-/
import Derived.Test.YtjnalbhfinejgaaChecked
import GoSem.Claim
import GoSem.ClaimJoined
import GoSem.ClaimMapViews
import Derived.JoinedTies
import Derived.KernelRfl
namespace Go.Proofs.Ytjnalbhfinejgaa
/- THE CELL 'sum', in the pinned program and in every row, IS THE sha256 OF THE DUMP (.gsa) THAT YtjnalbhfinejgaaProg.lean LOADS. Nothing in Lean hashes anything: it is a label: what it is worth is what the hold of that sum in a sandbox is worth. -/
noncomputable def Try.pinned : Pinned := { name := "ytjnalbhfinejgaa", sum := "d1bff31d5a4c17e68ea53a04ad5a9aba134a3a9c3f1e2d8ee4ffbc7ecb4e03bf", checked := Try.checked }
namespace Rows
def none {H : Type} : Left H := { results := [], args := [] }

/-- 'silolaw1.FieldMul': WHATEVER THE INPUT: true; the input reads as it did. -/
def fieldMulSpec : ChangeSpec := { name := "fieldMul", fn := fun _ => fun
  | [d] => { results := [.lit (.bool true)], args := [d] }
  | _ => none }
def fieldMulRow : OpenClaim := { program := "ytjnalbhfinejgaa", sum := "d1bff31d5a4c17e68ea53a04ad5a9aba134a3a9c3f1e2d8ee4ffbc7ecb4e03bf", func := "silo/silolaw1.FieldMul", spec := "fieldMul", apart := false }
def FieldMulSaid : Prop := fieldMulRow.holds Try.pinned (OpenSpec.ofChange fieldMulSpec)

/-- ITS FALSE NEIGHBOUR: 'it returns false'. Refute it at one input. -/
def fieldMulWrong : ChangeSpec := { name := "fieldMul", fn := fun _ => fun
  | [d] => { results := [.lit (.bool false)], args := [d] }
  | _ => none }
def FieldMulWrongFalsely : Prop := fieldMulRow.holds Try.pinned (OpenSpec.ofChange fieldMulWrong)

/-- 'silolaw1.FieldSquares': WHATEVER THE INPUT: true; the input reads as it did. -/
def fieldSquaresSpec : ChangeSpec := { name := "fieldSquares", fn := fun _ => fun
  | [d] => { results := [.lit (.bool true)], args := [d] }
  | _ => none }
def fieldSquaresRow : OpenClaim := { program := "ytjnalbhfinejgaa", sum := "d1bff31d5a4c17e68ea53a04ad5a9aba134a3a9c3f1e2d8ee4ffbc7ecb4e03bf", func := "silo/silolaw1.FieldSquares", spec := "fieldSquares", apart := false }
def FieldSquaresSaid : Prop := fieldSquaresRow.holds Try.pinned (OpenSpec.ofChange fieldSquaresSpec)

/-- ITS FALSE NEIGHBOUR: 'it returns false'. Refute it at one input. -/
def fieldSquaresWrong : ChangeSpec := { name := "fieldSquares", fn := fun _ => fun
  | [d] => { results := [.lit (.bool false)], args := [d] }
  | _ => none }
def FieldSquaresWrongFalsely : Prop := fieldSquaresRow.holds Try.pinned (OpenSpec.ofChange fieldSquaresWrong)

/-- 'silolaw1.FieldPows': WHATEVER THE INPUT: true; the input reads as it did. -/
def fieldPowsSpec : ChangeSpec := { name := "fieldPows", fn := fun _ => fun
  | [d] => { results := [.lit (.bool true)], args := [d] }
  | _ => none }
def fieldPowsRow : OpenClaim := { program := "ytjnalbhfinejgaa", sum := "d1bff31d5a4c17e68ea53a04ad5a9aba134a3a9c3f1e2d8ee4ffbc7ecb4e03bf", func := "silo/silolaw1.FieldPows", spec := "fieldPows", apart := false }
def FieldPowsSaid : Prop := fieldPowsRow.holds Try.pinned (OpenSpec.ofChange fieldPowsSpec)

/-- ITS FALSE NEIGHBOUR: 'it returns false'. Refute it at one input. -/
def fieldPowsWrong : ChangeSpec := { name := "fieldPows", fn := fun _ => fun
  | [d] => { results := [.lit (.bool false)], args := [d] }
  | _ => none }
def FieldPowsWrongFalsely : Prop := fieldPowsRow.holds Try.pinned (OpenSpec.ofChange fieldPowsWrong)

/-- 'silolaw1.FieldInverses': WHATEVER THE INPUT: true; the input reads as it did. -/
def fieldInversesSpec : ChangeSpec := { name := "fieldInverses", fn := fun _ => fun
  | [d] => { results := [.lit (.bool true)], args := [d] }
  | _ => none }
def fieldInversesRow : OpenClaim := { program := "ytjnalbhfinejgaa", sum := "d1bff31d5a4c17e68ea53a04ad5a9aba134a3a9c3f1e2d8ee4ffbc7ecb4e03bf", func := "silo/silolaw1.FieldInverses", spec := "fieldInverses", apart := false }
def FieldInversesSaid : Prop := fieldInversesRow.holds Try.pinned (OpenSpec.ofChange fieldInversesSpec)

/-- ITS FALSE NEIGHBOUR: 'it returns false'. Refute it at one input. -/
def fieldInversesWrong : ChangeSpec := { name := "fieldInverses", fn := fun _ => fun
  | [d] => { results := [.lit (.bool false)], args := [d] }
  | _ => none }
def FieldInversesWrongFalsely : Prop := fieldInversesRow.holds Try.pinned (OpenSpec.ofChange fieldInversesWrong)

/-- 'silolaw1.FieldExps': WHATEVER THE INPUT: true; the input reads as it did. -/
def fieldExpsSpec : ChangeSpec := { name := "fieldExps", fn := fun _ => fun
  | [d] => { results := [.lit (.bool true)], args := [d] }
  | _ => none }
def fieldExpsRow : OpenClaim := { program := "ytjnalbhfinejgaa", sum := "d1bff31d5a4c17e68ea53a04ad5a9aba134a3a9c3f1e2d8ee4ffbc7ecb4e03bf", func := "silo/silolaw1.FieldExps", spec := "fieldExps", unfollowed := true, recurses := true, apart := false }
def FieldExpsSaid : Prop := fieldExpsRow.holds Try.pinned (OpenSpec.ofChange fieldExpsSpec)

/-- ITS FALSE NEIGHBOUR: 'it returns false'. Refute it at one input. -/
def fieldExpsWrong : ChangeSpec := { name := "fieldExps", fn := fun _ => fun
  | [d] => { results := [.lit (.bool false)], args := [d] }
  | _ => none }
def FieldExpsWrongFalsely : Prop := fieldExpsRow.holds Try.pinned (OpenSpec.ofChange fieldExpsWrong)

/-- 'silolaw1.FieldDivs': WHATEVER THE INPUT: true; the input reads as it did. -/
def fieldDivsSpec : ChangeSpec := { name := "fieldDivs", fn := fun _ => fun
  | [d] => { results := [.lit (.bool true)], args := [d] }
  | _ => none }
def fieldDivsRow : OpenClaim := { program := "ytjnalbhfinejgaa", sum := "d1bff31d5a4c17e68ea53a04ad5a9aba134a3a9c3f1e2d8ee4ffbc7ecb4e03bf", func := "silo/silolaw1.FieldDivs", spec := "fieldDivs", unfollowed := true, recurses := true, apart := false }
def FieldDivsSaid : Prop := fieldDivsRow.holds Try.pinned (OpenSpec.ofChange fieldDivsSpec)

/-- ITS FALSE NEIGHBOUR: 'it returns false'. Refute it at one input. -/
def fieldDivsWrong : ChangeSpec := { name := "fieldDivs", fn := fun _ => fun
  | [d] => { results := [.lit (.bool false)], args := [d] }
  | _ => none }
def FieldDivsWrongFalsely : Prop := fieldDivsRow.holds Try.pinned (OpenSpec.ofChange fieldDivsWrong)

/-- 'silolaw1.FieldRules': WHATEVER THE INPUT: true; the input reads as it did. -/
def fieldRulesSpec : ChangeSpec := { name := "fieldRules", fn := fun _ => fun
  | [d] => { results := [.lit (.bool true)], args := [d] }
  | _ => none }
def fieldRulesRow : OpenClaim := { program := "ytjnalbhfinejgaa", sum := "d1bff31d5a4c17e68ea53a04ad5a9aba134a3a9c3f1e2d8ee4ffbc7ecb4e03bf", func := "silo/silolaw1.FieldRules", spec := "fieldRules", unfollowed := true, recurses := true, apart := false }
def FieldRulesSaid : Prop := fieldRulesRow.holds Try.pinned (OpenSpec.ofChange fieldRulesSpec)

/-- ITS FALSE NEIGHBOUR: 'it returns false'. Refute it at one input. -/
def fieldRulesWrong : ChangeSpec := { name := "fieldRules", fn := fun _ => fun
  | [d] => { results := [.lit (.bool false)], args := [d] }
  | _ => none }
def FieldRulesWrongFalsely : Prop := fieldRulesRow.holds Try.pinned (OpenSpec.ofChange fieldRulesWrong)

/- THE SECOND FORM. 'bulk': how many values and letters a reading holds, each counted each time it is reached (what is shared counts as often as it is met; a slice's spare places count too). A statement '..UptoSaid' is the law's where the arguments, and the package variables that the reading takes, are together of bulk at most 1048576: NARROWER than '..Said'. Prove '..Said' where nothing that the law and all that it calls make is longer than what came in: it says more and counts as full. Else prove '..UptoSaid'. A law counts once. -/
mutual
def uptoBulk {H : Type} : DataW H → Nat
  | .lit (.string bytes) => bytes.length + 1
  | .lit _ => 1
  | .nil => 1
  | .ptr d => uptoBulk d + 1
  | .slice elems spare => uptoBulkAll elems + uptoBulkAll spare + 1
  | .agg parts => uptoBulkAll parts + 1
  | .iface _ d => uptoBulk d + 1
  | .map entries => uptoBulkEntries entries + 1
  | .held _ => 1
def uptoBulkAll {H : Type} : List (DataW H) → Nat
  | [] => 0
  | d :: r => uptoBulk d + uptoBulkAll r
def uptoBulkEntries {H : Type} : List (Lit × DataW H) → Nat
  | [] => 0
  | x :: r => uptoBulkEntry x + uptoBulkEntries r
def uptoBulkEntry {H : Type} : Lit × DataW H → Nat
  | (.string bytes, d) => bytes.length + uptoBulk d + 1
  | (_, d) => uptoBulk d + 1
 end
def uptoSmall : (H : Type) → List (DataW H) → Bool := fun _ ds => decide (uptoBulkAll ds ≤ 1048576)
def OpenSpec.upto (s : _root_.Go.ChangeSpec) : _root_.Go.OpenSpec := { _root_.Go.OpenSpec.ofChange s with cond := some uptoSmall }

/-- 'silolaw1.FieldMul', WHERE WHAT IT READS IS OF BULK AT MOST 1048576: true; the input reads as it did. -/
def fieldMulUptoRow : OpenClaim := { program := "ytjnalbhfinejgaa", sum := "d1bff31d5a4c17e68ea53a04ad5a9aba134a3a9c3f1e2d8ee4ffbc7ecb4e03bf", func := "silo/silolaw1.FieldMul", spec := "fieldMul", apart := false, narrowed := true }
def FieldMulUptoSaid : Prop := fieldMulUptoRow.holds Try.pinned (OpenSpec.upto fieldMulSpec)

/-- 'silolaw1.FieldSquares', WHERE WHAT IT READS IS OF BULK AT MOST 1048576: true; the input reads as it did. -/
def fieldSquaresUptoRow : OpenClaim := { program := "ytjnalbhfinejgaa", sum := "d1bff31d5a4c17e68ea53a04ad5a9aba134a3a9c3f1e2d8ee4ffbc7ecb4e03bf", func := "silo/silolaw1.FieldSquares", spec := "fieldSquares", apart := false, narrowed := true }
def FieldSquaresUptoSaid : Prop := fieldSquaresUptoRow.holds Try.pinned (OpenSpec.upto fieldSquaresSpec)

/-- 'silolaw1.FieldPows', WHERE WHAT IT READS IS OF BULK AT MOST 1048576: true; the input reads as it did. -/
def fieldPowsUptoRow : OpenClaim := { program := "ytjnalbhfinejgaa", sum := "d1bff31d5a4c17e68ea53a04ad5a9aba134a3a9c3f1e2d8ee4ffbc7ecb4e03bf", func := "silo/silolaw1.FieldPows", spec := "fieldPows", apart := false, narrowed := true }
def FieldPowsUptoSaid : Prop := fieldPowsUptoRow.holds Try.pinned (OpenSpec.upto fieldPowsSpec)

/-- 'silolaw1.FieldInverses', WHERE WHAT IT READS IS OF BULK AT MOST 1048576: true; the input reads as it did. -/
def fieldInversesUptoRow : OpenClaim := { program := "ytjnalbhfinejgaa", sum := "d1bff31d5a4c17e68ea53a04ad5a9aba134a3a9c3f1e2d8ee4ffbc7ecb4e03bf", func := "silo/silolaw1.FieldInverses", spec := "fieldInverses", apart := false, narrowed := true }
def FieldInversesUptoSaid : Prop := fieldInversesUptoRow.holds Try.pinned (OpenSpec.upto fieldInversesSpec)

/-- 'silolaw1.FieldExps', WHERE WHAT IT READS IS OF BULK AT MOST 1048576: true; the input reads as it did. -/
def fieldExpsUptoRow : OpenClaim := { program := "ytjnalbhfinejgaa", sum := "d1bff31d5a4c17e68ea53a04ad5a9aba134a3a9c3f1e2d8ee4ffbc7ecb4e03bf", func := "silo/silolaw1.FieldExps", spec := "fieldExps", unfollowed := true, recurses := true, apart := false, narrowed := true }
def FieldExpsUptoSaid : Prop := fieldExpsUptoRow.holds Try.pinned (OpenSpec.upto fieldExpsSpec)

/-- 'silolaw1.FieldDivs', WHERE WHAT IT READS IS OF BULK AT MOST 1048576: true; the input reads as it did. -/
def fieldDivsUptoRow : OpenClaim := { program := "ytjnalbhfinejgaa", sum := "d1bff31d5a4c17e68ea53a04ad5a9aba134a3a9c3f1e2d8ee4ffbc7ecb4e03bf", func := "silo/silolaw1.FieldDivs", spec := "fieldDivs", unfollowed := true, recurses := true, apart := false, narrowed := true }
def FieldDivsUptoSaid : Prop := fieldDivsUptoRow.holds Try.pinned (OpenSpec.upto fieldDivsSpec)

/-- 'silolaw1.FieldRules', WHERE WHAT IT READS IS OF BULK AT MOST 1048576: true; the input reads as it did. -/
def fieldRulesUptoRow : OpenClaim := { program := "ytjnalbhfinejgaa", sum := "d1bff31d5a4c17e68ea53a04ad5a9aba134a3a9c3f1e2d8ee4ffbc7ecb4e03bf", func := "silo/silolaw1.FieldRules", spec := "fieldRules", unfollowed := true, recurses := true, apart := false, narrowed := true }
def FieldRulesUptoSaid : Prop := fieldRulesUptoRow.holds Try.pinned (OpenSpec.upto fieldRulesSpec)

end Rows
end Go.Proofs.Ytjnalbhfinejgaa
