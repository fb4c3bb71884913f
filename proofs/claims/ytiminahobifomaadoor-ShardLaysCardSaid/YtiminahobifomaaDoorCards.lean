/-
  DERIVED. GIVEN WITH THE SEED: THE CARDS: each row of YtiminahobifomaaDoorRows.lean that lists a variable, with what it lists TIED to the program's text (the seventh form; the later family's looks); each row that meets fmt, with fmt's text TOLD by the authors' own Lean function (tested against real Go, not proved from fmt's source: count such statements apart). THE CARD IS WHAT COUNTS. Prove the row's statement (the work); the ties are given (YtiminahobifomaaDoorTie.lean); close each card by the builder's one call (the guide's Derived/Test/ToyasCard.lean, 'card_holds'). Laid BY PROGRAM, IN A SANDBOX (cutbox-door.mjs). By AI agents, Wed Nov 11 2026. No macro, syntax, notation, axiom, sorry.
-/
import Derived.Test.YtiminahobifomaaDoorRows
import GoSem.ClaimSeven
namespace Go.Proofs.YtiminahobifomaaDoor
namespace Rows

/-- THE TIED CARD OF 'silolaw12.ShardTurned'. -/
def shardTurnedCard : Claim7 := { stood := { row := shardTurnedRow, standIns := [], harness := (true, "f02a90abd42d0ef606ff114575c3d04459bfa24930a528a5107e39597dcb22f7"), looks := false }, kinds := [], alts := [], laidByText := true, laidKinds := [.data, .pinned], laidTests := true, laidLooks := .later }
def ShardTurnedCardSaid : Prop := Claim7.holds Tryd.pinned (.plain (OpenSpec.ofChange shardTurnedSpec)) shardTurnedCard

/-- THE TIED CARD OF 'silolaw12.ShardLays'. -/
def shardLaysCard : Claim7 := { stood := { row := shardLaysRow, standIns := [], harness := (true, "f02a90abd42d0ef606ff114575c3d04459bfa24930a528a5107e39597dcb22f7"), looks := false }, kinds := [], alts := [], laidByText := true, laidKinds := [.data, .pinned], laidTests := true, laidLooks := .later }
def ShardLaysCardSaid : Prop := Claim7.holds Tryd.pinned (.plain (OpenSpec.ofChange shardLaysSpec)) shardLaysCard

/-- THE SECOND FORM's CARD OF 'silolaw12.ShardTurned'. -/
def shardTurnedUptoCard : Claim7 := { stood := { row := shardTurnedUptoRow, standIns := [], harness := (true, "f02a90abd42d0ef606ff114575c3d04459bfa24930a528a5107e39597dcb22f7"), looks := false }, kinds := [], alts := [], laidByText := true, laidKinds := [.data, .pinned], laidTests := true, laidLooks := .later }
def ShardTurnedUptoCardSaid : Prop := Claim7.holds Tryd.pinned (.plain (OpenSpec.upto shardTurnedSpec)) shardTurnedUptoCard

/-- THE SECOND FORM's CARD OF 'silolaw12.ShardLays'. -/
def shardLaysUptoCard : Claim7 := { stood := { row := shardLaysUptoRow, standIns := [], harness := (true, "f02a90abd42d0ef606ff114575c3d04459bfa24930a528a5107e39597dcb22f7"), looks := false }, kinds := [], alts := [], laidByText := true, laidKinds := [.data, .pinned], laidTests := true, laidLooks := .later }
def ShardLaysUptoCardSaid : Prop := Claim7.holds Tryd.pinned (.plain (OpenSpec.upto shardLaysSpec)) shardLaysUptoCard
end Rows
end Go.Proofs.YtiminahobifomaaDoor
