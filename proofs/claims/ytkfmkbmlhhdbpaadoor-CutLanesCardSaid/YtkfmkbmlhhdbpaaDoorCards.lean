/-
  DERIVED. GIVEN WITH THE SEED: THE CARDS: each row of YtkfmkbmlhhdbpaaDoorRows.lean that lists a variable, with what it lists TIED to the program's text (the seventh form; the later family's looks); each row that meets fmt, with fmt's text TOLD by the authors' own Lean function (tested against real Go, not proved from fmt's source: count such statements apart). THE CARD IS WHAT COUNTS. Prove the row's statement (the work); the ties are given (YtkfmkbmlhhdbpaaDoorTie.lean); close each card by the builder's one call (the guide's Derived/Test/ToyasCard.lean, 'card_holds'). Laid BY PROGRAM, IN A SANDBOX (cutbox-door.mjs). By AI agents, Wed Nov 11 2026. No macro, syntax, notation, axiom, sorry.
-/
import Derived.Test.YtkfmkbmlhhdbpaaDoorRows
import GoSem.ClaimSeven
namespace Go.Proofs.YtkfmkbmlhhdbpaaDoor
namespace Rows

/-- THE TIED CARD OF 'silolaw7.CutLanes'. -/
def cutLanesCard : Claim7 := { stood := { row := cutLanesRow, standIns := [], harness := (true, "7c50b5dc255543599e1300fdbd7c52b548fee89b1b53f8c7222188a1ef921e0b"), looks := false }, kinds := [], alts := [], laidByText := true, laidKinds := [.data, .pinned], laidTests := true, laidLooks := .later }
def CutLanesCardSaid : Prop := Claim7.holds Tryd.pinned (.plain (OpenSpec.ofChange cutLanesSpec)) cutLanesCard

/-- THE TIED CARD OF 'silolaw7.CutBack'. -/
def cutBackCard : Claim7 := { stood := { row := cutBackRow, standIns := [], harness := (true, "7c50b5dc255543599e1300fdbd7c52b548fee89b1b53f8c7222188a1ef921e0b"), looks := false }, kinds := [], alts := [], laidByText := true, laidKinds := [.data, .pinned], laidTests := true, laidLooks := .later }
def CutBackCardSaid : Prop := Claim7.holds Tryd.pinned (.plain (OpenSpec.ofChange cutBackSpec)) cutBackCard

/-- THE TIED CARD OF 'silolaw7.CutEnds'. -/
def cutEndsCard : Claim7 := { stood := { row := cutEndsRow, standIns := [], harness := (true, "7c50b5dc255543599e1300fdbd7c52b548fee89b1b53f8c7222188a1ef921e0b"), looks := false }, kinds := [], alts := [], laidByText := true, laidKinds := [.data, .pinned], laidTests := true, laidLooks := .later }
def CutEndsCardSaid : Prop := Claim7.holds Tryd.pinned (.plain (OpenSpec.ofChange cutEndsSpec)) cutEndsCard

/-- THE SECOND FORM's CARD OF 'silolaw7.CutLanes'. -/
def cutLanesUptoCard : Claim7 := { stood := { row := cutLanesUptoRow, standIns := [], harness := (true, "7c50b5dc255543599e1300fdbd7c52b548fee89b1b53f8c7222188a1ef921e0b"), looks := false }, kinds := [], alts := [], laidByText := true, laidKinds := [.data, .pinned], laidTests := true, laidLooks := .later }
def CutLanesUptoCardSaid : Prop := Claim7.holds Tryd.pinned (.plain (OpenSpec.upto cutLanesSpec)) cutLanesUptoCard

/-- THE SECOND FORM's CARD OF 'silolaw7.CutBack'. -/
def cutBackUptoCard : Claim7 := { stood := { row := cutBackUptoRow, standIns := [], harness := (true, "7c50b5dc255543599e1300fdbd7c52b548fee89b1b53f8c7222188a1ef921e0b"), looks := false }, kinds := [], alts := [], laidByText := true, laidKinds := [.data, .pinned], laidTests := true, laidLooks := .later }
def CutBackUptoCardSaid : Prop := Claim7.holds Tryd.pinned (.plain (OpenSpec.upto cutBackSpec)) cutBackUptoCard

/-- THE SECOND FORM's CARD OF 'silolaw7.CutEnds'. -/
def cutEndsUptoCard : Claim7 := { stood := { row := cutEndsUptoRow, standIns := [], harness := (true, "7c50b5dc255543599e1300fdbd7c52b548fee89b1b53f8c7222188a1ef921e0b"), looks := false }, kinds := [], alts := [], laidByText := true, laidKinds := [.data, .pinned], laidTests := true, laidLooks := .later }
def CutEndsUptoCardSaid : Prop := Claim7.holds Tryd.pinned (.plain (OpenSpec.upto cutEndsSpec)) cutEndsUptoCard
end Rows
end Go.Proofs.YtkfmkbmlhhdbpaaDoor
