/- A matrix's rows, ranged over: what the iterator promises. -/
import Derived.Test.YtiminahobifomaaDoorMatE
import Derived.RangeFuncFrom
import Derived.RangeFuncMany
import Derived.RangeFuncNested
import Derived.RangeFuncBound
import Derived.RangeFuncCalls
import Derived.RangeFuncLeaves
import Derived.Shelf.Abstract
import Derived.Shelf.RegionOpen
import Derived.OwnWalkIn
import Derived.TacticsInMore
import Derived.LoopNIn
import Derived.LoopIn
namespace Go.Proofs.YtiminahobifomaaDoor
open Go.ChangeShapes Go.WideShapes Go.ChangeAt Go.RowKit Go.Joins Go.Shelf
set_option linter.unusedVariables false
set_option linter.unusedSimpArgs false
attribute [local go_sem] Oper.semAt_some

/-- The numbers below j, each of them below r. -/
def finL (r : Nat) : (j : Nat) → j ≤ r → List (Fin r)
  | 0, _ => []
  | j + 1, h => finL r j (by omega) ++ [⟨j, by omega⟩]
theorem finL_val (r : Nat) : ∀ (j : Nat) (h : j ≤ r), (finL r j h).map Fin.val = List.range j
  | 0, _ => rfl
  | j + 1, h => by rw [finL, List.map_append, finL_val r j, List.range_succ]; rfl
theorem finL_length (r : Nat) : ∀ (j : Nat) (h : j ≤ r), (finL r j h).length = j
  | 0, _ => rfl
  | j + 1, h => by rw [finL, List.length_append, finL_length r j]; rfl
/-- What the iterator hands out: a row's number, the row. -/
abbrev encRow (b o c k : Nat) {r : Nat} (i : Fin r) : Array Value := #[.int .i64 (i.1 : Int), .slice (some ⟨b, o + i.1 * c, none⟩) c (k - i.1 * c)]
/-- What a round must keep: the iterator's box. -/
def KeepsBox (Bn : Nat) (W W' : World) : Prop := W.heap.size ≤ W'.heap.size ∧ W'.heap[Bn]? = W.heap[Bn]?
theorem keepsBox_t {Bn : Nat} {A B C : World} (h : KeepsBox Bn A B) (k : KeepsBox Bn B C) : KeepsBox Bn A C := ⟨Nat.le_trans h.1 k.1, k.2.trans h.2⟩
theorem keepsBox_b {Bn : Nat} {w : World} (hB : Bn < w.heap.size) (W : World) (l : Nat) (o o' : Obj) (hl : w.heap.size ≤ l) (_ : W.heap[l]? = some o) (_ : o.isCells = false) (_ : o.isWalk = false) : KeepsBox Bn W (W.putObj l o') :=
  ⟨by simp [World.putObj], World.putObj_heap_other (by omega)⟩
theorem three_of {w W : World} {B : Nat} {a b c : Value} (h : Three w B a b c) (hk : W.heap[B]? = w.heap[B]?) : Three W B a b c :=
  ⟨by rw [World.cell?_of_block (w := w) (a := ⟨B, 0, none⟩) hk]; exact h.c0, by rw [World.cell?_of_block (w := w) (a := ⟨B, 1, none⟩) hk]; exact h.c1, by rw [World.cell?_of_block (w := w) (a := ⟨B, 2, none⟩) hk]; exact h.c2,
    by rw [World.frozen?_of_block (w := w) (a := ⟨B, 0, none⟩) hk]; exact h.f0, by rw [World.frozen?_of_block (w := w) (a := ⟨B, 1, none⟩) hk]; exact h.f1, by rw [World.frozen?_of_block (w := w) (a := ⟨B, 2, none⟩) hk]; exact h.f2⟩

end Go.Proofs.YtiminahobifomaaDoor
