/- lane.Into, walked: of 256 bytes and more; and of whatever number. -/
import Derived.Test.YtiminahobifomaaDoorLaneB
namespace Go.Proofs.YtiminahobifomaaDoor
open Go.ChangeShapes Go.WideShapes Go.ChangeAt Go.RowKit Go.Joins
set_option linter.unusedVariables false
set_option linter.unusedSimpArgs false

theorem BytesBlk.below {w w' : World} {B : Nat} {ns : List Nat} (h : BytesBlk w B ns) (hB : B < w.heap.size) (hb : Below w.heap.size w w') : BytesBlk w' B ns := fun i hi =>
  ⟨(h i hi).1, by rw [World.cell?_of_block (w := w) (hb.block B hB)]; exact (h i hi).2.1, by rw [World.frozen?_of_block (w := w) (hb.block B hB)]; exact (h i hi).2.2⟩
theorem BytesBlk.far {w : World} {B T k : Nat} {ns : List Nat} {v : Value} (h : BytesBlk w B ns) (hne : T ≠ B) : BytesBlk (w.setCell ⟨T, k, none⟩ v) B ns := fun i hi =>
  ⟨(h i hi).1, by rw [World.cell?_setCell_other _ _ _ _ (by simp [hne])]; exact (h i hi).2.1, by rw [World.frozen?_setCell]; exact (h i hi).2.2⟩
theorem bytesBlk_new (w : World) {ns ms : List Nat} (h : ms = ns) (T : TypeId) (hlt : ∀ n ∈ ns, n < 256) : BytesBlk (w.alloc (.cells (cellsOf8 ns) T)) w.heap.size ms := by
  subst h
  intro i hi
  have hg : ms.getD i 0 < 256 := getD_lt hlt hi
  refine ⟨hg, ?_, by simp [go_sem]⟩
  rw [cell_of_row _ _ _ _ _ _ (heap_alloc_new w _)]
  simp [cellsOf8, hi]
/-- The table as k products stand in it. -/
def tabL (c k : Nat) : List Nat := (List.range 256).map fun j => if j < k then Gf.mul j c else 0
theorem tabL_length (c k : Nat) : (tabL c k).length = 256 := by simp [tabL]
theorem tabL_zero (c : Nat) : tabL c 0 = List.replicate 256 0 := by
  apply List.ext_getElem
  · rw [tabL_length, List.length_replicate]
  · intro j h1 h2
    rw [List.getElem_replicate]
    simp only [tabL, List.getElem_map, Nat.not_lt_zero, if_false]
theorem tabL_succ (c k : Nat) : tabL c (k + 1) = (tabL c k).set k (Gf.mul k c) := by
  apply List.ext_getElem
  · simp [tabL]
  · intro j h1 h2
    by_cases e : k = j
    · subst e
      rw [List.getElem_set_self]
      simp only [tabL, List.getElem_map, List.getElem_range]
      rw [if_pos (by omega)]
    · rw [List.getElem_set_ne e]
      simp only [tabL, List.getElem_map, List.getElem_range, show j < k + 1 ↔ j < k by omega]
theorem tabL_get (c : Nat) {a : Nat} (h : a < 256) : (tabL c 256).getD a 0 = Gf.mul a c := by simp [tabL, List.getD, h]

end Go.Proofs.YtiminahobifomaaDoor
