/- Bytes copied and compared, cloned; matrices copied and compared; walked. -/
import Derived.Test.YtiminahobifomaaDoorMatB
import Derived.Lib.SliceRun
namespace Go.Proofs.YtiminahobifomaaDoor
open Go.ChangeShapes Go.WideShapes Go.ChangeAt Go.RowKit Go.Joins
set_option linter.unusedVariables false
set_option linter.unusedSimpArgs false

theorem infoU8 : (Tryd.prog.info? 5).map (fun i => (i.zero, i.size, i.bytes)) = some (some (.int .u8 0), 1, 1) := by kernel_rfl
def u8s (ns : List Nat) : List Value := ns.map fun n : Nat => Value.int .u8 (n : Int)
theorem u8s_take {ns : List Nat} {k : Nat} (h : k < ns.length) : u8s (ns.take (k + 1)) = u8s (ns.take k) ++ [.int .u8 ((ns.getD k 0 : Nat) : Int)] := by
  rw [List.take_succ_eq_append_getElem h, u8s, List.map_append, ← List.getElem_eq_getD (h := h)]; rfl
theorem u8s_length (ns : List Nat) : (u8s ns).length = ns.length := by simp [u8s]
/-- A row of bytes that the code owns may be written. -/
theorem own_blk {w : World} {B : Nat} {e : TypeId} {v : Value} {n : Nat} {ns : List Nat} (h : w.ownsRow B e 1 v n (u8s ns)) (h0 : 0 < n) (hb : ∀ x ∈ ns, x < 256) :
    ∃ g cap, v = .slice (some ⟨g, 0, none⟩) n cap ∧ B ≤ g ∧ g < w.heap.size ∧ n ≤ cap ∧ cap ≤ maxLen ∧ n = ns.length ∧ BytesBlk w g ns := by
  have hn : n = ns.length := by have := h.1; rw [u8s_length] at this; omega
  have hc := h
  obtain ⟨_, ⟨rfl, rfl⟩ | ⟨g, cap, cur, rfl, hB, hh, h1, h2, h3, h4⟩⟩ := h
  · omega
  · refine ⟨g, cap, rfl, hB, (Array.getElem?_eq_some_iff.1 hh).1, h1, h2, hn, fun i hi => ⟨getD_lt hb hi, ?_, ?_⟩⟩
    · have := hc.cells (g := g) rfl i (.int .u8 ((ns.getD i 0 : Nat) : Int)) (by simp [u8s, List.getD, hi])
      rw [Go.WideShapes.add_plain, Nat.zero_add] at this
      exact this
    · have hi2 : i < cur.size := by rw [h3]; omega
      simp [World.frozen?, hh, hi2]

end Go.Proofs.YtiminahobifomaaDoor
