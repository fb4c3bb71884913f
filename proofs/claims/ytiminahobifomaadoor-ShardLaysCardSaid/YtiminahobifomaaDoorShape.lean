/- Small walks under many laws: whether a shape may be; whether the ask is too much. -/
import Derived.Test.YtiminahobifomaaDoorSpoil
import Derived.Test.YtiminahobifomaaDoorAsk4
import Derived.BigQuiet
import Derived.BigRegion
namespace Go.Proofs.YtiminahobifomaaDoor
open Go.ChangeShapes Go.WideShapes Go.ChangeAt Go.RowKit Go.Joins
set_option linter.unusedVariables false
set_option linter.unusedSimpArgs false

/-- Whether a shape may be. -/
def mayB (s : T3) : Bool := decide (1 ≤ s.1 ∧ s.1 ≤ 8 ∧ 0 ≤ s.2.1 ∧ s.2.1 ≤ 6 ∧ 1 ≤ s.2.2 ∧ s.2.2 ≤ 120)

set_option maxRecDepth 100000 in
set_option maxHeartbeats 400000 in
theorem refNum_any (n k : Int) (w : World) :
    Calls Tryd.prog 29 #[.int .i64 n, .int .i64 k] w fun e w' => e = .returned (.bool (decide (0 ≤ n ∧ n ≤ k))) ∧ w = w' := by
  go_enter Tryd.func29, Tryd.ntmps29
  go_wp2
  all_goals
    go_ret
    refine ⟨?_, rfl⟩
    simp_all <;> omega

set_option maxRecDepth 100000 in
set_option maxHeartbeats 400000 in
theorem refBetween_any (n k m : Int) (w : World) :
    Calls Tryd.prog 17 #[.int .i64 n, .int .i64 k, .int .i64 m] w fun e w' => e = .returned (.bool (decide (k ≤ n ∧ n ≤ m))) ∧ w = w' := by
  go_enter Tryd.func17, Tryd.ntmps17
  go_wp2
  all_goals
    go_ret
    refine ⟨?_, rfl⟩
    simp_all <;> omega

/-- The box of a struct of three numbers. -/
theorem box3_facts (w : World) (a b c : Value) (T : TypeId) :
    Below w.heap.size w (w.alloc (.cells #[a, b, c] T)) ∧ (w.alloc (.cells #[a, b, c] T)).cell? ⟨w.heap.size, 0, none⟩ = some a ∧ (w.alloc (.cells #[a, b, c] T)).cell? ⟨w.heap.size, 1, none⟩ = some b ∧ (w.alloc (.cells #[a, b, c] T)).cell? ⟨w.heap.size, 2, none⟩ = some c ∧ (w.alloc (.cells #[a, b, c] T)).heap.size = w.heap.size + 1 :=
  ⟨(Below.refl _ _).alloc (Nat.le_refl _) _, by simp [go_sem], by simp [go_sem], by simp [go_sem], by simp⟩

def shapeV (s : T3) : Value := .agg #[.int .i64 s.1, .int .i64 s.2.1, .int .i64 s.2.2]

/-- What Heavy of silolaw4 comes to. -/
def HeavyOut4 (S : List T3) (L : List ByteArray) (bs : List Bool) (w : World) (e : Ending) (w' : World) : Prop := ∃ b : Bool, (b = false → total L ≤ 4000 ∧ bs.length ≤ 100 ∧ S.length ≤ 50) ∧ e = .returned (.bool b) ∧ Below w.heap.size w w'

theorem below_cellj {W W' : World} {b j : Nat} {v : Value} (hc : W.cell? ⟨b, j, none⟩ = some v) (hs : W.heap.size = b + 1) (h : Below W.heap.size W W') : W'.cell? ⟨b, j, none⟩ = some v := by
  rw [h.cell (p := ⟨b, j, none⟩) (by show b < _; rw [hs]; omega)]; exact hc

end Go.Proofs.YtiminahobifomaaDoor
