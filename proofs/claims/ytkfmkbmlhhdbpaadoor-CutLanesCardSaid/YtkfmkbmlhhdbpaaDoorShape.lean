/- Small walks under many laws: whether a shape may be; whether the ask is too much. -/
import Derived.Test.YtkfmkbmlhhdbpaaDoorSpoil
import Derived.Test.YtkfmkbmlhhdbpaaDoorAsk4
import Derived.BigQuiet
import Derived.BigRegion
namespace Go.Proofs.YtkfmkbmlhhdbpaaDoor
open Go.ChangeShapes Go.WideShapes Go.ChangeAt Go.RowKit Go.Joins
set_option linter.unusedVariables false
set_option linter.unusedSimpArgs false

/-- Whether a shape may be. -/
def mayB (s : T3) : Bool := decide (1 ≤ s.1 ∧ s.1 ≤ 8 ∧ 0 ≤ s.2.1 ∧ s.2.1 ≤ 6 ∧ 1 ≤ s.2.2 ∧ s.2.2 ≤ 120)

set_option maxRecDepth 100000 in
set_option maxHeartbeats 400000 in
theorem refNum_any (n k : Int) (w : World) :
    Calls Tryd.prog 23 #[.int .i64 n, .int .i64 k] w fun e w' => e = .returned (.bool (decide (0 ≤ n ∧ n ≤ k))) ∧ w = w' := by
  go_enter Tryd.func23, Tryd.ntmps23
  go_wp2
  all_goals
    go_ret
    refine ⟨?_, rfl⟩
    simp_all <;> omega

set_option maxRecDepth 100000 in
set_option maxHeartbeats 400000 in
theorem refBetween_any (n k m : Int) (w : World) :
    Calls Tryd.prog 9 #[.int .i64 n, .int .i64 k, .int .i64 m] w fun e w' => e = .returned (.bool (decide (k ≤ n ∧ n ≤ m))) ∧ w = w' := by
  go_enter Tryd.func9, Tryd.ntmps9
  go_wp2
  all_goals
    go_ret
    refine ⟨?_, rfl⟩
    simp_all <;> omega

/-- The box of a struct of three numbers. -/
theorem box3_facts (w : World) (a b c : Value) (T : TypeId) :
    Below w.heap.size w (w.alloc (.cells #[a, b, c] T)) ∧ (w.alloc (.cells #[a, b, c] T)).cell? ⟨w.heap.size, 0, none⟩ = some a ∧ (w.alloc (.cells #[a, b, c] T)).cell? ⟨w.heap.size, 1, none⟩ = some b ∧ (w.alloc (.cells #[a, b, c] T)).cell? ⟨w.heap.size, 2, none⟩ = some c ∧ (w.alloc (.cells #[a, b, c] T)).heap.size = w.heap.size + 1 :=
  ⟨(Below.refl _ _).alloc (Nat.le_refl _) _, by simp [go_sem], by simp [go_sem], by simp [go_sem], by simp⟩

def shapeV (s : T3) : Value := .agg #[.int .i64 s.1, .int .i64 s.2.1, .int .i64 s.2.2]

set_option maxRecDepth 100000 in
set_option maxHeartbeats 1000000 in
theorem may_any (k m z : Int) (w : World) :
    Calls Tryd.prog 24 #[.agg #[.int .i64 k, .int .i64 m, .int .i64 z]] w fun e w' => e = .returned (.bool (mayB (k, m, z))) ∧ Below w.heap.size w w' := by
  obtain ⟨hb, h0, h1, h2, hsz⟩ := box3_facts w (.int .i64 k) (.int .i64 m) (.int .i64 z) 31
  go_enter Tryd.func24, Tryd.ntmps24
  go_wp2
  all_goals
    go_ret
    refine ⟨?_, hb⟩
    simp_all [mayB] <;> omega

set_option maxRecDepth 100000 in
set_option maxHeartbeats 1000000 in
theorem refShape_any (k m z : Int) (w : World) :
    Calls Tryd.prog 7 #[.agg #[.int .i64 k, .int .i64 m, .int .i64 z]] w fun e w' => e = .returned (.bool (mayB (k, m, z))) ∧ Below w.heap.size w w' := by
  obtain ⟨hb, h0, h1, h2, hsz⟩ := box3_facts w (.int .i64 k) (.int .i64 m) (.int .i64 z) 31
  go_enter Tryd.func7, Tryd.ntmps7
  go_wp2_with (first
    | (go_at_call 23; refine (refNum_any _ _ _).mono ?_; rintro e w' ⟨rfl, rfl⟩)
    | (go_at_call 9; refine (refBetween_any _ _ _ _).mono ?_; rintro e w' ⟨rfl, rfl⟩))
  all_goals
    go_ret
    refine ⟨?_, hb⟩
    simp_all [mayB] <;> omega

/-- What Heavy of silolaw4 comes to. -/
def HeavyOut4 (S : List T3) (L : List ByteArray) (bs : List Bool) (w : World) (e : Ending) (w' : World) : Prop := ∃ b : Bool, (b = false → total L ≤ 4000 ∧ bs.length ≤ 100 ∧ S.length ≤ 50) ∧ e = .returned (.bool b) ∧ Below w.heap.size w w'

set_option maxRecDepth 100000 in
set_option maxHeartbeats 1000000 in
theorem heavy4_any (c0 c1 c2 : Value) (S : List T3) (L : List ByteArray) (bs : List Bool) (w : World) (hS : ThreesIn w c0 S) (hL : TextsIn w c1 L) (hB : BoolsIn w c2 bs) (hS2 : S.length ≤ 9223372036854775807) :
    Calls Tryd.prog 6 #[.agg #[c0, c1, c2]] w (HeavyOut4 S L bs w) := by
  have hF := box3_facts w c0 c1 c2 26
  have hT := hL.below hF.1
  obtain ⟨A0, k0, rfl⟩ := hS.len
  obtain ⟨A2, k2, rfl, hb2⟩ := hB
  obtain ⟨A1, k1, rfl, h1⟩ := hL
  have hbl := hb2.1
  have HT := Lib.hid hT
  clear hT h1 hb2 hS
  go_enter Tryd.func6, Tryd.ntmps6
  obtain ⟨hbel, hc0, hc1, hc2, hsz⟩ := hF
  go_wp2_with (go_at_call 22; refine (texts_any _ L _ HT.out).mono ?_; rintro e w' ⟨r, hr, hr2, rfl, rfl⟩)
  all_goals
    go_ret
    refine ⟨_, ?_, rfl, hbel⟩
    intro hb
    simp at hb
    try omega

theorem below_cellj {W W' : World} {b j : Nat} {v : Value} (hc : W.cell? ⟨b, j, none⟩ = some v) (hs : W.heap.size = b + 1) (h : Below W.heap.size W W') : W'.cell? ⟨b, j, none⟩ = some v := by
  rw [h.cell (p := ⟨b, j, none⟩) (by show b < _; rw [hs]; omega)]; exact hc

end Go.Proofs.YtkfmkbmlhhdbpaaDoor
