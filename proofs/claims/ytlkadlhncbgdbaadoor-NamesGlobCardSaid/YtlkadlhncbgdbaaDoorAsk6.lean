/- What comes in to the laws of sums and digests: a struct of texts, opened; whether it is too much. -/
import Derived.Test.YtlkadlhncbgdbaaDoorSpoil
namespace Go.Proofs.YtlkadlhncbgdbaaDoor
open Go.ChangeShapes Go.WideShapes Go.ChangeAt Go.RowKit Go.Joins
set_option linter.unusedVariables false
set_option linter.unusedSimpArgs false

theorem cellsAsk6 : Tryd.prog.cellsOf 24 = 1 := by kernel_rfl
theorem cellsStr : Tryd.prog.cellsOf 9 = 1 := by kernel_rfl
theorem bytesStr : Tryd.prog.bytesOf 9 = 16 := by kernel_rfl

theorem ask6_open {H : Type} {enc : TypeId × Value → H} {W : World} {b0 base : Nat} {r : Reach} {spare : Nat → Bool} {held : Bool} {v : Value} {d : DataW H} {p : List MemPlace}
    (hv : Value.okWide Tryd.prog W r b0 24 v) (h : DataW.Trod enc Tryd.prog W base spare held 24 v d p) (hf : Fits Tryd.prog 24 d) :
    ∃ vS ss, v = .agg #[vS] ∧ TextsIn W vS ss := by
  obtain ⟨v0, y0, n, rfl, rfl, h0⟩ := open_agg1 Tryd.underlying24 (by kernel_rfl) cellsAsk6 hv h
  obtain ⟨ss, hS⟩ := textsIn_open Tryd.underlying22 Tryd.underlying9 cellsStr bytesStr h0 (fits_field Tryd.underlying24 hf (j := 0) rfl rfl)
  exact ⟨v0, ss, rfl, hS⟩

/-- The box of a struct of one cell that came in by value. -/
theorem box1_facts (w : World) (v0 : Value) (T : TypeId) :
    Below w.heap.size w (w.alloc (.cells #[v0] T)) ∧ (w.alloc (.cells #[v0] T)).cell? ⟨w.heap.size, 0, none⟩ = some v0 ∧ (w.alloc (.cells #[v0] T)).heap.size = w.heap.size + 1 :=
  ⟨(Below.refl _ _).alloc (Nat.le_refl _) _, by simp [go_sem], by simp⟩

theorem TextsIn.below {w w' : World} {v : Value} {ss : List ByteArray} (h : TextsIn w v ss) (hb : Below w.heap.size w w') : TextsIn w' v ss := by
  obtain ⟨p, cap, h1, h2, h3, h4⟩ := h
  exact ⟨p, cap, h1, h2, h3, h4.below hb⟩

/-- What Heavy comes to. -/
def HeavyOut (ss : List ByteArray) (w : World) (e : Ending) (w' : World) : Prop := ∃ b : Bool, (b = false → total ss ≤ 6000) ∧ e = .returned (.bool b) ∧ Below w.heap.size w w'

set_option maxRecDepth 100000 in
set_option maxHeartbeats 400000 in
theorem heavy6_any (v : Value) (ss : List ByteArray) (w : World) (h : TextsIn w v ss) :
    Calls Tryd.prog 13 #[.agg #[v]] w (HeavyOut ss w) := by
  have hF := box1_facts w v 24
  have hT := h.below hF.1
  obtain ⟨p, cap, rfl, h1⟩ := h
  have HT := Lib.hid hT
  have HF := Lib.hid hF.1
  clear hT h1 hF
  go_enter Tryd.func13, Tryd.ntmps13
  go_wp2_with (go_at_call 12; refine (texts_any _ ss _ HT.out).mono ?_; rintro e w' ⟨r, hr, hr2, rfl, rfl⟩)
  go_ret
  refine ⟨_, ?_, rfl, HF.out⟩
  intro hb
  simp at hb
  omega
end Go.Proofs.YtlkadlhncbgdbaaDoor
