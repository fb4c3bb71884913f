/- lane.Zero; whether the laws of lanes wake. -/
import Derived.Test.YtdbdpdeehfeaiaaLaneI
namespace Go.Proofs.Ytdbdpdeehfeaiaa
open Go.ChangeShapes Go.WideShapes Go.ChangeAt Go.RowKit Go.Joins
set_option linter.unusedVariables false
set_option linter.unusedSimpArgs false

set_option maxRecDepth 100000 in
set_option maxHeartbeats 400000 in
theorem wakes2_any (w : World) :
    Calls Try.prog 10 #[] w fun e w' => e = .returned (.bool true) ∧ Below w.heap.size w w' := by
  have h : scaledS ⟨#[2]⟩ 128 = ⟨#[29]⟩ := by kernel_rfl
  have H := Lib.hid h
  clear h
  go_enter Try.func10, Try.ntmps10
  go_wp2_with fail
  refine (scale_yes ⟨#[2]⟩ 128 _ (by decide) (by decide)).mono ?_
  rintro e w1 ⟨rfl, hb⟩
  rw [H.out]
  go_wp2_with (go_at_call 9; refine (num2_any _ _).mono ?_; rintro e w' ⟨rfl, rfl⟩)
  go_ret
  exact ⟨rfl, hb⟩

set_option maxRecDepth 100000 in
set_option maxHeartbeats 400000 in
theorem zero_yes (n : Nat) (w : World) (hn : n ≤ 8192) :
    Calls Try.prog 22 #[.int .i64 (n : Int)] w fun e w' => e = .returned (.tuple #[.string (zeroS n), .int .i64 0]) ∧ Below w.heap.size w w' := by
  have h1 : decide ((n : Int) < 0) = false := by simp
  have h2 : decide ((8192 : Int) < (n : Int)) = false := by simp; omega
  go_enter Try.func22, Try.ntmps22
  go_wp2_with fail
  refine (repeat_any n _ (by omega)).mono ?_
  rintro e w1 ⟨rfl, hb⟩
  go_wp2_with fail
  go_ret2
  exact ⟨rfl, hb⟩

set_option maxRecDepth 100000 in
set_option maxHeartbeats 400000 in
theorem zero_no (n : Int) (w : World) (hn : n < 0 ∨ 8192 < n) :
    Calls Try.prog 22 #[.int .i64 n] w fun e w' => e = .returned (.tuple #[.string ⟨#[]⟩, .int .i64 1]) ∧ Below w.heap.size w w' := by
  by_cases h0 : n < 0
  · have h1 : decide (n < 0) = true := decide_eq_true h0
    go_enter Try.func22, Try.ntmps22
    go_wp2_with fail
    go_ret2
    exact ⟨rfl, Below.refl _ _⟩
  · have h1 : decide (n < 0) = false := decide_eq_false h0
    have h2 : decide ((8192 : Int) < n) = true := decide_eq_true (by omega)
    go_enter Try.func22, Try.ntmps22
    go_wp2_with fail
    go_ret2
    exact ⟨rfl, Below.refl _ _⟩
end Go.Proofs.Ytdbdpdeehfeaiaa
