/- What comes in to the laws of lanes: texts, a byte, a number. -/
import Derived.Test.YtdbdpdeehfeaiaaOpen
import Derived.Test.YtdbdpdeehfeaiaaSpoil
namespace Go.Proofs.Ytdbdpdeehfeaiaa
open Go.ChangeShapes Go.WideShapes Go.ChangeAt Go.RowKit Go.Joins
set_option linter.unusedVariables false
set_option linter.unusedSimpArgs false

theorem cellsAsk2 : Try.prog.cellsOf 24 = 3 := by kernel_rfl
theorem cellsStr : Try.prog.cellsOf 9 = 1 := by kernel_rfl
theorem bytesStr : Try.prog.bytesOf 9 = 16 := by kernel_rfl
theorem cellsInt : Try.prog.cellsOf 3 = 1 := by kernel_rfl
theorem cellsByte : Try.prog.cellsOf 5 = 1 := by kernel_rfl
theorem cellsStrs : Try.prog.cellsOf 22 = 1 := by kernel_rfl

theorem i64In {z : Int} (h : (Lit.int .i64 z).wf = true) : -9223372036854775808 ≤ z ∧ z ≤ 9223372036854775807 := by
  simpa [Lit.wf, IntKind.min, IntKind.max, IntKind.signed, IntKind.bits] using h
theorem u8In {z : Int} (h : (Lit.int .u8 z).wf = true) : 0 ≤ z ∧ z ≤ 255 := by
  simpa [Lit.wf, IntKind.min, IntKind.max, IntKind.signed, IntKind.bits] using h

theorem ask2_open {H : Type} {enc : TypeId × Value → H} {W : World} {b0 base : Nat} {r : Reach} {spare : Nat → Bool} {held : Bool} {v : Value} {d : DataW H} {p : List MemPlace}
    (hv : Value.okWide Try.prog W r b0 24 v) (h : DataW.Trod enc Try.prog W base spare held 24 v d p) (hf : Fits Try.prog 24 d) :
    ∃ (vL : Value) (C N : Int) (ss : List ByteArray), v = .agg #[vL, .int .u8 C, .int .i64 N] ∧ TextsIn W vL ss ∧ (0 ≤ C ∧ C ≤ 255) ∧ (-9223372036854775808 ≤ N ∧ N ≤ 9223372036854775807) := by
  obtain ⟨cs, rfl, hsz⟩ := okWide_struct Try.underlying24 hv
  obtain ⟨fuel, h⟩ := h
  obtain ⟨l⟩ := cs
  match l, hsz.trans cellsAsk2 with
  | [c0, c1, c2], _ =>
    obtain ⟨n0, y0, h0, f0⟩ := open_field Try.underlying24 h hf 0 rfl [c0] cellsStrs rfl
    obtain ⟨n1, y1, h1, f1⟩ := open_field Try.underlying24 h hf 1 rfl [c1] cellsByte rfl
    obtain ⟨n2, y2, h2, f2⟩ := open_field Try.underlying24 h hf 2 rfl [c2] cellsInt rfl
    obtain ⟨C, eC, _, bC⟩ := DataW.trod_int Try.underlying5 h1
    obtain ⟨N, eN, _, bN⟩ := DataW.trod_int Try.underlying3 h2
    simp only [List.cons.injEq, and_true] at eC eN
    subst eC eN
    obtain ⟨ss, hL⟩ := textsIn_open Try.underlying22 Try.underlying9 cellsStr bytesStr h0 f0
    exact ⟨_, C, N, ss, rfl, hL, u8In bC, i64In bN⟩

/-- The box of a struct of three cells that came in by value. -/
theorem box3_facts2 (w : World) (v0 v1 v2 : Value) (T : TypeId) :
    Below w.heap.size w (w.alloc (.cells #[v0, v1, v2] T)) ∧ (w.alloc (.cells #[v0, v1, v2] T)).cell? ⟨w.heap.size, 0, none⟩ = some v0 ∧ (w.alloc (.cells #[v0, v1, v2] T)).cell? ⟨w.heap.size, 1, none⟩ = some v1 ∧ (w.alloc (.cells #[v0, v1, v2] T)).cell? ⟨w.heap.size, 2, none⟩ = some v2 ∧ (w.alloc (.cells #[v0, v1, v2] T)).heap.size = w.heap.size + 1 :=
  ⟨(Below.refl _ _).alloc (Nat.le_refl _) _, by simp [go_sem], by simp [go_sem], by simp [go_sem], by simp⟩
theorem TextsIn.below {w w' : World} {v : Value} {ss : List ByteArray} (h : TextsIn w v ss) (hb : Below w.heap.size w w') : TextsIn w' v ss := by
  obtain ⟨p, cap, h1, h2, h3, h4⟩ := h
  exact ⟨p, cap, h1, h2, h3, h4.below hb⟩

set_option maxRecDepth 100000 in
set_option maxHeartbeats 400000 in
theorem heavy2_any (v : Value) (C N : Int) (ss : List ByteArray) (w : World) (h : TextsIn w v ss) :
    Calls Try.prog 11 #[.agg #[v, .int .u8 C, .int .i64 N]] w fun e w' => ∃ b : Bool, (b = false → total ss ≤ 9000) ∧ e = .returned (.bool b) ∧ Below w.heap.size w w' := by
  have hF := box3_facts2 w v (.int .u8 C) (.int .i64 N) 24
  have hT := h.below hF.1
  obtain ⟨p, cap, rfl, h1⟩ := h
  have HT := Lib.hid hT
  have HF := Lib.hid hF.1
  clear hT h1 hF
  go_enter Try.func11, Try.ntmps11
  go_wp2_with (go_at_call 26; refine (texts_any _ ss _ HT.out).mono ?_; rintro e w' ⟨r, hr, hr2, rfl, rfl⟩)
  go_ret
  refine ⟨_, ?_, rfl, HF.out⟩
  intro hb
  simp at hb
  omega
end Go.Proofs.Ytdbdpdeehfeaiaa
