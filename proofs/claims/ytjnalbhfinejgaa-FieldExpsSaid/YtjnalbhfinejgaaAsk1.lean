/- What comes in to the laws of the field: a struct of bytes and numbers, opened. -/
import Derived.Test.YtjnalbhfinejgaaClose
namespace Go.Proofs.Ytjnalbhfinejgaa
open Go.ChangeShapes Go.WideShapes Go.ChangeAt Go.RowKit Go.Joins

theorem cellsAsk : Try.prog.cellsOf 25 = 2 := by kernel_rfl
theorem cellsU8 : Try.prog.cellsOf 5 = 1 := by kernel_rfl
theorem cellsInt : Try.prog.cellsOf 3 = 1 := by kernel_rfl

theorem ask1_open {H : Type} {enc : TypeId × Value → H} {W : World} {b0 base : Nat} {r : Reach} {spare : Nat → Bool} {held : Bool} {v : Value} {d : DataW H} {p : List MemPlace}
    (hv : Value.okWide Try.prog W r b0 25 v) (h : DataW.Trod enc Try.prog W base spare held 25 v d p) :
    ∃ vB vN ns zs, v = .agg #[vB, vN] ∧ BytesIn W vB ns ∧ NumsIn W vN zs := by
  obtain ⟨v0, v1, y0, y1, n, rfl, _, _, h0, h1⟩ := open_agg2 Try.underlying25 (by kernel_rfl) cellsAsk hv h
  obtain ⟨ns, hB⟩ := bytesIn_open Try.underlying22 Try.underlying5 cellsU8 h0
  obtain ⟨zs, hN⟩ := numsIn_open Try.underlying23 Try.underlying3 cellsInt h1
  exact ⟨v0, v1, ns, zs, rfl, hB, hN⟩
end Go.Proofs.Ytjnalbhfinejgaa
