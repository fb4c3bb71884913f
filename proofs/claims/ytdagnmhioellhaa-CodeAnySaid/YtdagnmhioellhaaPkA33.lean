/- What silolaw4.Ask holds, as it comes in. -/
import Derived.Test.YtdagnmhioellhaaPkA20
namespace Go.Proofs.Ytdagnmhioellhaa
open Go.ChangeShapes Go.WideShapes Go.ChangeAt Go.RowKit Go.Joins
set_option linter.unusedVariables false
set_option linter.unusedSimpArgs false

set_option maxRecDepth 100000 in
theorem ask4_fits {H : Type} {enc : TypeId × Value → H} {W : World} {b0 base : Nat} {r : Reach} {spare : Nat → Bool} {held : Bool} {v : Value} {d : DataW H} {p : List MemPlace}
    (hv : Value.okWide Try.prog W r b0 26 v) (h : DataW.Trod enc Try.prog W base spare held 26 v d p) (hf : Fits Try.prog 26 d) :
    ∃ (c0 c1 c2 : Value) (S : List T3) (L : List ByteArray) (bs : List Bool), v = .agg #[c0, c1, c2] ∧ ThreesIn W c0 S ∧ TextsIn W c1 L ∧ BoolsIn W c2 bs ∧ S.length ≤ 9223372036854775807 := by
  obtain ⟨cs, rfl, hsz⟩ := okWide_struct Try.underlying26 hv
  obtain ⟨fuel, h⟩ := h
  obtain ⟨l⟩ := cs
  match l, hsz.trans cellsAsk4 with
  | [x0, x1, x2], _ =>
    obtain ⟨⟨S, hS, hS2, hS3⟩, ⟨L, hL⟩, ⟨Bs, hB⟩⟩ := ask4_open h hf
    exact ⟨_, _, _, S, L, Bs, rfl, hS, hL, hB, hS2⟩
end Go.Proofs.Ytdagnmhioellhaa
