/- What comes in to the laws of spans: shapes, texts and truths, three numbers, parts. -/
import Derived.Test.YtgbgignnjpcncaaAsk4
namespace Go.Proofs.Ytgbgignnjpcncaa
open Go.ChangeShapes Go.WideShapes Go.ChangeAt Go.RowKit Go.Joins
set_option linter.unusedVariables false
set_option linter.unusedSimpArgs false

theorem cellsPart : Try.prog.cellsOf 54 = 3 := by kernel_rfl
theorem cellsAsk8 : Try.prog.cellsOf 29 = 7 := by kernel_rfl
theorem cellsParts : Try.prog.cellsOf 27 = 1 := by kernel_rfl

/-- What a struct of shapes, texts, truths, numbers and parts holds. -/
structure Ask8 (W : World) (cS cL cB cP : Value) (N A B : Int) (S : List T3) (L : List ByteArray) (Bs : List Bool) (P : List T3) : Prop where
  hS : ThreesIn W cS S
  hS2 : S.length ≤ 9223372036854775807
  hS3 : ∀ s ∈ S, i64Ok s.1 ∧ i64Ok s.2.1 ∧ i64Ok s.2.2
  hL : TextsIn W cL L
  hB : BoolsIn W cB Bs
  hN : i64Ok N
  hA : i64Ok A
  hB' : i64Ok B
  hP : ThreesIn W cP P
  hP2 : P.length ≤ 9223372036854775807
  hP3 : ∀ s ∈ P, i64Ok s.1 ∧ i64Ok s.2.1 ∧ i64Ok s.2.2
  hP4 : ∃ A c, cP = .slice A P.length c ∧ P.length ≤ c

theorem Ask8.below {W W' : World} {cS cL cB cP : Value} {N A B : Int} {S : List T3} {L : List ByteArray} {Bs : List Bool} {P : List T3} (q : Ask8 W cS cL cB cP N A B S L Bs P) (hb : Below W.heap.size W W') : Ask8 W' cS cL cB cP N A B S L Bs P :=
  ⟨q.hS.below hb, q.hS2, q.hS3, q.hL.below hb, q.hB.below hb, q.hN, q.hA, q.hB', q.hP.below hb, q.hP2, q.hP3, q.hP4⟩

theorem ask8_open {H : Type} {enc : TypeId × Value → H} {W : World} {b0 base : Nat} {r : Reach} {spare : Nat → Bool} {held : Bool} {v : Value} {d : DataW H} {p : List MemPlace}
    (hv : Value.okWide Try.prog W r b0 29 v) (h : DataW.Trod enc Try.prog W base spare held 29 v d p) (hf : Fits Try.prog 29 d) :
    ∃ cS cL cB N A B cP, v = .agg #[cS, cL, cB, .int .i64 N, .int .i64 A, .int .i64 B, cP] ∧ ∃ S L Bs P, Ask8 W cS cL cB cP N A B S L Bs P := by
  obtain ⟨cs, rfl, hsz⟩ := okWide_struct Try.underlying29 hv
  obtain ⟨fuel, h⟩ := h
  obtain ⟨l⟩ := cs
  match l, hsz.trans cellsAsk8 with
  | [c0, c1, c2, c3, c4, c5, c6], _ =>
    obtain ⟨n0, y0, h0, f0⟩ := open_field Try.underlying29 h hf 0 rfl [c0, c1, c2] cellsAsk4 rfl
    obtain ⟨n1, y1, h1, f1⟩ := open_field Try.underlying29 h hf 1 rfl [c3] cellsInt rfl
    obtain ⟨n2, y2, h2, f2⟩ := open_field Try.underlying29 h hf 2 rfl [c4] cellsInt rfl
    obtain ⟨n3, y3, h3, f3⟩ := open_field Try.underlying29 h hf 3 rfl [c5] cellsInt rfl
    obtain ⟨n4, y4, h4, f4⟩ := open_field Try.underlying29 h hf 4 rfl [c6] cellsParts rfl
    obtain ⟨⟨S, hS, hS2, hS3⟩, ⟨L, hL⟩, ⟨Bs, hB⟩⟩ := ask4_open h0 f0
    obtain ⟨N, eN, _, bN⟩ := DataW.trod_int Try.underlying3 h1
    obtain ⟨A, eA, _, bA⟩ := DataW.trod_int Try.underlying3 h2
    obtain ⟨B, eB, _, bB⟩ := DataW.trod_int Try.underlying3 h3
    simp only [List.cons.injEq, and_true] at eN eA eB
    subst eN eA eB
    obtain ⟨Ps, hP, hP2, hP3, hP4⟩ := threesIn_open Try.underlying27 Try.underlying54 cellsPart Try.underlying3 Try.underlying3 Try.underlying3 rfl rfl rfl cellsInt cellsInt cellsInt h4
    exact ⟨_, _, _, N, A, B, _, rfl, S, L, Bs, Ps, hS, hS2, hS3, hL, hB, i64Ok_of bN, i64Ok_of bA, i64Ok_of bB, hP, hP2, fun s hs => ⟨i64Ok_of (hP3 s hs).1, i64Ok_of (hP3 s hs).2.1, i64Ok_of (hP3 s hs).2.2⟩, hP4⟩
end Go.Proofs.Ytgbgignnjpcncaa
