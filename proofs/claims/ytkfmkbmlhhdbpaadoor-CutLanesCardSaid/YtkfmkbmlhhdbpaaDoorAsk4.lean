/- What comes in to many laws: shapes, texts and truths. -/
import Derived.Test.YtkfmkbmlhhdbpaaDoorOpen
namespace Go.Proofs.YtkfmkbmlhhdbpaaDoor
open Go.ChangeShapes Go.WideShapes Go.ChangeAt Go.RowKit Go.Joins
set_option linter.unusedVariables false
set_option linter.unusedSimpArgs false

theorem cellsStr : Tryd.prog.cellsOf 9 = 1 := by kernel_rfl
theorem bytesStr : Tryd.prog.bytesOf 9 = 16 := by kernel_rfl
theorem cellsBool : Tryd.prog.cellsOf 4 = 1 := by kernel_rfl
theorem cellsInt : Tryd.prog.cellsOf 3 = 1 := by kernel_rfl
theorem cellsShape : Tryd.prog.cellsOf 31 = 3 := by kernel_rfl
theorem cellsAsk4 : Tryd.prog.cellsOf 26 = 3 := by kernel_rfl
theorem cellsShapes : Tryd.prog.cellsOf 22 = 1 := by kernel_rfl
theorem cellsStrs : Tryd.prog.cellsOf 23 = 1 := by kernel_rfl
theorem cellsBools : Tryd.prog.cellsOf 24 = 1 := by kernel_rfl

def i64Ok (z : Int) : Prop := -9223372036854775808 ≤ z ∧ z ≤ 9223372036854775807
theorem i64Ok_of {z : Int} (h : (Lit.int .i64 z).wf = true) : i64Ok z := by
  simpa [i64Ok, Lit.wf, IntKind.min, IntKind.max, IntKind.signed, IntKind.bits] using h

theorem ask4_open {H : Type} {enc : TypeId × Value → H} {W : World} {base fuel : Nat} {spare : Nat → Bool} {held : Bool} {c0 c1 c2 : Value} {x : DataW H × List MemPlace}
    (h : DataW.trod enc Tryd.prog W base spare held fuel 26 [c0, c1, c2] = some x) (hf : Fits Tryd.prog 26 x.1) :
    (∃ l, ThreesIn W c0 l ∧ l.length ≤ 9223372036854775807 ∧ ∀ s ∈ l, i64Ok s.1 ∧ i64Ok s.2.1 ∧ i64Ok s.2.2) ∧ (∃ ss, TextsIn W c1 ss) ∧ (∃ bs, BoolsIn W c2 bs) := by
  obtain ⟨n0, y0, h0, f0⟩ := open_field Tryd.underlying26 h hf 0 rfl [c0] cellsShapes rfl
  obtain ⟨n1, y1, h1, f1⟩ := open_field Tryd.underlying26 h hf 1 rfl [c1] cellsStrs rfl
  obtain ⟨n2, y2, h2, f2⟩ := open_field Tryd.underlying26 h hf 2 rfl [c2] cellsBools rfl
  obtain ⟨l, hl, hl2, hl3, _⟩ := threesIn_open Tryd.underlying22 Tryd.underlying31 cellsShape Tryd.underlying3 Tryd.underlying3 Tryd.underlying3 rfl rfl rfl cellsInt cellsInt cellsInt h0
  obtain ⟨ss, hS⟩ := textsIn_open Tryd.underlying23 Tryd.underlying9 cellsStr bytesStr h1 f1
  obtain ⟨bs, hB⟩ := boolsIn_open Tryd.underlying24 Tryd.underlying4 cellsBool h2
  exact ⟨⟨l, hl, hl2, fun s hs => ⟨i64Ok_of (hl3 s hs).1, i64Ok_of (hl3 s hs).2.1, i64Ok_of (hl3 s hs).2.2⟩⟩, ⟨ss, hS⟩, ⟨bs, hB⟩⟩

theorem ThreesIn.below {w w' : World} {v : Value} {l : List T3} (h : ThreesIn w v l) (hb : Below w.heap.size w w') : ThreesIn w' v l := RowIs.below h hb
theorem ThreesIn.len {w : World} {v : Value} {l : List T3} (h : ThreesIn w v l) : ∃ A c, v = .slice A l.length c := by
  obtain ⟨_, A, c, rfl, _⟩ := h
  exact ⟨A, c, rfl⟩
theorem TextsIn.below {w w' : World} {v : Value} {ss : List ByteArray} (h : TextsIn w v ss) (hb : Below w.heap.size w w') : TextsIn w' v ss := by
  obtain ⟨p, cap, h1, h2, h3, h4⟩ := h
  exact ⟨p, cap, h1, h2, h3, h4.below hb⟩
end Go.Proofs.YtkfmkbmlhhdbpaaDoor
