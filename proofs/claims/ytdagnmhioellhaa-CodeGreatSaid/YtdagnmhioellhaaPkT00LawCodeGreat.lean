/- CodeGreat: the law's walk. -/
import Derived.Test.YtdagnmhioellhaaPkA32
import Derived.Test.YtdagnmhioellhaaPkB01
namespace Go.Proofs.Ytdagnmhioellhaa
open Go.ChangeShapes Go.WideShapes Go.ChangeAt Go.RowKit Go.Joins Go.Shelf
set_option linter.unusedVariables false
set_option linter.unusedSimpArgs false

set_option maxRecDepth 100000 in
set_option maxHeartbeats 1000000 in
theorem codeGreat_walk (c0 c1 c2 : Value) (S : List T3) (L : List ByteArray) (bs : List Bool) (w : World) (hS : ThreesIn w c0 S) (hL : TextsIn w c1 L) (hB : BoolsIn w c2 bs) (hS2 : S.length ≤ 9223372036854775807) :
    Calls Try.prog 9 #[.agg #[c0, c1, c2]] w fun e w' => e = .returned (.bool true) ∧ Below w.heap.size w w' := by
  have tA := Three.new w c0 c1 c2 26
  have hbe := (Below.refl w.heap.size w).alloc (Nat.le_refl _) (.cells #[c0, c1, c2] 26)
  have TA := Lib.hid tA
  have HBE := Lib.hid hbe
  have HS := Lib.hid (hS.below hbe)
  have HL := Lib.hid (hL.belowO hbe)
  have HB := Lib.hid (hB.below hbe)
  obtain ⟨A, c, rfl⟩ := hS.len
  obtain ⟨pL, kL, rfl⟩ := hL.row.shape
  obtain ⟨pb, cb, rfl, _⟩ := hB
  obtain ⟨a0, a1, a2, _, _, _⟩ := tA
  clear hbe hS hL
  go_enter Try.func9, Try.ntmps9
  go_wp2_with fail
  refine (of_any _ _ _ S L bs 8 6 2 _ HS.out HL.out HB.out (fun W' d0 d1 d2 h0 h1 h2 => codeRebuilds_walk d0 d1 d2 [(8, 6, 2)] L bs W' h0 h1 h2 (by simp))).mono ?_
  rintro e w1 ⟨rfl, hb1⟩
  have hfin := HBE.out.trans (hb1.mono HBE.out.size)
  clear hb1
  go_wp2_with fail
  go_ret
  exact ⟨rfl, hfin⟩
end Go.Proofs.Ytdagnmhioellhaa
