/- silolaw4.of, walked: one shape alone. -/
import Derived.Test.YtdagnmhioellhaaPkB00
namespace Go.Proofs.Ytdagnmhioellhaa
open Go.ChangeShapes Go.WideShapes Go.ChangeAt Go.RowKit Go.Joins
set_option linter.unusedVariables false
set_option linter.unusedSimpArgs false

theorem TextsIn.belowO {w w' : World} {v : Value} {ss : List ByteArray} (h : TextsIn w v ss) (hb : Below w.heap.size w w') : TextsIn w' v ss := by
  obtain ⟨p, cap, e, h1, h2, h3⟩ := h
  exact ⟨p, cap, e, h1, h2, h3.below hb⟩
set_option maxRecDepth 100000 in
set_option maxHeartbeats 1000000 in
theorem of_any (c0 c1 c2 : Value) (S : List T3) (L : List ByteArray) (bs : List Bool) (k m z : Int) (w : World) (hS : ThreesIn w c0 S) (hL : TextsIn w c1 L) (hB : BoolsIn w c2 bs)
    (hreb : ∀ (W : World) (d0 d1 d2 : Value), ThreesIn W d0 [(k, m, z)] → TextsIn W d1 L → BoolsIn W d2 bs → Calls Try.prog 5 #[.agg #[d0, d1, d2]] W fun e w' => e = .returned (.bool true) ∧ Below W.heap.size W w') :
    Calls Try.prog 32 #[.agg #[c0, c1, c2], .agg #[.int .i64 k, .int .i64 m, .int .i64 z]] w fun e w' => e = .returned (.bool true) ∧ Below w.heap.size w w' := by
  have HL := Lib.hid hL
  have HB := Lib.hid hB
  have HR := Lib.hid hreb
  obtain ⟨A, c, rfl⟩ := hS.len
  obtain ⟨pL, kL, rfl⟩ := hL.row.shape
  obtain ⟨pb, cb, rfl, _⟩ := hB
  clear hS hL hreb
  obtain ⟨o1, ho1⟩ : ∃ o, o = (Obj.cells #[.slice A S.length c, .slice pL L.length kL, .slice pb bs.length cb] 26) := ⟨_, rfl⟩
  obtain ⟨o2, ho2⟩ : ∃ o, o = (Obj.cells #[.int .i64 k, .int .i64 m, .int .i64 z] 29) := ⟨_, rfl⟩
  obtain ⟨o3, ho3⟩ : ∃ o, o = (Obj.cells #[.slice (some ⟨w.heap.size + 1 + 1 + 1, 0, none⟩) 1 1, .slice pL L.length kL, .slice pb bs.length cb] 26) := ⟨_, rfl⟩
  have hbe : Below w.heap.size w ((((w.alloc o1).alloc o2).alloc o3).alloc o2) := ((((Below.refl w.heap.size w).alloc (Nat.le_refl _) o1).alloc (by simp) o2).alloc (by simp; omega) o3).alloc (by simp; omega) o2
  have hrow := lit_row (((w.alloc o1).alloc o2).alloc o3) #[.int .i64 k, .int .i64 m, .int .i64 z] 29 1 3 1 rfl
  rw [← ho2] at hrow
  rw [World.size_alloc, World.size_alloc, World.size_alloc] at hrow
  have t5 := ((Three.new ((w.alloc o1).alloc o2) (.slice (some ⟨w.heap.size + 1 + 1 + 1, 0, none⟩) 1 1) (.slice pL L.length kL) (.slice pb bs.length cb) 26))
  rw [← ho3] at t5
  rw [World.size_alloc, World.size_alloc] at t5
  have t5 := t5.alloc o2
  have HT5 := Lib.hid t5
  have HBE := Lib.hid hbe
  have HRW : Hid (ThreesIn ((((w.alloc o1).alloc o2).alloc o3).alloc o2) (.slice (some ⟨w.heap.size + 1 + 1 + 1, 0, none⟩) 1 1) [(k, m, z)]) := hrow
  have HLx := Lib.hid (HL.out.belowO hbe)
  have HBx := Lib.hid (HB.out.below hbe)
  clear t5 hbe hrow
  go_enter Try.func32, Try.ntmps32
  go_wp2_with fail
  rw [← ho1, ← ho2, ← ho3]
  clear ho1 ho2 ho3
  generalize (((w.alloc o1).alloc o2).alloc o3).alloc o2 = W at *
  refine (codeEncodes_walk _ _ _ [(k, m, z)] L bs W HRW.out HLx.out HBx.out (by simp)).mono ?_
  rintro e w1 ⟨rfl, hb1⟩
  have HT5a := Lib.hid (HT5.out.below hb1)
  have HRWa := Lib.hid (HRW.out.below hb1)
  have HLa := Lib.hid (HLx.out.belowO hb1)
  have HBa := Lib.hid (HBx.out.below hb1)
  have HB1 := Lib.hid (HBE.out.trans (hb1.mono HBE.out.size))
  obtain ⟨x0, x1, x2, _, _, _⟩ := HT5a.out
  clear hb1
  go_wp2_with fail
  refine (HR.out w1 _ _ _ HRWa.out HLa.out HBa.out).mono ?_
  rintro e w2 ⟨rfl, hb2⟩
  have HB2 := Lib.hid (HB1.out.trans (hb2.mono HB1.out.size))
  clear hb2
  go_wp2_with fail
  go_ret
  exact ⟨rfl, HB2.out⟩
end Go.Proofs.Ytdagnmhioellhaa
