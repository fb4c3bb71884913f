/- The program's mix, walked. -/
import Derived.Test.YtnpngkbcfkolnaaDigA
namespace Go.Proofs.Ytnpngkbcfkolnaa
open Go.ChangeShapes Go.WideShapes Go.ChangeAt Go.RowKit Go.Joins
set_option linter.unusedVariables false
set_option linter.unusedSimpArgs false
attribute [local go_sem ↓] Go.wp_at_zero Go.wp_at_succ

set_option maxRecDepth 100000 in
set_option maxHeartbeats 4000000 in
theorem mix_any (g : Nat) (vs : List Int) (a b c d : Nat) (va vb vc vd x y : Int) (w : World) (hv : Four w vs w g a b c d va vb vc vd) (hx : 0 ≤ x ∧ x < 4294967296) (hy : 0 ≤ y ∧ y < 4294967296) :
    Calls Try.prog 36 #[.pointer (some ⟨g, 0, none⟩), .agg #[.int .i64 (a : Int), .int .i64 (b : Int), .int .i64 (c : Int), .int .i64 (d : Int)], .int .u32 x, .int .u32 y] w (MixOut vs w g a b c d va vb vc vd x y) := by
  unfold MixOut
  obtain ⟨a1, d1, c1, b1, a2, d2, c2, b2, hm, hbd⟩ := mixV_open va vb vc vd x y
  rw [hm]; dsimp only
  obtain ⟨E1, E2, E3, E4, E5, E6, E7, E8, n1, n2, n3, n4, n5, n6, n7, n8, m1, m2, m3, m4, m5, m6, m7, m8⟩ := hbd
  clear hm
  obtain ⟨h1, h2, h3, h4, f1, f2, f3, f4⟩ := hv.facts
  obtain ⟨o1, o2, o3, o4⟩ := hv.ord
  obtain ⟨q1, q2, q3, q4, q5, q6, q7, q8⟩ := hv.bd
  have i1 : (0:Int) ≤ (a : Int) := by omega
  have i2 : (a:Int) < 16 := by omega
  have i3 : (0:Int) ≤ (b : Int) := by omega
  have i4 : (b:Int) < 16 := by omega
  have i5 : (0:Int) ≤ (c : Int) := by omega
  have i6 : (c:Int) < 16 := by omega
  have i7 : (0:Int) ≤ (d : Int) := by omega
  have i8 : (d:Int) < 16 := by omega
  have HF := Lib.hid hv
  clear hv
  go_enter Try.func36, Try.ntmps36
  go_wp2_with fail
  have HF0 := Lib.hid (HF.out.alloc (.cells #[.int .i64 (a : Int), .int .i64 (b : Int), .int .i64 (c : Int), .int .i64 (d : Int)] 62))
  clear h1 h2 h3 h4 f1 f2 f3 f4 HF
  go_quiet (fail)
  have HF := Lib.hid (HF0.out.drewN nq)
  clear HF0
  generalize World.drewN _ nq = wq at *
  obtain ⟨h1, h2, h3, h4, f1, f2, f3, f4⟩ := HF.out.facts
  go_upto_region 2 with (fail)
  go_cut [] from 20 to 139 (fun wx => Hid (Four w vs wx g a b c d a1 vb vc vd))
  case first =>
    go_still_tail 15, (by kernel_rfl)
    change wpList _ _ _ _ _ (World.drew _)
    go_wp2_with fail
    go_meet
    exact mix_end (HF.out.setA a1 ⟨by omega, by omega⟩) (by first | (rw [E1.out]; done) | (rw [E1.out]; omega)) ⟨_, rfl⟩
  case rest =>
  clear h1 h2 h3 h4 f1 f2 f3 f4 HF
  have HF := hcut
  clear hcut
  obtain ⟨h1, h2, h3, h4, f1, f2, f3, f4⟩ := HF.out.facts
  go_upto_region 3 with (fail)
  go_cut [] from 20 to 139 (fun wx => Hid (Four w vs wx g a b c d a1 vb vc d1))
  case first =>
    go_region_with (first | (go_at_call 40; refine (rotl16_any _ _ (xor_bd _ _)).mono ?_; rintro e w' ⟨rfl, n, rfl⟩))
    all_goals
      go_wp2_with fail
      go_meet
      exact mix_end (HF.out.setD d1 ⟨by omega, by omega⟩) (by first | (rw [E2.out]; done) | (rw [E2.out]; omega)) ⟨_, rfl⟩
  case rest =>
  clear h1 h2 h3 h4 f1 f2 f3 f4 HF
  have HF := hcut
  clear hcut
  obtain ⟨h1, h2, h3, h4, f1, f2, f3, f4⟩ := HF.out.facts
  go_upto_region 4 with (fail)
  go_cut [] from 20 to 139 (fun wx => Hid (Four w vs wx g a b c d a1 vb c1 d1))
  case first =>
    go_still_tail 13, (by kernel_rfl)
    change wpList _ _ _ _ _ (World.drew _)
    go_wp2_with fail
    go_meet
    exact mix_end (HF.out.setC c1 ⟨by omega, by omega⟩) (by first | (rw [E3.out]; done) | (rw [E3.out]; omega)) ⟨_, rfl⟩
  case rest =>
  clear h1 h2 h3 h4 f1 f2 f3 f4 HF
  have HF := hcut
  clear hcut
  obtain ⟨h1, h2, h3, h4, f1, f2, f3, f4⟩ := HF.out.facts
  go_upto_region 5 with (fail)
  go_cut [] from 20 to 139 (fun wx => Hid (Four w vs wx g a b c d a1 b1 c1 d1))
  case first =>
    go_region_with (first | (go_at_call 40; refine (rotl12_any _ _ (xor_bd _ _)).mono ?_; rintro e w' ⟨rfl, n, rfl⟩))
    all_goals
      go_wp2_with fail
      go_meet
      exact mix_end (HF.out.setB b1 ⟨by omega, by omega⟩) (by first | (rw [E4.out]; done) | (rw [E4.out]; omega)) ⟨_, rfl⟩
  case rest =>
  clear h1 h2 h3 h4 f1 f2 f3 f4 HF
  have HF := hcut
  clear hcut
  obtain ⟨h1, h2, h3, h4, f1, f2, f3, f4⟩ := HF.out.facts
  go_upto_region 6 with (fail)
  go_cut [] from 20 to 139 (fun wx => Hid (Four w vs wx g a b c d a2 b1 c1 d1))
  case first =>
    go_still_tail 15, (by kernel_rfl)
    change wpList _ _ _ _ _ (World.drew _)
    go_wp2_with fail
    go_meet
    exact mix_end (HF.out.setA a2 ⟨by omega, by omega⟩) (by first | (rw [E5.out]; done) | (rw [E5.out]; omega)) ⟨_, rfl⟩
  case rest =>
  clear h1 h2 h3 h4 f1 f2 f3 f4 HF
  have HF := hcut
  clear hcut
  obtain ⟨h1, h2, h3, h4, f1, f2, f3, f4⟩ := HF.out.facts
  go_upto_region 7 with (fail)
  go_cut [] from 20 to 139 (fun wx => Hid (Four w vs wx g a b c d a2 b1 c1 d2))
  case first =>
    go_region_with (first | (go_at_call 40; refine (rotl8_any _ _ (xor_bd _ _)).mono ?_; rintro e w' ⟨rfl, n, rfl⟩))
    all_goals
      go_wp2_with fail
      go_meet
      exact mix_end (HF.out.setD d2 ⟨by omega, by omega⟩) (by first | (rw [E6.out]; done) | (rw [E6.out]; omega)) ⟨_, rfl⟩
  case rest =>
  clear h1 h2 h3 h4 f1 f2 f3 f4 HF
  have HF := hcut
  clear hcut
  obtain ⟨h1, h2, h3, h4, f1, f2, f3, f4⟩ := HF.out.facts
  go_upto_region 8 with (fail)
  go_cut [] from 20 to 139 (fun wx => Hid (Four w vs wx g a b c d a2 b1 c2 d2))
  case first =>
    go_still_tail 13, (by kernel_rfl)
    change wpList _ _ _ _ _ (World.drew _)
    go_wp2_with fail
    go_meet
    exact mix_end (HF.out.setC c2 ⟨by omega, by omega⟩) (by first | (rw [E7.out]; done) | (rw [E7.out]; omega)) ⟨_, rfl⟩
  case rest =>
  clear h1 h2 h3 h4 f1 f2 f3 f4 HF
  have HF := hcut
  clear hcut
  obtain ⟨h1, h2, h3, h4, f1, f2, f3, f4⟩ := HF.out.facts
  go_upto_region 9 with (fail)
  go_region_with (first | (go_at_call 40; refine (rotl7_any _ _ (xor_bd _ _)).mono ?_; rintro e w' ⟨rfl, n, rfl⟩))
  all_goals
    go_wp2_with fail
    go_end0
    exact ⟨rfl, (mix_end (HF.out.setB b2 ⟨by omega, by omega⟩) (by first | (rw [E8.out]; done) | (rw [E8.out]; omega)) ⟨_, rfl⟩).out⟩
end Go.Proofs.Ytnpngkbcfkolnaa
