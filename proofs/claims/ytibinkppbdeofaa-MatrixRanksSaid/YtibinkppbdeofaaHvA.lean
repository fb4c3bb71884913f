/- Heavy and wakes of the laws of matrices, walked. -/
import Derived.Test.YtibinkppbdeofaaAsk3
import Derived.Test.YtibinkppbdeofaaMxC
namespace Go.Proofs.Ytibinkppbdeofaa
open Go.ChangeShapes Go.WideShapes Go.ChangeAt Go.RowKit Go.Joins Go.Shelf
set_option linter.unusedVariables false
set_option linter.unusedSimpArgs false

theorem textsIn_below {w w' : World} {v : Value} {ss : List ByteArray} (h : TextsIn w v ss) (hb : Below w.heap.size w w') : TextsIn w' v ss := by
  obtain ⟨p, cap, h1, h2, h3, h4⟩ := h
  exact ⟨p, cap, h1, h2, h3, h4.below hb⟩

def SomeB (e : Ending) : Prop := ∃ b : Bool, e = .returned (.bool b)

set_option maxRecDepth 100000 in
set_option maxHeartbeats 2000000 in
/-- Heavy ends, whatever it says. -/
theorem heavy3_weak (vM vN vL : Value) (l : List M3) (zs : List Int) (ss : List ByteArray) (w : World) (hM : MatsIn w vM l) (hN : NumsIn w vN zs) (hL : TextsIn w vL ss) :
    Calls Try.prog 9 #[.agg #[vM, vN, vL]] w fun e w' => SomeB e ∧ Below w.heap.size w w' := by
  have tA := Three.new w vM vN vL 26
  have hbe := (Below.refl w.heap.size w).alloc (Nat.le_refl _) (.cells #[vM, vN, vL] 26)
  have TA := Lib.hid tA
  have HBE := Lib.hid hbe
  have HM := Lib.hid (hM.below hbe)
  have HT := Lib.hid (textsIn_below hL hbe)
  obtain ⟨zp, zc, zl, rfl⟩ : ∃ p c n, vN = .slice p n c := by
    rcases hN.2 with ⟨_, p, c, rfl⟩ | ⟨b, o, c, rfl, _⟩
    · exact ⟨_, _, _, rfl⟩
    · exact ⟨_, _, _, rfl⟩
  obtain ⟨A, c, rfl, hll, _⟩ := hM
  obtain ⟨pL, kL, rfl, _⟩ := hL
  clear tA hbe hN
  go_enter Try.func9, Try.ntmps9
  go_upto_region 1 with (fail)
  generalize w.alloc (.cells #[.slice A l.length c, .slice zp zl zc, .slice pL ss.length kL] 26) = W0 at *
  obtain ⟨a0, a1, a2, _, _, _⟩ := TA.out
  go_region_held3 (fun W' => W'.cell? ⟨w.heap.size, 0, none⟩ = some (.slice A l.length c) ∧ W'.cell? ⟨w.heap.size, 1, none⟩ = some (.slice zp zl zc) ∧ W'.cell? ⟨w.heap.size, 2, none⟩ = some (.slice pL ss.length kL)) (go_keep)
    (first | (go_at_call 37; refine (texts_any _ ss _ (textsIn_below HT.out (Below.drew (Below.refl _ _)))).mono ?_; rintro e w' ⟨r, hr, hr2, rfl, rfl⟩))
  clear hr hr2
  go_wp2_with fail
  go_loopw [3, 4] (fun nn ii wr => ∃ (i : Nat) (z : Int), ii = .int .i64 i ∧ nn = .int .i64 z ∧ i ≤ l.length ∧ wr = W0.drew) (fun _ ii _ => l.length - (intOf ii).toNat)
  case atStart => exact ⟨0, _, rfl, rfl, by omega, rfl⟩
  case round =>
    obtain ⟨i, z, rfl, rfl, hi, rfl⟩ := hrel
    by_cases hlt : i < l.length
    · obtain ⟨A', c', e, _, hk⟩ := HM.out
      cases e
      obtain ⟨b, o, rfl, hb, k0, k1, k2, ⟨ns, hns, A3, k3, e3, h3, h4⟩, _⟩ := hk i hlt
      rw [e3] at k2
      have i0 : (0 : Int) ≤ (i : Int) := by omega
      have i1 : (i : Int) < (l.length : Int) := by omega
      clear k0 k1 hns hk e3
      by_cases hz : z < 1048576
      · have hzd : decide (z < 1048576) = true := decide_eq_true hz
        go_wp2_with fail
        go_roundw
        case rel => exact ⟨i + 1, _, by go_num, rfl, by omega, by first | trivial | rfl⟩
        case measure => simp [intOf]; omega
      · have hzd : decide (z < 1048576) = false := decide_eq_false hz
        go_wp2_with fail
        go_ret
        exact ⟨⟨_, rfl⟩, HBE.out.drew⟩
    · have hid : decide ((i : Int) < (l.length : Int)) = false := by simp; omega
      go_wp2_with fail
      go_ret
      exact ⟨⟨_, rfl⟩, HBE.out.drew⟩

theorem wakes_rank : rankL 2 2 [1, 1, 0, 1] = 2 := by decide +kernel
theorem wakes_inv : invO 2 [1, 1, 0, 1] = [1, 1, 0, 1] := by decide +kernel

set_option maxRecDepth 100000 in
set_option maxHeartbeats 2000000 in
theorem wakes3_any (w : World) : Calls Try.prog 15 #[] w fun e w' => e = .returned (.bool true) ∧ Below w.heap.size w w' := by
  obtain ⟨oL, hoL⟩ : ∃ x, x = (Obj.cells (cellsOf8 [1, 1, 0, 1]) 5) := ⟨_, rfl⟩
  have hb0 := (Below.refl w.heap.size w).alloc (Nat.le_refl _) oL
  have hk0 : BytesBlk (w.alloc oL) w.heap.size [1, 1, 0, 1] := by rw [hoL]; exact bytesBlk_new w (ns := [1, 1, 0, 1]) rfl _ (by intro x hx; simp at hx; omega)
  have HB0 := Lib.hid hb0
  have HV0 := Lib.hid (BytesV.of_blk (c := 4) hk0 (by simp))
  have hoL2 : oL = Obj.cells #[.int .u8 1, .int .u8 1, .int .u8 0, .int .u8 1] 5 := by rw [hoL]; rfl
  clear hb0 hk0 hoL
  go_enter Try.func15, Try.ntmps15
  go_wp2_with fail
  rw [← hoL2]
  generalize w.alloc oL = W0 at *
  refine (invert_yes 2 w.heap.size 0 4 [1, 1, 0, 1] W0 HV0.out rfl (by omega) (by omega)).mono ?_
  rintro e w1 ⟨v, rfl, hinv, hb1⟩
  rcases hinv with ⟨h, _⟩ | ⟨_, hm⟩
  · rw [wakes_rank] at h; omega
  obtain ⟨X, hX1, hX2, rfl, hblk, _⟩ := hm
  rw [wakes_inv] at hblk
  have hE : invE 2 [1, 1, 0, 1] = 0 := by rw [invE, wakes_rank]; rfl
  rw [hE]
  have HB1 := Lib.hid (HB0.out.trans (hb1.mono HB0.out.size))
  have HVX := Lib.hid (BytesV.of_blk (c := 4) hblk hX2)
  clear hE hb1 hblk
  unfold matV
  obtain ⟨oX, hoX⟩ : ∃ x, x = (Obj.cells #[.int .i64 2, .int .i64 2, .slice (some ⟨X, 0, none⟩) 4 4] 30) := ⟨_, rfl⟩
  have tX := Three.new w1 (.int .i64 2) (.int .i64 2) (.slice (some ⟨X, 0, none⟩) 4 4) 30
  rw [← hoX] at tX
  have hbX := (Below.refl w1.heap.size w1).alloc (Nat.le_refl _) oX
  have hX2' : X < (w1.alloc oX).heap.size := by simp; omega
  have HB2 := Lib.hid (HB1.out.trans (hbX.mono HB1.out.size))
  have HVX2 := Lib.hid (HVX.out.below hbX)
  have hb4 := (Below.refl (w1.alloc oX).heap.size (w1.alloc oX)).alloc (Nat.le_refl _) oL
  have hk4 : BytesBlk ((w1.alloc oX).alloc oL) (w1.heap.size + 1) [1, 1, 0, 1] := by have h4 := bytesBlk_new (w1.alloc oX) (ns := [1, 1, 0, 1]) rfl 5 (by intro x hx; simp at hx; omega); rw [World.size_alloc] at h4; rw [hoL2]; exact h4
  have HV4 := Lib.hid (BytesV.of_blk (c := 4) hk4 (by simp))
  have HVX4 := Lib.hid (HVX2.out.below hb4)
  have HB4 := Lib.hid (HB2.out.trans (hb4.mono HB2.out.size))
  obtain ⟨x0, x1, x2, _, _, _⟩ := tX
  rw [hoX] at x0 x1 x2
  clear hbX hb4 hk4
  go_wp2_with (first | (go_at_call 13; refine (num3_any _ _).mono ?_; rintro e wn ⟨rfl, rfl⟩))
  rw [← hoX, ← hoL2]
  clear x0 x1 x2 hoX hoL2
  generalize w1.alloc oX = W2 at *
  have HEQ := eqMatrix_yes 2 2 (.slice (some ⟨X, 0, none⟩) 4 4) (.slice (some ⟨w1.heap.size + 1, 0, none⟩) 4 4) [1, 1, 0, 1] _ HVX4.out HV4.out (by simp)
  unfold matV at HEQ
  refine HEQ.mono ?_
  rintro e w5 ⟨rfl, hb5⟩
  have hfin := HB4.out.trans (hb5.mono HB4.out.size)
  clear hb5
  go_wp2_with fail
  go_ret
  exact ⟨rfl, hfin⟩
end Go.Proofs.Ytibinkppbdeofaa
