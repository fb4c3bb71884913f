/- siloref1.Invert, walked. -/
import Derived.Test.YtibinkppbdeofaaPk16LawMatrixTells
import Derived.Test.YtibinkppbdeofaaPk06LawMatrixTells
import Derived.StillTailTactics
namespace Go.Proofs.Ytibinkppbdeofaa
open Go.ChangeShapes Go.WideShapes Go.ChangeAt Go.RowKit Go.Joins Go.Shelf
set_option linter.unusedVariables false
set_option linter.unusedSimpArgs false

theorem three_apart {w : World} {b g : Nat} {x y z : Value} {l : List Nat} (h : BytesBlk w g l) (hne : b ≠ g) : BytesBlk (((w.setCell ⟨b, 0, none⟩ x).setCell ⟨b, 1, none⟩ y).setCell ⟨b, 2, none⟩ z) g l :=
  blk_cell (blk_cell (blk_cell h hne) hne) hne

set_option maxRecDepth 100000 in
set_option maxHeartbeats 4000000 in
theorem refInvert_any (n : Nat) (vm : Value) (ns : List Nat) (w : World) (h : BytesV w vm ns) (hl : ns.length = n * n) (r1 : 1 ≤ n) (r16 : n ≤ 16) :
    Calls Try.prog 12 #[matV (n : Int) (n : Int) vm] w fun e w' => ∃ vl, e = .returned (.tuple #[matV (n : Int) (n : Int) vl, .bool ((rankL n n ns : Int) == (n : Int))]) ∧ BytesV w' vl (invO n ns) ∧ Below w.heap.size w w' := by
  obtain ⟨A, k, rfl⟩ := h.shape
  obtain ⟨oA, hoA⟩ : ∃ x, x = (Obj.cells #[.int .i64 (n : Int), .int .i64 (n : Int), .slice A ns.length k] 30) := ⟨_, rfl⟩
  obtain ⟨oR, hoR⟩ : ∃ x, x = (Obj.cells #[.int .i64 0, .int .i64 0, .slice none 0 0] 30) := ⟨_, rfl⟩
  have tA := Three.new w (.int .i64 (n : Int)) (.int .i64 (n : Int)) (.slice A ns.length k) 30
  rw [← hoA] at tA
  have tR := Three.new (w.alloc oA) (.int .i64 0) (.int .i64 0) (.slice none 0 0) 30
  rw [World.size_alloc, ← hoR] at tR
  have hbe : Below w.heap.size w ((w.alloc oA).alloc oR) := ((Below.refl w.heap.size w).alloc (Nat.le_refl _) oA).alloc (by simp) oR
  have hsz : ((w.alloc oA).alloc oR).heap.size = w.heap.size + 1 + 1 := by simp
  have TA := Lib.hid (tA.alloc oR)
  have TR := Lib.hid tR
  have HBE := Lib.hid hbe
  have HSZ := Lib.hid hsz
  have H := Lib.hid (h.below hbe)
  have HL := Lib.hid hl
  have ho := oneL_length n n
  clear tA tR hbe h hl hsz
  unfold matV
  go_enter Try.func12, Try.ntmps12
  go_upto_region 1 with (fail)
  rw [← hoA, ← hoR]
  generalize (w.alloc oA).alloc oR = W0 at *
  clear hoA hoR
  obtain ⟨a0, a1, a2, _, _, _⟩ := TA.out
  have n0 := World.new_ne W0 _ a0
  have HK : Hid (∀ W', Below W0.heap.size W0 W' → W'.cell? ⟨w.heap.size, 0, none⟩ = some (.int .i64 (n : Int)) ∧ W'.cell? ⟨w.heap.size, 1, none⟩ = some (.int .i64 (n : Int)) ∧ W'.cell? ⟨w.heap.size, 2, none⟩ = some (.slice A ns.length k)) := fun W' h => ⟨below_celllt a0 (cell_block a0) h, below_celllt a1 (cell_block a1) h, below_celllt a2 (cell_block a2) h⟩
  have HO := Lib.hid ho
  clear ho
  go_cut [4, 5] from 7 to 4 (fun r q wx => r = .int .i64 ((rankL n n ns : Nat) : Int) ∧ ∃ b5 g kk, q = .pointer (some ⟨b5, 0, none⟩) ∧ Three wx b5 (.int .i64 (n : Int)) (.int .i64 (n : Int)) (.slice (some ⟨g, 0, none⟩) (n * n) kk) ∧ BytesBlk wx g (invO n ns) ∧ g < wx.heap.size ∧ W0.heap.size ≤ g ∧ W0.heap.size ≤ b5 ∧ Below W0.heap.size W0 wx)
  case first =>
    go_region_held3 (fun W' => W'.cell? ⟨w.heap.size, 0, none⟩ = some (.int .i64 (n : Int)) ∧ W'.cell? ⟨w.heap.size, 1, none⟩ = some (.int .i64 (n : Int)) ∧ W'.cell? ⟨w.heap.size, 2, none⟩ = some (.slice A ns.length k)) (first | exact HK.out _ hcum | exact HK.out _ (Below.drew hcum) | go_keep)
      (first
        | (go_at_call 30; refine (refOne_any n r1 r16 _).mono ?_; rintro e w2 ⟨v2, rfl, hmm, hb2⟩; obtain ⟨v2s, rfl, hv2⟩ := hmm.bytes; have HX2 := Lib.hid hv2; have hcum : Below W0.heap.size W0 w2 := (by first | exact below_of_drewG hb2 | exact cum2 ((Below.refl W0.heap.size W0).alloc (Nat.le_refl _) _) (below_of_drewG hb2)); (try (have hal := Lib.hid ((Three.new W0 (.int .i64 0) (.int .i64 0) (.slice none 0 0) 30).below (below_of_drewG hb2)))); have hsA := hb2.size; clear hb2 hmm; obtain ⟨y0, y1, y2⟩ := HK.out _ hcum; have nx := World.new_ne _ _ y0)
        | (go_at_call 41; refine (swept_any n n n _ v2s ns (oneL n n) _ (by first | exact H.out.below hcum | exact H.out.below (hcum.alloc hcum.size _)) (by first | exact HX2.out | exact HX2.out.below ((Below.refl _ _).alloc (Nat.le_refl _) _)) HL.out HO.out r1 r16 r1 r16 r1 r16).mono ?_; rintro e w3 ⟨g3, k3, hg31, hg32, rfl, hv3, hb3⟩; have hs2 := hcum.size; have hcum : Below W0.heap.size W0 w3 := (by first | exact cum2 hcum hb3 | exact cum2 (hcum.alloc hcum.size _) hb3); (first | (have hal := Lib.hid ((Three.new w2 (.int .i64 0) (.int .i64 0) (.slice none 0 0) 30).below hb3)) | (have hal := Lib.hid (hal.out.below hb3)) | skip); (try (obtain ⟨e0, e1, e2, e3, e4, e5⟩ := hal.out)); have HV3 := Lib.hid (show BytesBlk w3 g3 (invO n ns) from hv3); clear hv3; obtain ⟨y0, y1, y2⟩ := HK.out _ hcum; have nx := World.new_ne _ _ y0; rw [HO.out]; unfold matV))
    all_goals
      have hRk := Lib.hid (rankL_of n n n ns (oneL n n))
      have q3 := hcum.size
      (try simp only [World.size_alloc] at hg31)
      (try (have hsB := (show (W0.alloc (.cells #[.int .i64 0, .int .i64 0, .slice none 0 0] 30)).heap.size ≤ w2.heap.size from hsA); rw [World.size_alloc] at hsB))
      clear a0 a1 a2 y0 y1 y2
      go_wp2_with fail
      go_meet
      refine ⟨by rw [hRk.out], ?_⟩
      first
        | exact ⟨_, g3, k3, rfl, Three.new _ _ _ _ _, blk_below HV3.out hg32 ((Below.refl _ _).alloc (Nat.le_refl _) _), by simp; omega, by omega, by omega, hcum.alloc hcum.size _⟩
        | exact ⟨_, g3, k3, rfl, three_put hal.out _ _ _, three_apart HV3.out (by omega), by simp only [World.size_setCell]; exact hg32, by omega, by omega, ((hcum.setCell (by first | exact Nat.le_refl _ | (dsimp only; omega)) _).setCell (by first | exact Nat.le_refl _ | (dsimp only; omega)) _).setCell (by first | exact Nat.le_refl _ | (dsimp only; omega)) _⟩
  case rest =>
    obtain ⟨rfl, b5, g, kk, rfl, h5, hg, hgs, hg0, hb0, hcum⟩ := hcut
    have hz := HSZ.out
    have HR := Lib.hid (TR.out.below hcum)
    have HFin := Lib.hid (HBE.out.trans (hcum.mono HBE.out.size))
    have HG := Lib.hid hg
    obtain ⟨r0, r1', r2, r3, r4, r5⟩ := HR.out
    obtain ⟨x0, x1, x2, _, _, _⟩ := h5
    clear a0 a1 a2
    obtain ⟨a0, a1, a2⟩ := HK.out _ hcum
    obtain ⟨rr, hrr⟩ : ∃ rr, rr = rankL n n ns := ⟨_, rfl⟩
    rw [← hrr]
    have HRR := Lib.hid hrr
    clear hrr hcum hg
    go_wp2_with fail
    go_region
    go_wp2_with fail
    obtain ⟨t0, t1, t2, _, _, _⟩ := three_put HR.out (.int .i64 (n : Int)) (.int .i64 (n : Int)) (.slice (some ⟨g, 0, none⟩) (n * n) kk)
    refine bodyPost_ret (v := .tuple #[matV (n : Int) (n : Int) (.slice (some ⟨g, 0, none⟩) (n * n) kk), .bool ((rr : Int) == (n : Int))]) (by simp [results, Try.results12, go_sem, matV, t0, t1, t2]) rfl ⟨_, by rw [HRR.out]; rfl, ?_, ?_⟩
    · have hbb := three_apart (b := w.heap.size + 1) (x := .int .i64 (n : Int)) (y := .int .i64 (n : Int)) (z := .slice (some ⟨g, 0, none⟩) (n * n) kk) HG.out (by omega)
      have := BytesV.of_blk (c := kk) hbb.drew (by show g < (World.setCell _ _ _).heap.size; simp only [World.size_setCell]; exact hgs)
      rw [invO_length] at this
      exact this
    · exact Below.drew (((HFin.out.setCell (p := ⟨w.heap.size + 1, 0, none⟩) (by simp) _).setCell (p := ⟨w.heap.size + 1, 1, none⟩) (by simp) _).setCell (p := ⟨w.heap.size + 1, 2, none⟩) (by simp) _)
end Go.Proofs.Ytibinkppbdeofaa

/- Heavy and wakes of the laws of matrices, walked. -/

namespace Go.Proofs.Ytibinkppbdeofaa
open Go.ChangeShapes Go.WideShapes Go.ChangeAt Go.RowKit Go.Joins Go.Shelf
set_option linter.unusedVariables false
set_option linter.unusedSimpArgs false

theorem textsIn_below {w w' : World} {v : Value} {ss : List ByteArray} (h : TextsIn w v ss) (hb : Below w.heap.size w w') : TextsIn w' v ss := by
  obtain ⟨p, cap, h1, h2, h3, h4⟩ := h
  exact ⟨p, cap, h1, h2, h3, h4.below hb⟩

def SomeB (e : Ending) : Prop := ∃ b : Bool, e = .returned (.bool b)

set_option maxRecDepth 100000 in
set_option maxHeartbeats 2000000 in
/-- Heavy ends, whatever it says. -/
theorem heavy3_weak (vM vN vL : Value) (l : List M3) (zs : List Int) (ss : List ByteArray) (w : World) (hM : MatsIn w vM l) (hN : NumsIn w vN zs) (hL : TextsIn w vL ss) :
    Calls Try.prog 9 #[.agg #[vM, vN, vL]] w fun e w' => SomeB e ∧ Below w.heap.size w w' := by
  have tA := Three.new w vM vN vL 26
  have hbe := (Below.refl w.heap.size w).alloc (Nat.le_refl _) (.cells #[vM, vN, vL] 26)
  have TA := Lib.hid tA
  have HBE := Lib.hid hbe
  have HM := Lib.hid (hM.below hbe)
  have HT := Lib.hid (textsIn_below hL hbe)
  obtain ⟨zp, zc, zl, rfl⟩ : ∃ p c n, vN = .slice p n c := by
    rcases hN.2 with ⟨_, p, c, rfl⟩ | ⟨b, o, c, rfl, _⟩
    · exact ⟨_, _, _, rfl⟩
    · exact ⟨_, _, _, rfl⟩
  obtain ⟨A, c, rfl, hll, _⟩ := hM
  obtain ⟨pL, kL, rfl, _⟩ := hL
  clear tA hbe hN
  go_enter Try.func9, Try.ntmps9
  go_upto_region 1 with (fail)
  generalize w.alloc (.cells #[.slice A l.length c, .slice zp zl zc, .slice pL ss.length kL] 26) = W0 at *
  obtain ⟨a0, a1, a2, _, _, _⟩ := TA.out
  go_region_held3 (fun W' => W'.cell? ⟨w.heap.size, 0, none⟩ = some (.slice A l.length c) ∧ W'.cell? ⟨w.heap.size, 1, none⟩ = some (.slice zp zl zc) ∧ W'.cell? ⟨w.heap.size, 2, none⟩ = some (.slice pL ss.length kL)) (go_keep)
    (first | (go_at_call 37; refine (texts_any _ ss _ (textsIn_below HT.out (Below.drew (Below.refl _ _)))).mono ?_; rintro e w' ⟨r, hr, hr2, rfl, rfl⟩))
  clear hr hr2
  go_wp2_with fail
  go_loopw [3, 4] (fun nn ii wr => ∃ (i : Nat) (z : Int), ii = .int .i64 i ∧ nn = .int .i64 z ∧ i ≤ l.length ∧ wr = W0.drew) (fun _ ii _ => l.length - (intOf ii).toNat)
  case atStart => exact ⟨0, _, rfl, rfl, by omega, rfl⟩
  case round =>
    obtain ⟨i, z, rfl, rfl, hi, rfl⟩ := hrel
    by_cases hlt : i < l.length
    · obtain ⟨A', c', e, _, hk⟩ := HM.out
      cases e
      obtain ⟨b, o, rfl, hb, k0, k1, k2, ⟨ns, hns, A3, k3, e3, h3, h4⟩, _⟩ := hk i hlt
      rw [e3] at k2
      have i0 : (0 : Int) ≤ (i : Int) := by omega
      have i1 : (i : Int) < (l.length : Int) := by omega
      clear k0 k1 hns hk e3
      by_cases hz : z < 1048576
      · have hzd : decide (z < 1048576) = true := decide_eq_true hz
        go_wp2_with fail
        go_roundw
        case rel => exact ⟨i + 1, _, by go_num, rfl, by omega, by first | trivial | rfl⟩
        case measure => simp [intOf]; omega
      · have hzd : decide (z < 1048576) = false := decide_eq_false hz
        go_wp2_with fail
        go_ret
        exact ⟨⟨_, rfl⟩, HBE.out.drew⟩
    · have hid : decide ((i : Int) < (l.length : Int)) = false := by simp; omega
      go_wp2_with fail
      go_ret
      exact ⟨⟨_, rfl⟩, HBE.out.drew⟩

theorem wakes_rank : rankL 2 2 [1, 1, 0, 1] = 2 := by decide +kernel
theorem wakes_inv : invO 2 [1, 1, 0, 1] = [1, 1, 0, 1] := by decide +kernel

set_option maxRecDepth 100000 in
set_option maxHeartbeats 2000000 in
theorem wakes3_any (w : World) : Calls Try.prog 15 #[] w fun e w' => e = .returned (.bool true) ∧ Below w.heap.size w w' := by
  obtain ⟨oL, hoL⟩ : ∃ x, x = (Obj.cells (cellsOf8 [1, 1, 0, 1]) 5) := ⟨_, rfl⟩
  have hb0 := (Below.refl w.heap.size w).alloc (Nat.le_refl _) oL
  have hk0 : BytesBlk (w.alloc oL) w.heap.size [1, 1, 0, 1] := by rw [hoL]; exact bytesBlk_new w (ns := [1, 1, 0, 1]) rfl _ (by intro x hx; simp at hx; omega)
  have HB0 := Lib.hid hb0
  have HV0 := Lib.hid (BytesV.of_blk (c := 4) hk0 (by simp))
  have hoL2 : oL = Obj.cells #[.int .u8 1, .int .u8 1, .int .u8 0, .int .u8 1] 5 := by rw [hoL]; rfl
  clear hb0 hk0 hoL
  go_enter Try.func15, Try.ntmps15
  go_wp2_with fail
  rw [← hoL2]
  generalize w.alloc oL = W0 at *
  refine (invert_yes 2 w.heap.size 0 4 [1, 1, 0, 1] W0 HV0.out rfl (by omega) (by omega)).mono ?_
  rintro e w1 ⟨v, rfl, hinv, hb1⟩
  rcases hinv with ⟨h, _⟩ | ⟨_, hm⟩
  · rw [wakes_rank] at h; omega
  obtain ⟨X, hX1, hX2, rfl, hblk, _⟩ := hm
  rw [wakes_inv] at hblk
  have hE : invE 2 [1, 1, 0, 1] = 0 := by rw [invE, wakes_rank]; rfl
  rw [hE]
  have HB1 := Lib.hid (HB0.out.trans (hb1.mono HB0.out.size))
  have HVX := Lib.hid (BytesV.of_blk (c := 4) hblk hX2)
  clear hE hb1 hblk
  unfold matV
  obtain ⟨oX, hoX⟩ : ∃ x, x = (Obj.cells #[.int .i64 2, .int .i64 2, .slice (some ⟨X, 0, none⟩) 4 4] 30) := ⟨_, rfl⟩
  have tX := Three.new w1 (.int .i64 2) (.int .i64 2) (.slice (some ⟨X, 0, none⟩) 4 4) 30
  rw [← hoX] at tX
  have hbX := (Below.refl w1.heap.size w1).alloc (Nat.le_refl _) oX
  have hX2' : X < (w1.alloc oX).heap.size := by simp; omega
  have HB2 := Lib.hid (HB1.out.trans (hbX.mono HB1.out.size))
  have HVX2 := Lib.hid (HVX.out.below hbX)
  have hb4 := (Below.refl (w1.alloc oX).heap.size (w1.alloc oX)).alloc (Nat.le_refl _) oL
  have hk4 : BytesBlk ((w1.alloc oX).alloc oL) (w1.heap.size + 1) [1, 1, 0, 1] := by have h4 := bytesBlk_new (w1.alloc oX) (ns := [1, 1, 0, 1]) rfl 5 (by intro x hx; simp at hx; omega); rw [World.size_alloc] at h4; rw [hoL2]; exact h4
  have HV4 := Lib.hid (BytesV.of_blk (c := 4) hk4 (by simp))
  have HVX4 := Lib.hid (HVX2.out.below hb4)
  have HB4 := Lib.hid (HB2.out.trans (hb4.mono HB2.out.size))
  obtain ⟨x0, x1, x2, _, _, _⟩ := tX
  rw [hoX] at x0 x1 x2
  clear hbX hb4 hk4
  go_wp2_with (first | (go_at_call 13; refine (num3_any _ _).mono ?_; rintro e wn ⟨rfl, rfl⟩))
  rw [← hoX, ← hoL2]
  clear x0 x1 x2 hoX hoL2
  generalize w1.alloc oX = W2 at *
  have HEQ := eqMatrix_yes 2 2 (.slice (some ⟨X, 0, none⟩) 4 4) (.slice (some ⟨w1.heap.size + 1, 0, none⟩) 4 4) [1, 1, 0, 1] _ HVX4.out HV4.out (by simp)
  unfold matV at HEQ
  refine HEQ.mono ?_
  rintro e w5 ⟨rfl, hb5⟩
  have hfin := HB4.out.trans (hb5.mono HB4.out.size)
  clear hb5
  go_wp2_with fail
  go_ret
  exact ⟨rfl, hfin⟩
end Go.Proofs.Ytibinkppbdeofaa

/- silolaw3.square, walked. -/

namespace Go.Proofs.Ytibinkppbdeofaa
open Go.ChangeShapes Go.WideShapes Go.ChangeAt Go.RowKit Go.Joins Go.Shelf
set_option linter.unusedVariables false
set_option linter.unusedSimpArgs false

theorem u8_some (z : Int) : ∃ b : Nat, IntKind.u8.wrap z = (b : Int) ∧ b < 256 := by
  exact ⟨(z % 256).toNat, by rw [IntKind.wrap_u8]; omega, by omega⟩
theorem mats_at {w : World} {A : Option Addr} {n c : Nat} {l : List M3} (h : MatsIn w (.slice A n c) l) {k : Nat} (hk : k < l.length) :
    ∃ b o R C A' ns k', A = some ⟨b, o, none⟩ ∧ b < w.heap.size ∧ w.cell? ⟨b, o + k * 3, none⟩ = some (.int .i64 R) ∧ w.cell? ⟨b, o + k * 3 + 1, none⟩ = some (.int .i64 C) ∧ w.cell? ⟨b, o + k * 3 + 2, none⟩ = some (.slice A' ns.length k') ∧ BytesV w (.slice A' ns.length k') ns ∧ ns.length ≤ k' ∧ k' ≤ 9223372036854775807 ∧
      R = (l.getD k (0, 0, .slice none 0 0)).1 ∧ C = (l.getD k (0, 0, .slice none 0 0)).2.1 := by
  obtain ⟨A1, c1, e, _, h⟩ := h
  cases e
  obtain ⟨b, o, rfl, hb, k0, k1, k2, ⟨ns, hns, A3, k3, e3, h3, h4⟩, _⟩ := h k hk
  rw [e3] at k2 hns
  exact ⟨b, o, _, _, A3, ns, k3, rfl, hb, k0, k1, k2, hns, h3, h4, rfl, rfl⟩

set_option maxRecDepth 100000 in
set_option maxHeartbeats 4000000 in
theorem square_any (vM vN vL : Value) (l : List M3) (n by_ : Nat) (w : World) (hM : MatsIn w vM l) (h1 : 1 ≤ n) (h2 : n ≤ 8) (hby : by_ ≤ 9) :
    Calls Try.prog 10 #[.agg #[vM, vN, vL], .int .i64 (n : Int), .int .i64 (by_ : Int)] w fun e w' => ∃ v ns, e = .returned v ∧ MadeM w w' v n n ns ∧ Below w.heap.size w w' := by
  obtain ⟨x, hx⟩ : ∃ x, x = n * n := ⟨_, rfl⟩
  have hm1 : (n : Int) * (n : Int) = (x : Int) := by rw [hx]; simp
  have hxs : x ≤ 8 * 8 := by rw [hx]; exact Nat.mul_le_mul h2 h2
  have w1 : IntKind.i64.wrap (x : Int) = (x : Int) := IntWalk.i64_in _ (by omega)
  have hmk := hmkM (n := x) (by omega)
  obtain ⟨C, hC⟩ : ∃ C, C = cellsOf8 (List.replicate x 0) := ⟨_, rfl⟩
  rw [← hC] at hmk
  obtain ⟨A, c, rfl, hll, _⟩ := id hM
  obtain ⟨oA, hoA⟩ : ∃ o, o = (Obj.cells #[.slice A l.length c, vN, vL] 26) := ⟨_, rfl⟩
  obtain ⟨oR, hoR⟩ : ∃ o, o = (Obj.cells #[.int .i64 0, .int .i64 0, .slice none 0 0] 30) := ⟨_, rfl⟩
  obtain ⟨oM, hoM⟩ : ∃ o, o = (Obj.cells #[.int .i64 (n : Int), .int .i64 (n : Int), .slice (some ⟨w.heap.size + 1 + 1, 0, none⟩) x x] 30) := ⟨_, rfl⟩
  have tA := Three.new w (.slice A l.length c) vN vL 26
  rw [← hoA] at tA
  have tR := Three.new (w.alloc oA) (.int .i64 0) (.int .i64 0) (.slice none 0 0) 30
  rw [World.size_alloc, ← hoR] at tR
  have tM := Three.new (((w.alloc oA).alloc oR).alloc (.cells C 5)) (.int .i64 (n : Int)) (.int .i64 (n : Int)) (.slice (some ⟨w.heap.size + 1 + 1, 0, none⟩) x x) 30
  rw [World.size_alloc, World.size_alloc, World.size_alloc, ← hoM] at tM
  have hb := bytesBlk_new ((w.alloc oA).alloc oR) (ns := List.replicate x 0) rfl 5 (by intro y hy; rw [List.eq_of_mem_replicate hy]; decide)
  rw [World.size_alloc, World.size_alloc, ← hC] at hb
  have hb2 := blk_below hb (by simp) ((Below.refl _ (((w.alloc oA).alloc oR).alloc (.cells C 5))).alloc (Nat.le_refl _) oM)
  have hbe : Below w.heap.size w ((((w.alloc oA).alloc oR).alloc (.cells C 5)).alloc oM) := ((((Below.refl w.heap.size w).alloc (Nat.le_refl _) oA).alloc (by simp) oR).alloc (by simp; omega) _).alloc (by simp; omega) oM
  have HD0 := Lib.hid hb2
  have HTM := Lib.hid tM
  have HTR := Lib.hid ((tR.alloc (.cells C 5)).alloc oM)
  have HTA := Lib.hid (((tA.alloc oR).alloc (.cells C 5)).alloc oM)
  have HBE := Lib.hid hbe
  have hbs : w.heap.size + 1 + 1 < ((((w.alloc oA).alloc oR).alloc (.cells C 5)).alloc oM).heap.size := by simp
  have HX := Lib.hid hx
  have HM := Lib.hid hM
  clear tR tM tA hb hb2 hbe hC hx hM
  go_enter Try.func10, Try.ntmps10
  go_wp2_with fail
  rw [← hoA, ← hoR, ← hoM]
  generalize (((w.alloc oA).alloc oR).alloc (.cells C 5)).alloc oM = W0 at *
  clear hoA hoR hoM hmk
  go_loopw [8] (fun q wr => ∃ (j : Nat) (ns : List Nat), q = .int .i64 j ∧ j ≤ x ∧ ns.length = x ∧ w.heap.size + 1 + 1 < wr.heap.size ∧ Hid (BytesBlk wr (w.heap.size + 1 + 1) ns) ∧ Hid (Three wr (w.heap.size + 1 + 1 + 1) (.int .i64 (n : Int)) (.int .i64 (n : Int)) (.slice (some ⟨w.heap.size + 1 + 1, 0, none⟩) x x)) ∧ Hid (Three wr (w.heap.size + 1) (.int .i64 0) (.int .i64 0) (.slice none 0 0)) ∧ Hid (Three wr w.heap.size (.slice A l.length c) vN vL) ∧ Hid (Below w.heap.size w wr)) (fun q _ => x - (intOf q).toNat)
  case atStart => exact ⟨0, _, rfl, by omega, List.length_replicate, hbs, HD0, HTM, HTR, HTA, HBE⟩
  case round =>
    clear HD0 HTM HTR HTA HBE hbs
    obtain ⟨j, ns, rfl, hj, hnl, hbs, HD, HTM, HTR, HTA, HBE⟩ := hrel
    obtain ⟨a0, a1, a2, a3, a4, a5⟩ := HTM.out
    obtain ⟨g0, g1, g2, _, _, _⟩ := HTA.out
    clear a3 a4 a5
    by_cases hjn : j < x
    · obtain ⟨c1, c2, c3⟩ := HD.out j (by omega)
      generalize ns.getD j 0 = old at c2
      obtain ⟨d1, hd1⟩ : ∃ d, d = j * j := ⟨_, rfl⟩
      obtain ⟨d2, hd2⟩ : ∃ d, d = d1 * by_ := ⟨_, rfl⟩
      have p1 : (j : Int) * (j : Int) = (d1 : Int) := by rw [hd1]; simp
      have p2 : (d1 : Int) * (by_ : Int) = (d2 : Int) := by rw [hd2]; simp
      have b1 : d1 ≤ 63 * 63 := by rw [hd1]; exact Nat.mul_le_mul (by omega) (by omega)
      have b2 : d2 ≤ (63 * 63) * 9 := by rw [hd2]; exact Nat.mul_le_mul b1 hby
      have v1 : IntKind.i64.wrap (d1 : Int) = (d1 : Int) := IntWalk.i64_in _ (by omega)
      have v2 : IntKind.i64.wrap (d2 : Int) = (d2 : Int) := IntWalk.i64_in _ (by omega)
      have v3 : IntKind.i64.wrap (7 * (by_ : Int)) = 7 * (by_ : Int) := IntWalk.i64_in _ (by omega)
      have v4 : IntKind.i64.wrap ((d2 : Int) + 7 * (by_ : Int)) = (d2 : Int) + 7 * (by_ : Int) := IntWalk.i64_in _ (by omega)
      have v5 : IntKind.i64.wrap ((d2 : Int) + 7 * (by_ : Int) + (j : Int)) = (d2 : Int) + 7 * (by_ : Int) + (j : Int) := IntWalk.i64_in _ (by omega)
      obtain ⟨bn, hbn, hbn2⟩ := u8_some ((d2 : Int) + 7 * (by_ : Int) + (j : Int))
      have HD1 : Hid (BytesBlk (wr.setCell ⟨w.heap.size + 1 + 1, j, none⟩ (.int .u8 (bn : Int))) (w.heap.size + 1 + 1) (ns.set j bn)) := HD.out.next hbn2
      have HTM1 := Lib.hid (three_cell (d := ⟨w.heap.size + 1 + 1, j, none⟩) (u := .int .u8 (bn : Int)) HTM.out (by dsimp only; omega))
      have HTR1 := Lib.hid (three_cell (d := ⟨w.heap.size + 1 + 1, j, none⟩) (u := .int .u8 (bn : Int)) HTR.out (by dsimp only; omega))
      have HTA1 := Lib.hid (three_cell (d := ⟨w.heap.size + 1 + 1, j, none⟩) (u := .int .u8 (bn : Int)) HTA.out (by dsimp only; omega))
      have HBE1 := Lib.hid (HBE.out.setCell (p := ⟨w.heap.size + 1 + 1, j, none⟩) (by dsimp only; omega) (.int .u8 (bn : Int)))
      have hbs1 : w.heap.size + 1 + 1 < (wr.setCell ⟨w.heap.size + 1 + 1, j, none⟩ (.int .u8 (bn : Int))).heap.size := by rw [World.size_setCell]; exact hbs
      have hl1 : (ns.set j bn).length = x := by rw [List.length_set]; exact hnl
      have i0 : (0 : Int) ≤ (j : Int) := by omega
      have i1 : (j : Int) < (x : Int) := by omega
      clear HD HTM HTR HTA HBE hd1 hd2 hbs
      go_upto_region 6 with (fail)
      generalize wr.setCell ⟨w.heap.size + 1 + 1, j, none⟩ (.int .u8 (bn : Int)) = V at *
      clear a0 a1 a2 g0 g1 g2 c1 c2 c3 hbn v1 v2 v3 v4 v5 p1 p2 b1 b2
      obtain ⟨a0, a1, a2, _, _, _⟩ := HTM1.out
      obtain ⟨g0, g1, g2, _, _, _⟩ := HTA1.out
      by_cases hl0 : 0 < l.length
      · obtain ⟨b, o, R, C', A', ms, k', rfl, hb, k0, k1, k2, hms, hk', _, _, _⟩ := mats_at (HM.out.below HBE1.out) hl0
        rw [Nat.zero_mul, Nat.add_zero] at k2
        have hl0d : decide ((0 : Int) < (l.length : Int)) = true := by simp; omega
        have l0 : (0 : Int) < (l.length : Int) := by omega
        have HMS := Lib.hid hms
        clear k0 k1 hms
        by_cases hs0 : 0 < ms.length
        · have hs0d : decide ((0 : Int) < (ms.length : Int)) = true := by simp; omega
          obtain ⟨c1, c2, c3⟩ := HD1.out j (by omega)
          obtain ⟨old, hold⟩ : ∃ old, old = (ns.set j bn).getD j 0 := ⟨_, rfl⟩
          rw [← hold] at c1 c2
          obtain ⟨q, hq⟩ : ∃ q, q = j * by_ := ⟨_, rfl⟩
          have pq : (j : Int) * (by_ : Int) = (q : Int) := by rw [hq]; simp
          have bq : q ≤ 63 * 9 := by rw [hq]; exact Nat.mul_le_mul (by omega) hby
          have vq : IntKind.i64.wrap (q : Int) = (q : Int) := IntWalk.i64_in _ (by omega)
          obtain ⟨rm, hrm⟩ : ∃ rm, rm = q % ms.length := ⟨_, rfl⟩
          have hrl : rm < ms.length := by rw [hrm]; exact Nat.mod_lt _ hs0
          have trm : Int.tmod (q : Int) (ms.length : Int) = (rm : Int) := by rw [hrm]; rfl
          have vrm : IntKind.i64.wrap (rm : Int) = (rm : Int) := IntWalk.i64_in _ (by have := bq; have : rm ≤ q := by rw [hrm]; exact Nat.mod_le _ _
                                                                                      omega)
          obtain ⟨b3, o3, rfl, hb3, m2⟩ := HMS.out.at_ hrl
          have hm256 := HMS.out.lt rm
          generalize ms.getD rm 0 = mm at m2 hm256
          have hxr := bits_xor_u8 c1 hm256
          have hx256 : old ^^^ mm < 256 := Gf.xor_lt c1 hm256
          obtain ⟨xx, hxx⟩ : ∃ xx, xx = old ^^^ mm := ⟨_, rfl⟩
          rw [← hxx] at hxr hx256
          have hmz : ((ms.length : Int) == 0) = false := beq_eq_false_iff_ne.2 (by omega)
          have e5 : ¬ ((ms.length : Int) = 0) := by omega
          have e7 : ¬ (ms.length = 0) := by omega
          have e8 : ¬ (ms = []) := fun e => by rw [e] at hs0; simp at hs0
          have r0 : (0 : Int) ≤ (rm : Int) := by omega
          have r1 : (rm : Int) < (ms.length : Int) := by omega
          clear hold hq hrm hxx
          go_wp2_with fail
          go_still_tail 27, (by kernel_rfl)
          change wpList _ _ _ _ _ (World.drew _)
          go_wp2_with fail
          have hq8 : (ns.set j bn).set j xx = (ns.set j bn).set j xx := rfl
          have HD2 : Hid (BytesBlk (V.drew.setCell ⟨w.heap.size + 1 + 1, j, none⟩ (.int .u8 (xx : Int))) (w.heap.size + 1 + 1) ((ns.set j bn).set j xx)) := HD1.out.drew.next hx256
          have HTM2 := Lib.hid (three_cell (d := ⟨w.heap.size + 1 + 1, j, none⟩) (u := .int .u8 (xx : Int)) HTM1.out.drew (by dsimp only; omega))
          have HTR2 := Lib.hid (three_cell (d := ⟨w.heap.size + 1 + 1, j, none⟩) (u := .int .u8 (xx : Int)) HTR1.out.drew (by dsimp only; omega))
          have HTA2 := Lib.hid (three_cell (d := ⟨w.heap.size + 1 + 1, j, none⟩) (u := .int .u8 (xx : Int)) HTA1.out.drew (by dsimp only; omega))
          have HBE2 := Lib.hid (HBE1.out.drew.setCell (p := ⟨w.heap.size + 1 + 1, j, none⟩) (by dsimp only; omega) (.int .u8 (xx : Int)))
          have hbs2 : w.heap.size + 1 + 1 < (V.drew.setCell ⟨w.heap.size + 1 + 1, j, none⟩ (.int .u8 (xx : Int))).heap.size := by rw [World.size_setCell]; exact hbs1
          have hl2 : ((ns.set j bn).set j xx).length = x := by rw [List.length_set]; exact hl1
          go_roundw
          case rel => exact ⟨j + 1, _, by go_num, by omega, hl2, hbs2, HD2, HTM2, HTR2, HTA2, HBE2⟩
          case measure => simp [intOf]; omega
        · have hs0d : decide ((0 : Int) < (ms.length : Int)) = false := decide_eq_false (by omega)
          go_wp2_with fail
          go_roundw
          case rel => exact ⟨j + 1, _, by go_num, by omega, hl1, hbs1, HD1, HTM1, HTR1, HTA1, HBE1⟩
          case measure => simp [intOf]; omega
      · have hl0d : decide ((0 : Int) < (l.length : Int)) = false := decide_eq_false (by omega)
        go_wp2_with fail
        go_roundw
        case rel => exact ⟨j + 1, _, by go_num, by omega, hl1, hbs1, HD1, HTM1, HTR1, HTA1, HBE1⟩
        case measure => simp [intOf]; omega
    · have hjx : j = x := by omega
      have hjd : decide ((j : Int) < (x : Int)) = false := by simp; omega
      obtain ⟨r0, r1, r2, r3, r4, r5⟩ := HTR.out
      clear hjx
      go_wp2_with fail
      obtain ⟨t0, t1, t2, _, _, _⟩ := three_put HTR.out (.int .i64 (n : Int)) (.int .i64 (n : Int)) (.slice (some ⟨w.heap.size + 1 + 1, 0, none⟩) x x)
      refine bodyPost_ret (v := matV (n : Int) (n : Int) (.slice (some ⟨w.heap.size + 1 + 1, 0, none⟩) x x)) (by simp [results, Try.results10, go_sem, matV, *]) rfl ⟨_, ns, rfl, ⟨w.heap.size + 1 + 1, by omega, by simp only [World.size_setCell]; exact hbs, by rw [← HX.out], ?_, by rw [hnl, HX.out]⟩, ?_⟩
      · exact blk_cell (blk_cell (blk_cell HD.out (by dsimp only; omega)) (by dsimp only; omega)) (by dsimp only; omega)
      · exact ((HBE.out.setCell (p := ⟨w.heap.size + 1, 0, none⟩) (by simp) _).setCell (p := ⟨w.heap.size + 1, 1, none⟩) (by simp) _).setCell (p := ⟨w.heap.size + 1, 2, none⟩) (by simp) _
end Go.Proofs.Ytibinkppbdeofaa
