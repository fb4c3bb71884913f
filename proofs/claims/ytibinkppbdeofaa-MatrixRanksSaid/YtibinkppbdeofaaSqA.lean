/- silolaw3.square, walked. -/
import Derived.Test.YtibinkppbdeofaaHvA
import Derived.StillTailTactics
namespace Go.Proofs.Ytibinkppbdeofaa
open Go.ChangeShapes Go.WideShapes Go.ChangeAt Go.RowKit Go.Joins Go.Shelf
set_option linter.unusedVariables false
set_option linter.unusedSimpArgs false

theorem u8_some (z : Int) : ∃ b : Nat, IntKind.u8.wrap z = (b : Int) ∧ b < 256 := by
  exact ⟨(z % 256).toNat, by rw [IntKind.wrap_u8]; omega, by omega⟩
theorem mats_at {w : World} {A : Option Addr} {n c : Nat} {l : List M3} (h : MatsIn w (.slice A n c) l) {k : Nat} (hk : k < l.length) :
    ∃ b o R C A' ns k', A = some ⟨b, o, none⟩ ∧ b < w.heap.size ∧ w.cell? ⟨b, o + k * 3, none⟩ = some (.int .i64 R) ∧ w.cell? ⟨b, o + k * 3 + 1, none⟩ = some (.int .i64 C) ∧ w.cell? ⟨b, o + k * 3 + 2, none⟩ = some (.slice A' ns.length k') ∧ BytesV w (.slice A' ns.length k') ns ∧ ns.length ≤ k' ∧ k' ≤ 9223372036854775807 ∧
      R = (l.getD k (0, 0, .slice none 0 0)).1 ∧ C = (l.getD k (0, 0, .slice none 0 0)).2.1 := by
  obtain ⟨A1, c1, e, _, h⟩ := h
  cases e
  obtain ⟨b, o, rfl, hb, k0, k1, k2, ⟨ns, hns, A3, k3, e3, h3, h4⟩, _⟩ := h k hk
  rw [e3] at k2 hns
  exact ⟨b, o, _, _, A3, ns, k3, rfl, hb, k0, k1, k2, hns, h3, h4, rfl, rfl⟩

set_option maxRecDepth 100000 in
set_option maxHeartbeats 4000000 in
theorem square_any (vM vN vL : Value) (l : List M3) (n by_ : Nat) (w : World) (hM : MatsIn w vM l) (h1 : 1 ≤ n) (h2 : n ≤ 8) (hby : by_ ≤ 9) :
    Calls Try.prog 10 #[.agg #[vM, vN, vL], .int .i64 (n : Int), .int .i64 (by_ : Int)] w fun e w' => ∃ v ns, e = .returned v ∧ MadeM w w' v n n ns ∧ Below w.heap.size w w' := by
  obtain ⟨x, hx⟩ : ∃ x, x = n * n := ⟨_, rfl⟩
  have hm1 : (n : Int) * (n : Int) = (x : Int) := by rw [hx]; simp
  have hxs : x ≤ 8 * 8 := by rw [hx]; exact Nat.mul_le_mul h2 h2
  have w1 : IntKind.i64.wrap (x : Int) = (x : Int) := IntWalk.i64_in _ (by omega)
  have hmk := hmkM (n := x) (by omega)
  obtain ⟨C, hC⟩ : ∃ C, C = cellsOf8 (List.replicate x 0) := ⟨_, rfl⟩
  rw [← hC] at hmk
  obtain ⟨A, c, rfl, hll, _⟩ := id hM
  obtain ⟨oA, hoA⟩ : ∃ o, o = (Obj.cells #[.slice A l.length c, vN, vL] 26) := ⟨_, rfl⟩
  obtain ⟨oR, hoR⟩ : ∃ o, o = (Obj.cells #[.int .i64 0, .int .i64 0, .slice none 0 0] 30) := ⟨_, rfl⟩
  obtain ⟨oM, hoM⟩ : ∃ o, o = (Obj.cells #[.int .i64 (n : Int), .int .i64 (n : Int), .slice (some ⟨w.heap.size + 1 + 1, 0, none⟩) x x] 30) := ⟨_, rfl⟩
  have tA := Three.new w (.slice A l.length c) vN vL 26
  rw [← hoA] at tA
  have tR := Three.new (w.alloc oA) (.int .i64 0) (.int .i64 0) (.slice none 0 0) 30
  rw [World.size_alloc, ← hoR] at tR
  have tM := Three.new (((w.alloc oA).alloc oR).alloc (.cells C 5)) (.int .i64 (n : Int)) (.int .i64 (n : Int)) (.slice (some ⟨w.heap.size + 1 + 1, 0, none⟩) x x) 30
  rw [World.size_alloc, World.size_alloc, World.size_alloc, ← hoM] at tM
  have hb := bytesBlk_new ((w.alloc oA).alloc oR) (ns := List.replicate x 0) rfl 5 (by intro y hy; rw [List.eq_of_mem_replicate hy]; decide)
  rw [World.size_alloc, World.size_alloc, ← hC] at hb
  have hb2 := blk_below hb (by simp) ((Below.refl _ (((w.alloc oA).alloc oR).alloc (.cells C 5))).alloc (Nat.le_refl _) oM)
  have hbe : Below w.heap.size w ((((w.alloc oA).alloc oR).alloc (.cells C 5)).alloc oM) := ((((Below.refl w.heap.size w).alloc (Nat.le_refl _) oA).alloc (by simp) oR).alloc (by simp; omega) _).alloc (by simp; omega) oM
  have HD0 := Lib.hid hb2
  have HTM := Lib.hid tM
  have HTR := Lib.hid ((tR.alloc (.cells C 5)).alloc oM)
  have HTA := Lib.hid (((tA.alloc oR).alloc (.cells C 5)).alloc oM)
  have HBE := Lib.hid hbe
  have hbs : w.heap.size + 1 + 1 < ((((w.alloc oA).alloc oR).alloc (.cells C 5)).alloc oM).heap.size := by simp
  have HX := Lib.hid hx
  have HM := Lib.hid hM
  clear tR tM tA hb hb2 hbe hC hx hM
  go_enter Try.func10, Try.ntmps10
  go_wp2_with fail
  rw [← hoA, ← hoR, ← hoM]
  generalize (((w.alloc oA).alloc oR).alloc (.cells C 5)).alloc oM = W0 at *
  clear hoA hoR hoM hmk
  go_loopw [8] (fun q wr => ∃ (j : Nat) (ns : List Nat), q = .int .i64 j ∧ j ≤ x ∧ ns.length = x ∧ w.heap.size + 1 + 1 < wr.heap.size ∧ Hid (BytesBlk wr (w.heap.size + 1 + 1) ns) ∧ Hid (Three wr (w.heap.size + 1 + 1 + 1) (.int .i64 (n : Int)) (.int .i64 (n : Int)) (.slice (some ⟨w.heap.size + 1 + 1, 0, none⟩) x x)) ∧ Hid (Three wr (w.heap.size + 1) (.int .i64 0) (.int .i64 0) (.slice none 0 0)) ∧ Hid (Three wr w.heap.size (.slice A l.length c) vN vL) ∧ Hid (Below w.heap.size w wr)) (fun q _ => x - (intOf q).toNat)
  case atStart => exact ⟨0, _, rfl, by omega, List.length_replicate, hbs, HD0, HTM, HTR, HTA, HBE⟩
  case round =>
    clear HD0 HTM HTR HTA HBE hbs
    obtain ⟨j, ns, rfl, hj, hnl, hbs, HD, HTM, HTR, HTA, HBE⟩ := hrel
    obtain ⟨a0, a1, a2, a3, a4, a5⟩ := HTM.out
    obtain ⟨g0, g1, g2, _, _, _⟩ := HTA.out
    clear a3 a4 a5
    by_cases hjn : j < x
    · obtain ⟨c1, c2, c3⟩ := HD.out j (by omega)
      generalize ns.getD j 0 = old at c2
      obtain ⟨d1, hd1⟩ : ∃ d, d = j * j := ⟨_, rfl⟩
      obtain ⟨d2, hd2⟩ : ∃ d, d = d1 * by_ := ⟨_, rfl⟩
      have p1 : (j : Int) * (j : Int) = (d1 : Int) := by rw [hd1]; simp
      have p2 : (d1 : Int) * (by_ : Int) = (d2 : Int) := by rw [hd2]; simp
      have b1 : d1 ≤ 63 * 63 := by rw [hd1]; exact Nat.mul_le_mul (by omega) (by omega)
      have b2 : d2 ≤ (63 * 63) * 9 := by rw [hd2]; exact Nat.mul_le_mul b1 hby
      have v1 : IntKind.i64.wrap (d1 : Int) = (d1 : Int) := IntWalk.i64_in _ (by omega)
      have v2 : IntKind.i64.wrap (d2 : Int) = (d2 : Int) := IntWalk.i64_in _ (by omega)
      have v3 : IntKind.i64.wrap (7 * (by_ : Int)) = 7 * (by_ : Int) := IntWalk.i64_in _ (by omega)
      have v4 : IntKind.i64.wrap ((d2 : Int) + 7 * (by_ : Int)) = (d2 : Int) + 7 * (by_ : Int) := IntWalk.i64_in _ (by omega)
      have v5 : IntKind.i64.wrap ((d2 : Int) + 7 * (by_ : Int) + (j : Int)) = (d2 : Int) + 7 * (by_ : Int) + (j : Int) := IntWalk.i64_in _ (by omega)
      obtain ⟨bn, hbn, hbn2⟩ := u8_some ((d2 : Int) + 7 * (by_ : Int) + (j : Int))
      have HD1 : Hid (BytesBlk (wr.setCell ⟨w.heap.size + 1 + 1, j, none⟩ (.int .u8 (bn : Int))) (w.heap.size + 1 + 1) (ns.set j bn)) := HD.out.next hbn2
      have HTM1 := Lib.hid (three_cell (d := ⟨w.heap.size + 1 + 1, j, none⟩) (u := .int .u8 (bn : Int)) HTM.out (by dsimp only; omega))
      have HTR1 := Lib.hid (three_cell (d := ⟨w.heap.size + 1 + 1, j, none⟩) (u := .int .u8 (bn : Int)) HTR.out (by dsimp only; omega))
      have HTA1 := Lib.hid (three_cell (d := ⟨w.heap.size + 1 + 1, j, none⟩) (u := .int .u8 (bn : Int)) HTA.out (by dsimp only; omega))
      have HBE1 := Lib.hid (HBE.out.setCell (p := ⟨w.heap.size + 1 + 1, j, none⟩) (by dsimp only; omega) (.int .u8 (bn : Int)))
      have hbs1 : w.heap.size + 1 + 1 < (wr.setCell ⟨w.heap.size + 1 + 1, j, none⟩ (.int .u8 (bn : Int))).heap.size := by rw [World.size_setCell]; exact hbs
      have hl1 : (ns.set j bn).length = x := by rw [List.length_set]; exact hnl
      have i0 : (0 : Int) ≤ (j : Int) := by omega
      have i1 : (j : Int) < (x : Int) := by omega
      clear HD HTM HTR HTA HBE hd1 hd2 hbs
      go_upto_region 6 with (fail)
      generalize wr.setCell ⟨w.heap.size + 1 + 1, j, none⟩ (.int .u8 (bn : Int)) = V at *
      clear a0 a1 a2 g0 g1 g2 c1 c2 c3 hbn v1 v2 v3 v4 v5 p1 p2 b1 b2
      obtain ⟨a0, a1, a2, _, _, _⟩ := HTM1.out
      obtain ⟨g0, g1, g2, _, _, _⟩ := HTA1.out
      by_cases hl0 : 0 < l.length
      · obtain ⟨b, o, R, C', A', ms, k', rfl, hb, k0, k1, k2, hms, hk', _, _, _⟩ := mats_at (HM.out.below HBE1.out) hl0
        rw [Nat.zero_mul, Nat.add_zero] at k2
        have hl0d : decide ((0 : Int) < (l.length : Int)) = true := by simp; omega
        have l0 : (0 : Int) < (l.length : Int) := by omega
        have HMS := Lib.hid hms
        clear k0 k1 hms
        by_cases hs0 : 0 < ms.length
        · have hs0d : decide ((0 : Int) < (ms.length : Int)) = true := by simp; omega
          obtain ⟨c1, c2, c3⟩ := HD1.out j (by omega)
          obtain ⟨old, hold⟩ : ∃ old, old = (ns.set j bn).getD j 0 := ⟨_, rfl⟩
          rw [← hold] at c1 c2
          obtain ⟨q, hq⟩ : ∃ q, q = j * by_ := ⟨_, rfl⟩
          have pq : (j : Int) * (by_ : Int) = (q : Int) := by rw [hq]; simp
          have bq : q ≤ 63 * 9 := by rw [hq]; exact Nat.mul_le_mul (by omega) hby
          have vq : IntKind.i64.wrap (q : Int) = (q : Int) := IntWalk.i64_in _ (by omega)
          obtain ⟨rm, hrm⟩ : ∃ rm, rm = q % ms.length := ⟨_, rfl⟩
          have hrl : rm < ms.length := by rw [hrm]; exact Nat.mod_lt _ hs0
          have trm : Int.tmod (q : Int) (ms.length : Int) = (rm : Int) := by rw [hrm]; rfl
          have vrm : IntKind.i64.wrap (rm : Int) = (rm : Int) := IntWalk.i64_in _ (by have := bq; have : rm ≤ q := by rw [hrm]; exact Nat.mod_le _ _
                                                                                      omega)
          obtain ⟨b3, o3, rfl, hb3, m2⟩ := HMS.out.at_ hrl
          have hm256 := HMS.out.lt rm
          generalize ms.getD rm 0 = mm at m2 hm256
          have hxr := bits_xor_u8 c1 hm256
          have hx256 : old ^^^ mm < 256 := Gf.xor_lt c1 hm256
          obtain ⟨xx, hxx⟩ : ∃ xx, xx = old ^^^ mm := ⟨_, rfl⟩
          rw [← hxx] at hxr hx256
          have hmz : ((ms.length : Int) == 0) = false := beq_eq_false_iff_ne.2 (by omega)
          have e5 : ¬ ((ms.length : Int) = 0) := by omega
          have e7 : ¬ (ms.length = 0) := by omega
          have e8 : ¬ (ms = []) := fun e => by rw [e] at hs0; simp at hs0
          have r0 : (0 : Int) ≤ (rm : Int) := by omega
          have r1 : (rm : Int) < (ms.length : Int) := by omega
          clear hold hq hrm hxx
          go_wp2_with fail
          go_still_tail 27, (by kernel_rfl)
          change wpList _ _ _ _ _ (World.drew _)
          go_wp2_with fail
          have hq8 : (ns.set j bn).set j xx = (ns.set j bn).set j xx := rfl
          have HD2 : Hid (BytesBlk (V.drew.setCell ⟨w.heap.size + 1 + 1, j, none⟩ (.int .u8 (xx : Int))) (w.heap.size + 1 + 1) ((ns.set j bn).set j xx)) := HD1.out.drew.next hx256
          have HTM2 := Lib.hid (three_cell (d := ⟨w.heap.size + 1 + 1, j, none⟩) (u := .int .u8 (xx : Int)) HTM1.out.drew (by dsimp only; omega))
          have HTR2 := Lib.hid (three_cell (d := ⟨w.heap.size + 1 + 1, j, none⟩) (u := .int .u8 (xx : Int)) HTR1.out.drew (by dsimp only; omega))
          have HTA2 := Lib.hid (three_cell (d := ⟨w.heap.size + 1 + 1, j, none⟩) (u := .int .u8 (xx : Int)) HTA1.out.drew (by dsimp only; omega))
          have HBE2 := Lib.hid (HBE1.out.drew.setCell (p := ⟨w.heap.size + 1 + 1, j, none⟩) (by dsimp only; omega) (.int .u8 (xx : Int)))
          have hbs2 : w.heap.size + 1 + 1 < (V.drew.setCell ⟨w.heap.size + 1 + 1, j, none⟩ (.int .u8 (xx : Int))).heap.size := by rw [World.size_setCell]; exact hbs1
          have hl2 : ((ns.set j bn).set j xx).length = x := by rw [List.length_set]; exact hl1
          go_roundw
          case rel => exact ⟨j + 1, _, by go_num, by omega, hl2, hbs2, HD2, HTM2, HTR2, HTA2, HBE2⟩
          case measure => simp [intOf]; omega
        · have hs0d : decide ((0 : Int) < (ms.length : Int)) = false := decide_eq_false (by omega)
          go_wp2_with fail
          go_roundw
          case rel => exact ⟨j + 1, _, by go_num, by omega, hl1, hbs1, HD1, HTM1, HTR1, HTA1, HBE1⟩
          case measure => simp [intOf]; omega
      · have hl0d : decide ((0 : Int) < (l.length : Int)) = false := decide_eq_false (by omega)
        go_wp2_with fail
        go_roundw
        case rel => exact ⟨j + 1, _, by go_num, by omega, hl1, hbs1, HD1, HTM1, HTR1, HTA1, HBE1⟩
        case measure => simp [intOf]; omega
    · have hjx : j = x := by omega
      have hjd : decide ((j : Int) < (x : Int)) = false := by simp; omega
      obtain ⟨r0, r1, r2, r3, r4, r5⟩ := HTR.out
      clear hjx
      go_wp2_with fail
      obtain ⟨t0, t1, t2, _, _, _⟩ := three_put HTR.out (.int .i64 (n : Int)) (.int .i64 (n : Int)) (.slice (some ⟨w.heap.size + 1 + 1, 0, none⟩) x x)
      refine bodyPost_ret (v := matV (n : Int) (n : Int) (.slice (some ⟨w.heap.size + 1 + 1, 0, none⟩) x x)) (by simp [results, Try.results10, go_sem, matV, *]) rfl ⟨_, ns, rfl, ⟨w.heap.size + 1 + 1, by omega, by simp only [World.size_setCell]; exact hbs, by rw [← HX.out], ?_, by rw [hnl, HX.out]⟩, ?_⟩
      · exact blk_cell (blk_cell (blk_cell HD.out (by dsimp only; omega)) (by dsimp only; omega)) (by dsimp only; omega)
      · exact ((HBE.out.setCell (p := ⟨w.heap.size + 1, 0, none⟩) (by simp) _).setCell (p := ⟨w.heap.size + 1, 1, none⟩) (by simp) _).setCell (p := ⟨w.heap.size + 1, 2, none⟩) (by simp) _
end Go.Proofs.Ytibinkppbdeofaa
