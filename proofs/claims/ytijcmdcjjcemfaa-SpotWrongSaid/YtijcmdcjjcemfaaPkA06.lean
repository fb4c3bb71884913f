/- siloref1.Times, walked. -/
import Derived.Test.YtijcmdcjjcemfaaPkA05
import Derived.Test.YtijcmdcjjcemfaaPkA03
namespace Go.Proofs.Ytijcmdcjjcemfaa
open Go.ChangeShapes Go.WideShapes Go.ChangeAt Go.RowKit Go.Joins
set_option linter.unusedVariables false
set_option linter.unusedSimpArgs false

set_option maxRecDepth 100000 in
set_option maxHeartbeats 2000000 in
theorem refTimes_any (ra ca cb : Nat) (va vb : Value) (ms bs : List Nat) (w : World) (ha : BytesV w va ms) (hb : BytesV w vb bs) (hla : ms.length = ra * ca) (hlb : bs.length = ca * cb)
    (h1 : 1 ≤ ra) (h2 : ra ≤ 16) (h3 : 1 ≤ ca) (h4 : ca ≤ 16) (h5 : 1 ≤ cb) (h6 : cb ≤ 16) :
    Calls Try.prog 37 #[matV (ra : Int) (ca : Int) va, matV (ca : Int) (cb : Int) vb] w fun e w' =>
      ∃ v, e = .returned v ∧ MadeM w w' v ra cb (timesL ms bs ra ca cb) ∧ Below w.heap.size w w' := by
  obtain ⟨Aa, ka, rfl⟩ := ha.shape
  obtain ⟨Ab, kb, rfl⟩ := hb.shape
  obtain ⟨x, hx⟩ : ∃ x, x = ra * cb := ⟨_, rfl⟩
  have hm1 : (ra : Int) * (cb : Int) = (x : Int) := by rw [hx]; simp
  have hxs : x ≤ 16 * 16 := by rw [hx]; exact Nat.mul_le_mul h2 h6
  have w1 : IntKind.i64.wrap (x : Int) = (x : Int) := IntWalk.i64_in _ (by omega)
  have hmk := hmkM (n := x) (by omega)
  obtain ⟨C, hC⟩ : ∃ C, C = cellsOf8 (List.replicate x 0) := ⟨_, rfl⟩
  rw [← hC] at hmk
  obtain ⟨oA, hoA⟩ : ∃ o, o = (Obj.cells #[.int .i64 (ra : Int), .int .i64 (ca : Int), .slice Aa ms.length ka] 55) := ⟨_, rfl⟩
  obtain ⟨oB, hoB⟩ : ∃ o, o = (Obj.cells #[.int .i64 (ca : Int), .int .i64 (cb : Int), .slice Ab bs.length kb] 55) := ⟨_, rfl⟩
  obtain ⟨oR, hoR⟩ : ∃ o, o = (Obj.cells #[.int .i64 0, .int .i64 0, .slice none 0 0] 55) := ⟨_, rfl⟩
  have tA := Three.new w (.int .i64 (ra : Int)) (.int .i64 (ca : Int)) (.slice Aa ms.length ka) 55
  rw [← hoA] at tA
  have tB := Three.new (w.alloc oA) (.int .i64 (ca : Int)) (.int .i64 (cb : Int)) (.slice Ab bs.length kb) 55
  rw [World.size_alloc, ← hoB] at tB
  have tR := Three.new ((w.alloc oA).alloc oB) (.int .i64 0) (.int .i64 0) (.slice none 0 0) 55
  rw [World.size_alloc, World.size_alloc, ← hoR] at tR
  have HTA := Lib.hid ((tA.alloc oB).alloc oR)
  have HTB := Lib.hid (tB.alloc oR)
  have HTR := Lib.hid tR
  have hbe : Below w.heap.size w (((w.alloc oA).alloc oB).alloc oR) := (((Below.refl w.heap.size w).alloc (Nat.le_refl _) oA).alloc (by simp) oB).alloc (by simp; omega) oR
  have HBE := Lib.hid hbe
  have HSZ := Lib.hid (show (((w.alloc oA).alloc oB).alloc oR).heap.size = w.heap.size + 1 + 1 + 1 by simp)
  have HX := Lib.hid hx
  have HC := Lib.hid hC
  have HA := Lib.hid ha
  have HB := Lib.hid hb
  have HLA := Lib.hid hla
  have HLB := Lib.hid hlb
  clear hx hC ha hb tA tB tR hbe hla hlb
  unfold matV
  go_enter Try.func37, Try.ntmps37
  go_wp2_with fail
  rw [← hoA, ← hoB, ← hoR]
  generalize ((w.alloc oA).alloc oB).alloc oR = W0 at *
  clear hoA hoB hoR
  obtain ⟨a0, a1, a2, a3, a4, a5⟩ := HTA.out
  obtain ⟨b0, b1, b2, b3, b4, b5⟩ := HTB.out
  clear a3 a4 a5 b3 b4 b5
  have fa : ∀ o, (W0.alloc o).cell? ⟨w.heap.size, 0, none⟩ = some (.int .i64 (ra : Int)) := fun o => (HTA.out.alloc o).c0
  have fb : ∀ o, (W0.alloc o).cell? ⟨w.heap.size + 1, 1, none⟩ = some (.int .i64 (cb : Int)) := fun o => (HTB.out.alloc o).c1
  have fa2 : ∀ o o', ((W0.alloc o).alloc o').cell? ⟨w.heap.size, 0, none⟩ = some (.int .i64 (ra : Int)) := fun o o' => ((HTA.out.alloc o).alloc o').c0
  have fb2 : ∀ o o', ((W0.alloc o).alloc o').cell? ⟨w.heap.size + 1, 1, none⟩ = some (.int .i64 (cb : Int)) := fun o o' => ((HTB.out.alloc o).alloc o').c1
  go_cut [5] from 10 to 20 (fun v wx => ∃ X Bm, v = .pointer (some ⟨Bm, 0, none⟩) ∧ w.heap.size + 1 + 1 + 1 ≤ X ∧ w.heap.size + 1 + 1 + 1 ≤ Bm ∧ X ≠ Bm ∧ Hid (X < wx.heap.size) ∧ Hid (BytesBlk wx X (List.replicate x 0)) ∧ Hid (Three wx Bm (.int .i64 (ra : Int)) (.int .i64 (cb : Int)) (.slice (some ⟨X, 0, none⟩) x x)) ∧ Hid (Below W0.heap.size W0 wx))
  case first =>
    go_region
    · go_wp2_with fail
      go_meet
      have tM := Three.new (W0.alloc (.cells C 5)) (.int .i64 (ra : Int)) (.int .i64 (cb : Int)) (.slice (some ⟨W0.heap.size, 0, none⟩) x x) 55
      rw [World.size_alloc] at tM
      have hb := bytesBlk_new W0 (ns := List.replicate x 0) rfl 5 (by intro y hy; rw [List.eq_of_mem_replicate hy]; decide)
      rw [← HC.out] at hb
      have hb2 := blk_below hb (by simp) ((Below.refl _ (W0.alloc (.cells C 5))).alloc (Nat.le_refl _) (.cells #[.int .i64 (ra : Int), .int .i64 (cb : Int), .slice (some ⟨W0.heap.size, 0, none⟩) x x] 55))
      exact ⟨W0.heap.size, W0.heap.size + 1, rfl, by rw [HSZ.out]; omega, by rw [HSZ.out]; omega, by omega, (by show W0.heap.size < ((W0.alloc _).alloc _).heap.size; simp; omega), hb2.drew, tM.drew, Below.drew (((Below.refl W0.heap.size W0).alloc (Nat.le_refl _) _).alloc (by simp) _)⟩
    · go_wp2_with fail
      go_meet
      have tM := (Three.new W0 (.int .i64 (ra : Int)) (.int .i64 (cb : Int)) (.slice (some ⟨W0.heap.size + 1, 0, none⟩) x x) 55).alloc (.cells C 5)
      have hb := bytesBlk_new (W0.alloc (.cells #[.int .i64 (ra : Int), .int .i64 (cb : Int), .slice (some ⟨W0.heap.size + 1, 0, none⟩) x x] 55)) (ns := List.replicate x 0) rfl 5 (by intro y hy; rw [List.eq_of_mem_replicate hy]; decide)
      rw [← HC.out, World.size_alloc] at hb
      exact ⟨W0.heap.size + 1, W0.heap.size, rfl, by rw [HSZ.out]; omega, by rw [HSZ.out]; omega, by omega, (by show W0.heap.size + 1 < ((W0.alloc _).alloc _).heap.size; simp), hb.drew, tM.drew, Below.drew (((Below.refl W0.heap.size W0).alloc (Nat.le_refl _) _).alloc (by simp) _)⟩
  case rest =>
  obtain ⟨X, Bm, rfl, hX, hBm, hXB, HXL, HD0, HTM, HW0⟩ := hcut
  have HALL : Hid (∀ wr, Kept (fun j => j = X) wc wr → Three wr w.heap.size (.int .i64 (ra : Int)) (.int .i64 (ca : Int)) (.slice Aa ms.length ka) ∧ Three wr (w.heap.size + 1) (.int .i64 (ca : Int)) (.int .i64 (cb : Int)) (.slice Ab bs.length kb) ∧ Three wr (w.heap.size + 1 + 1) (.int .i64 0) (.int .i64 0) (.slice none 0 0) ∧ Three wr Bm (.int .i64 (ra : Int)) (.int .i64 (cb : Int)) (.slice (some ⟨X, 0, none⟩) x x) ∧ Below w.heap.size w wr) := fun wr hk =>
    ⟨(HTA.out.below HW0.out).kept hk (by omega), (HTB.out.below HW0.out).kept hk (by omega), (HTR.out.below HW0.out).kept hk (by omega), HTM.out.kept hk (by omega), (HBE.out.trans (HW0.out.mono HBE.out.size)).trans (hk.below (HBE.out.trans (HW0.out.mono HBE.out.size)).size (fun j hj e => by omega))⟩
  have hf : ∃ f : Nat → Nat, f = fun p => dotK ms bs ca cb (p / cb) (p % cb) ca := ⟨_, rfl⟩
  obtain ⟨f, hf⟩ := hf
  have HF := Lib.hid hf
  have hf256 : ∀ p, f p < 256 := fun p => by rw [hf]; exact dotK_lt HA.out.2 _ _ _ _ _
  have hfq : ∀ i q, q < cb → f (i * cb + q) = dotK ms bs ca cb i q ca := fun i q hq => by
    rw [hf]
    show dotK ms bs ca cb ((i * cb + q) / cb) ((i * cb + q) % cb) ca = _
    rw [Nat.mul_comm i cb, Nat.mul_add_div (by omega), Nat.div_eq_of_lt hq, Nat.add_zero, Nat.mul_add_mod, Nat.mod_eq_of_lt hq]
  have HFQ := Lib.hid hfq
  have HD1 : Hid (BytesBlk wc X (partL x f (fun _ => 0) (0 * cb))) := by
    rw [Nat.zero_mul, partL_zero, show (List.range x).map (fun _ => 0) = List.replicate x 0 by simp [List.map_const']]; exact HD0.out
  clear hf hfq HTA HTB HTR HTM HBE HSZ HD0 a0 a1 a2 b0 b1 b2 fa fb fa2 fb2 hmk
  go_wp2_with fail
  obtain ⟨Wc, rfl⟩ : ∃ Wc : World, Wc = wc := ⟨_, rfl⟩
  go_loopw [6] (fun q wr => ∃ i : Nat, q = .int .i64 i ∧ i ≤ ra ∧ Hid (BytesBlk wr X (partL x f (fun _ => 0) (i * cb))) ∧ Hid (Kept (fun j => j = X) Wc wr)) (fun q _ => ra - (intOf q).toNat)
  case atStart => exact ⟨0, rfl, by omega, HD1, Lib.hid (Kept.refl _ _)⟩
  case round =>
    clear HD1
    obtain ⟨i, rfl, hi, HD, HK⟩ := hrel
    have t := HALL.out _ HK.out
    have a0 := t.1.c0
    clear t
    by_cases hir : i < ra
    · go_wp2_with fail
      obtain ⟨wi, rfl⟩ : ∃ wi : World, wi = wr := ⟨_, rfl⟩
      go_loopw [7] (fun qq wr => ∃ q : Nat, qq = .int .i64 q ∧ q ≤ cb ∧ Hid (BytesBlk wr X (partL x f (fun _ => 0) (i * cb + q))) ∧ Hid (Kept (fun j => j = X) Wc wr)) (fun qq _ => cb - (intOf qq).toNat)
      case atStart => exact ⟨0, rfl, by omega, HD, HK⟩
      case round =>
        clear HD HK a0
        obtain ⟨q, rfl, hq, HD, HK⟩ := hrel
        have t := HALL.out _ HK.out
        have b1 := t.2.1.c1
        clear t
        by_cases hqc : q < cb
        · go_wp2_with fail
          obtain ⟨wj, rfl⟩ : ∃ wj : World, wj = wr := ⟨_, rfl⟩
          go_loopw [8, 9] (fun xx jj wr => ∃ j : Nat, jj = .int .i64 j ∧ j ≤ ca ∧ xx = .int .u8 ((dotK ms bs ca cb i q j : Nat) : Int) ∧ Hid (BytesBlk wr X (partL x f (fun _ => 0) (i * cb + q))) ∧ Hid (Kept (fun j => j = X) Wc wr)) (fun _ jj _ => ca - (intOf jj).toNat)
          case atStart => exact ⟨0, rfl, by omega, rfl, HD, HK⟩
          case round =>
            clear HD HK b1
            obtain ⟨j, rfl, hj, rfl, HD, HK⟩ := hrel
            obtain ⟨tA, tB, tR, tM, hbe⟩ := HALL.out _ HK.out
            obtain ⟨a0, a1, a2, a3, a4, a5⟩ := tA
            obtain ⟨b0, b1, b2, b3, b4, b5⟩ := tB
            have HTM := Lib.hid tM
            have hAw := HA.out.below hbe
            have hBw := HB.out.below hbe
            clear a3 a4 a5 b3 b4 b5 tR tM hbe
            by_cases hjc : j < ca
            · have hia : i * ca + j < ms.length := by
                rw [HLA.out]
                have := Nat.mul_le_mul_right ca hir
                rw [Nat.succ_mul] at this; omega
              have hjb : j * cb + q < bs.length := by
                rw [HLB.out]
                have := Nat.mul_le_mul_right cb hjc
                rw [Nat.succ_mul] at this; omega
              obtain ⟨ba, oa, rfl, _, ha⟩ := hAw.at_ hia
              obtain ⟨bb, ob, rfl, _, hb⟩ := hBw.at_ hjb
              have hm256 := hAw.lt (i * ca + j)
              have hb256 := hBw.lt (j * cb + q)
              have HNX := Lib.hid (dotK_succ ms bs ca cb i q j)
              have hd256 := dotK_lt (bs := bs) HA.out.2 ca cb i q j
              obtain ⟨x1, hx1⟩ : ∃ x1, x1 = i * ca := ⟨_, rfl⟩
              obtain ⟨y1, hy1⟩ : ∃ y1, y1 = j * cb := ⟨_, rfl⟩
              have p1 : (i : Int) * (ca : Int) = (x1 : Int) := by rw [hx1]; simp
              have p2 : (j : Int) * (cb : Int) = (y1 : Int) := by rw [hy1]; simp
              have hxs1 : x1 ≤ 16 * 16 := by rw [hx1]; exact Nat.mul_le_mul (by omega) h4
              have hys1 : y1 ≤ 16 * 16 := by rw [hy1]; exact Nat.mul_le_mul (by omega) h6
              rw [← hx1] at ha hia hm256 HNX
              rw [← hy1] at hb hjb hb256 HNX
              generalize ms.getD (x1 + j) 0 = mm at *
              generalize bs.getD (y1 + q) 0 = bbv at *
              obtain ⟨g, hg⟩ : ∃ g, Gf.mul mm bbv = g := ⟨_, rfl⟩
              have hg256 : g < 256 := by rw [← hg]; exact Gf.mul_lt _ hm256
              rw [hg] at HNX
              have HG := Lib.hid hg
              obtain ⟨dd, hdd⟩ : ∃ dd, dd = dotK ms bs ca cb i q j := ⟨_, rfl⟩
              rw [← hdd] at hd256 HNX
              rw [← hdd]
              have hxg := bits_xor_u8 hd256 hg256
              have k0 : (0 : Int) ≤ (x1 : Int) + (j : Int) := by omega
              have k1 : (x1 : Int) + (j : Int) < (ms.length : Int) := by omega
              have k2 : (0 : Int) ≤ (y1 : Int) + (q : Int) := by omega
              have k3 : (y1 : Int) + (q : Int) < (bs.length : Int) := by omega
              have e1 : ((x1 : Int) + (j : Int)).toNat = x1 + j := by omega
              have e2 : ((y1 : Int) + (q : Int)).toNat = y1 + q := by omega
              have w2 : IntKind.i64.wrap ((x1 : Int) + (j : Int)) = (x1 : Int) + (j : Int) := IntWalk.i64_in _ (by omega)
              have w3 : IntKind.i64.wrap ((y1 : Int) + (q : Int)) = (y1 : Int) + (q : Int) := IntWalk.i64_in _ (by omega)
              have w4 : IntKind.i64.wrap (x1 : Int) = (x1 : Int) := IntWalk.i64_in _ (by omega)
              have w5 : IntKind.i64.wrap (y1 : Int) = (y1 : Int) := IntWalk.i64_in _ (by omega)
              clear hg hdd hx1 hy1 hAw hBw
              go_wp2_with fail
              go_quiet (first | (go_at_call 48; exact quiet_left (refMul_nat _ _ _ _ (by omega) (by omega) HG.out)))
              all_goals
                go_wp2_with fail
                go_roundw
                case rel => exact ⟨j + 1, by go_num, by omega, by rw [HNX.out], Lib.hid HD.out, Lib.hid (Kept.drewN HK.out _)⟩
                case measure => simp [intOf]; omega
            · have hjc : j = ca := by omega
              have HFV := Lib.hid (HFQ.out i q hqc)
              have hin : i * cb + q < ra * cb := by
                have := Nat.mul_le_mul_right cb hir
                rw [Nat.succ_mul] at this; omega
              obtain ⟨c1, c2, c3⟩ := HD.out (i * cb + q) (by rw [partL_length, HX.out]; exact hin)
              have HNX := Lib.hid (partL_succ x f (fun _ => 0) (i * cb + q))
              generalize (partL x f (fun _ => 0) (i * cb + q)).getD (i * cb + q) 0 = old at c2
              have hfv := hf256 (i * cb + q)
              have HD1 : Hid (BytesBlk (wr.setCell ⟨X, i * cb + q, none⟩ (.int .u8 ((f (i * cb + q) : Nat) : Int))) X (partL x f (fun _ => 0) (i * cb + (q + 1)))) := by
                rw [← Nat.add_assoc, HNX.out]; exact HD.out.next hfv
              have HK1 : Hid (Kept (fun j => j = X) Wc (wr.setCell ⟨X, i * cb + q, none⟩ (.int .u8 ((f (i * cb + q) : Nat) : Int)))) := Lib.hid (HK.out.setCell (d := ⟨X, i * cb + q, none⟩) (fun _ => rfl) _)
              rw [HFV.out] at HD1 HK1
              rw [hjc]
              obtain ⟨y1, hy1⟩ : ∃ y1, y1 = i * cb := ⟨_, rfl⟩
              have p1 : (i : Int) * (cb : Int) = (y1 : Int) := by rw [hy1]; simp
              have hys1 : y1 ≤ 16 * 16 := by rw [hy1]; exact Nat.mul_le_mul (by omega) h6
              rw [← hy1, ← HX.out] at hin
              rw [← hy1] at c2 c3 HD1 HK1
              have HY := Lib.hid hy1
              obtain ⟨m0, m1, m2, m3, m4, m5⟩ := HTM.out
              clear m3 m4 m5
              generalize dotK ms bs ca cb i q ca = dd at *
              have k0 : (0 : Int) ≤ (y1 : Int) + (q : Int) := by omega
              have k1 : (y1 : Int) + (q : Int) < (x : Int) := by omega
              have e1 : ((y1 : Int) + (q : Int)).toNat = y1 + q := by omega
              have w2 : IntKind.i64.wrap ((y1 : Int) + (q : Int)) = (y1 : Int) + (q : Int) := IntWalk.i64_in _ (by omega)
              have w4 : IntKind.i64.wrap (y1 : Int) = (y1 : Int) := IntWalk.i64_in _ (by omega)
              have hjd : decide ((ca : Int) < (ca : Int)) = false := by simp
              clear hjc HD HK hfv HNX HFV hAw hBw hy1 HTM
              go_wp2_with fail
              go_roundw
              case rel => exact ⟨q + 1, by go_num, by omega, by rw [← HY.out]; exact HD1, HK1⟩
              case measure => simp [intOf]; omega
        · have hqe : q = cb := by omega
          have H1 := HD.out
          rw [hqe, ← Nat.succ_mul] at H1
          have HD1 := Lib.hid H1
          clear H1 hqe
          go_wp2_with fail
          go_roundw
          case rel => exact ⟨i + 1, by go_num, by omega, HD1, HK⟩
          case measure => simp [intOf]; omega
    · have hie : i = ra := by omega
      have H1 := HD.out
      rw [hie, ← HX.out, partL_all] at H1
      have HD2 : Hid (BytesBlk wr X (timesL ms bs ra ca cb)) := by rw [HF.out, HX.out] at H1; exact H1
      obtain ⟨_, _, tR, tM, hbe⟩ := HALL.out _ HK.out
      have HTR := Lib.hid tR
      have HBE := Lib.hid hbe
      have hxl := Nat.lt_of_lt_of_le HXL.out HK.out.size
      obtain ⟨r0, r1, r2, r3, r4, r5⟩ := tR
      obtain ⟨m0, m1, m2, m3, m4, m5⟩ := tM
      clear m3 m4 m5 H1 hie HD hbe
      go_wp2_with fail
      obtain ⟨t0, t1, t2, _, _, _⟩ := three_put HTR.out (.int .i64 (ra : Int)) (.int .i64 (cb : Int)) (.slice (some ⟨X, 0, none⟩) x x)
      refine bodyPost_ret (v := matV (ra : Int) (cb : Int) (.slice (some ⟨X, 0, none⟩) x x)) (by simp [results, Try.results37, go_sem, matV, t0, t1, t2]) rfl ⟨_, rfl, ⟨X, by omega, by simp only [World.size_setCell]; exact hxl, by rw [← HX.out], ?_, timesL_length ms bs ra ca cb⟩, ?_⟩
      · exact blk_cell (blk_cell (blk_cell HD2.out (by dsimp only; omega)) (by dsimp only; omega)) (by dsimp only; omega)
      · exact ((HBE.out.setCell (p := ⟨w.heap.size + 1 + 1, 0, none⟩) (by dsimp only; omega) _).setCell (p := ⟨w.heap.size + 1 + 1, 1, none⟩) (by dsimp only; omega) _).setCell (p := ⟨w.heap.size + 1 + 1, 2, none⟩) (by dsimp only; omega) _
end Go.Proofs.Ytijcmdcjjcemfaa

/- matrix.Mul, walked. -/

namespace Go.Proofs.Ytijcmdcjjcemfaa
open Go.ChangeShapes Go.WideShapes Go.ChangeAt Go.RowKit Go.Joins
set_option linter.unusedVariables false
set_option linter.unusedSimpArgs false

theorem mayM_of {r c n : Nat} (h1 : 1 ≤ r) (h2 : r ≤ 16) (h3 : 1 ≤ c) (h4 : c ≤ 16) (h : n = r * c) : mayM (r : Int) (c : Int) n = true := by
  unfold mayM
  exact decide_eq_true ⟨by omega, by omega, by omega, by omega, by rw [h]; simp⟩

end Go.Proofs.Ytijcmdcjjcemfaa

/- Rows of matrices changed, the page's way: scaled; another one added; walked. -/

namespace Go.Proofs.Ytijcmdcjjcemfaa
open Go.ChangeShapes Go.WideShapes Go.ChangeAt Go.RowKit Go.Joins
set_option linter.unusedVariables false
set_option linter.unusedSimpArgs false

/-- Numbers from off on, n of them, each changed by itself. -/
def updL (g : Nat → Nat → Nat) (off n : Nat) (l : List Nat) : List Nat := (List.range n).foldl (fun l j => l.set (off + j) (g j (l.getD (off + j) 0))) l
theorem updL_zero (g : Nat → Nat → Nat) (off : Nat) (l : List Nat) : updL g off 0 l = l := rfl
theorem updL_step (g : Nat → Nat → Nat) (off n : Nat) (l : List Nat) : updL g off (n + 1) l = (updL g off n l).set (off + n) (g n ((updL g off n l).getD (off + n) 0)) := by
  rw [updL, List.range_succ, List.foldl_append]; rfl
theorem updL_length (g : Nat → Nat → Nat) (off n : Nat) (l : List Nat) : (updL g off n l).length = l.length := by
  induction n with
  | zero => rfl
  | succ n ih => rw [updL_step, List.length_set, ih]
theorem updL_far (g : Nat → Nat → Nat) (off n : Nat) (l : List Nat) (j : Nat) (h : j < off ∨ off + n ≤ j) : (updL g off n l).getD j 0 = l.getD j 0 := by
  induction n with
  | zero => rfl
  | succ n ih => rw [updL_step, getD_set_ne (by omega), ih (by omega)]
theorem updL_get (g : Nat → Nat → Nat) (off n : Nat) (l : List Nat) (i : Nat) (hi : i < n) (hl : off + n ≤ l.length) : (updL g off n l).getD (off + i) 0 = g i (l.getD (off + i) 0) := by
  induction n with
  | zero => omega
  | succ n ih =>
    by_cases h : i = n
    · rw [updL_step, h, getD_set_eq (by rw [updL_length]; omega), updL_far g off n l (off + n) (by omega)]
    · rw [updL_step, getD_set_ne (by omega), ih (by omega) (by omega)]
theorem updL_succ (g : Nat → Nat → Nat) (off n : Nat) (l : List Nat) : updL g off (n + 1) l = (updL g off n l).set (off + n) (g n (l.getD (off + n) 0)) := by
  rw [updL_step, updL_far g off n l (off + n) (by omega)]
/-- A row scaled. -/
def scaleL (c i by_ : Nat) (l : List Nat) : List Nat := updL (fun _ x => Gf.mul x by_) (i * c) c l
/-- Another row, scaled, added to one. -/
def addL (c i k by_ : Nat) (l : List Nat) : List Nat := updL (fun j x => x ^^^ Gf.mul (l.getD (k * c + j) 0) by_) (i * c) c l

theorem refMul_st (a b g : Nat) (w : World) (ha : a < 256) (hb : b < 256) (hg : Gf.mul a b = g) :
    Calls Try.prog 48 #[.int .u8 (a : Int), .int .u8 (b : Int)] w fun e w' => e = .returned (.int .u8 (g : Int)) ∧ w' = w :=
  (refMul_nat a b g w ha hb hg).mono fun _ _ h => ⟨h.1, h.2.symm⟩
theorem Three.drewS {w : World} {B : Nat} {a b c : Value} (h : Three w B a b c) : Three w.drew B a b c := ⟨h.c0, h.c1, h.c2, h.f0, h.f1, h.f2⟩
theorem Three.below' {w w' : World} {B : Nat} {a b c : Value} (h : Three w B a b c) {p : Nat → Prop} (k : Kept p w w') (hp : ¬ p B) : Three w' B a b c := by
  have hl := cell_block h.c0
  exact ⟨by rw [k.cell (d := ⟨B, 0, none⟩) hl hp]; exact h.c0, by rw [k.cell (d := ⟨B, 1, none⟩) hl hp]; exact h.c1, by rw [k.cell (d := ⟨B, 2, none⟩) hl hp]; exact h.c2,
    by rw [k.frozen (d := ⟨B, 0, none⟩) hl hp]; exact h.f0, by rw [k.frozen (d := ⟨B, 1, none⟩) hl hp]; exact h.f1, by rw [k.frozen (d := ⟨B, 2, none⟩) hl hp]; exact h.f2⟩

set_option maxRecDepth 100000 in
set_option maxHeartbeats 1000000 in
theorem refScale_any (R : Int) (c i by_ B n k : Nat) (ns : List Nat) (w : World) (h : BytesBlk w B ns) (hB : B < w.heap.size) (hn : n = ns.length) (hc : c ≤ 16) (hi : i ≤ 16) (hin : (i + 1) * c ≤ n) (hby : by_ < 256) :
    Calls Try.prog 67 #[matV R (c : Int) (.slice (some ⟨B, 0, none⟩) n k), .int .i64 (i : Int), .int .u8 (by_ : Int)] w fun e w' => e = .returned (.tuple #[]) ∧ BytesBlk w' B (scaleL c i by_ ns) ∧ Kept (fun j => j = B) w w' := by
  subst hn
  have ht := Three.new w (.int .i64 R) (.int .i64 (c : Int)) (.slice (some ⟨B, 0, none⟩) ns.length k) 55
  have HT := Lib.hid ht
  have hb0 := (Below.refl w.heap.size w).alloc (Nat.le_refl _) (.cells #[.int .i64 R, .int .i64 (c : Int), .slice (some ⟨B, 0, none⟩) ns.length k] 55)
  have HK0 : Hid (Kept (fun j => j = B) w (w.alloc (.cells #[.int .i64 R, .int .i64 (c : Int), .slice (some ⟨B, 0, none⟩) ns.length k] 55))) := Lib.hid (Kept.of_below hb0)
  have HD0 : Hid (BytesBlk (w.alloc (.cells #[.int .i64 R, .int .i64 (c : Int), .slice (some ⟨B, 0, none⟩) ns.length k] 55)) B (updL (fun _ x => Gf.mul x by_) (i * c) 0 ns)) := by
    intro j hj
    have k := Kept.of_below (p := fun _ => False) hb0
    obtain ⟨c1, c2, c3⟩ := h j hj
    exact ⟨c1, by rw [k.cell (d := ⟨B, j, none⟩) hB id]; exact c2, by rw [k.frozen (d := ⟨B, j, none⟩) hB id]; exact c3⟩
  obtain ⟨x, hx⟩ : ∃ x, x = i * c := ⟨_, rfl⟩
  have h1 : (i : Int) * (c : Int) = (x : Int) := by rw [hx]; simp
  have hxs : x ≤ 16 * 16 := by rw [hx]; exact Nat.mul_le_mul hi hc
  have hxn : x + c ≤ ns.length := by rw [Nat.add_mul, Nat.one_mul, ← hx] at hin; exact hin
  have w1 : IntKind.i64.wrap (x : Int) = (x : Int) := IntWalk.i64_in _ (by omega)
  have HSC : Hid (scaleL c i by_ ns = updL (fun _ x => Gf.mul x by_) x c ns) := by rw [Hid, scaleL, hx]
  rw [← hx] at HD0
  clear h hx hb0 ht hin
  unfold matV
  go_enter Try.func67, Try.ntmps67
  go_wp2_with fail
  generalize w.alloc (.cells #[.int .i64 R, .int .i64 (c : Int), .slice (some ⟨B, 0, none⟩) ns.length k] 55) = W0 at *
  have HWB : w.heap.size ≠ B := by omega
  generalize hbx : w.heap.size = bx at *
  go_loopw [6] (fun q wr => ∃ j : Nat, q = .int .i64 j ∧ j ≤ c ∧ Hid (BytesBlk wr B (updL (fun _ x => Gf.mul x by_) x j ns)) ∧ Hid (Kept (fun j => j = B) w wr) ∧ Hid (Three wr bx (.int .i64 R) (.int .i64 (c : Int)) (.slice (some ⟨B, 0, none⟩) ns.length k))) (fun q _ => c - (intOf q).toNat)
  case atStart => exact ⟨0, rfl, by omega, HD0, HK0, HT⟩
  case round =>
    clear HD0 HK0 HT
    obtain ⟨j, rfl, hj, HD, HK, HT⟩ := hrel
    obtain ⟨a0, a1, a2, a3, a4, a5⟩ := HT.out
    clear a3 a4 a5
    by_cases hjc : j < c
    · obtain ⟨c1, c2, c3⟩ := HD.out (x + j) (by rw [updL_length]; omega)
      rw [updL_far _ _ _ _ (x + j) (by omega)] at c1 c2
      have HNX := Lib.hid (updL_succ (fun _ x => Gf.mul x by_) x j ns)
      generalize ns.getD (x + j) 0 = old at c1 c2 HNX
      obtain ⟨g, hg⟩ : ∃ g, Gf.mul old by_ = g := ⟨_, rfl⟩
      have hg256 : g < 256 := by rw [← hg]; exact Gf.mul_lt _ c1
      have HD1 : Hid (BytesBlk (wr.setCell ⟨B, x + j, none⟩ (.int .u8 (g : Int))) B (updL (fun _ x => Gf.mul x by_) x (j + 1) ns)) := by
        rw [HNX.out, hg]; exact HD.out.next hg256
      have HK1 : Hid (Kept (fun j => j = B) w (wr.setCell ⟨B, x + j, none⟩ (.int .u8 (g : Int)))) := Lib.hid (HK.out.setCell (d := ⟨B, x + j, none⟩) (fun _ => rfl) _)
      have HT1 : Hid (Three (wr.setCell ⟨B, x + j, none⟩ (.int .u8 (g : Int))) bx (.int .i64 R) (.int .i64 (c : Int)) (.slice (some ⟨B, 0, none⟩) ns.length k)) := Lib.hid (HT.out.below' (p := fun j => j = B) ((Kept.refl (fun j => j = B) wr).setCell (d := ⟨B, x + j, none⟩) (fun _ => rfl) _) (by omega))
      have HG := Lib.hid hg
      have i0 : (0 : Int) ≤ (x : Int) + (j : Int) := by omega
      have i1 : (x : Int) + (j : Int) < (ns.length : Int) := by omega
      have e1 : ((x : Int) + (j : Int)).toNat = x + j := by omega
      have w2 : IntKind.i64.wrap ((x : Int) + (j : Int)) = (x : Int) + (j : Int) := IntWalk.i64_in _ (by omega)
      clear hg HD HK HT HNX
      go_upto_region 4 with (fail)
      go_still_tail 21, (by kernel_rfl)
      still_call (refMul_st _ _ _ _ (by omega) (by omega) HG.out)
      repeat still_step
      refine wpStill_nil ?_
      change wpList _ _ _ _ _ (World.drew _)
      go_wp2_with fail
      go_roundw
      case rel => exact ⟨j + 1, by go_num, by omega, HD1, Lib.hid (Kept.drew HK1.out), Lib.hid HT1.out.drewS⟩
      case measure => simp [intOf]; omega
    · have hjc : j = c := by omega
      have H1 := HD.out
      rw [hjc, ← HSC.out] at H1
      have HD1 := Lib.hid H1
      clear H1 hjc
      go_wp2_with fail
      all_goals
        (try simp only [Exit.inBlock, Exit.then])
        first | refine bodyPost_ret (results_none rfl _ _ _) rfl ?_ | refine bodyPost_end (results_none rfl _ _ _) rfl ?_
        exact ⟨rfl, HD1.out, HK.out⟩
set_option maxRecDepth 100000 in
set_option maxHeartbeats 1000000 in
theorem refAdd_any (R : Int) (c i q by_ B n k : Nat) (ns : List Nat) (w : World) (h : BytesBlk w B ns) (hB : B < w.heap.size) (hn : n = ns.length) (hc : c ≤ 16) (hi : i ≤ 16) (hq : q ≤ 16) (hiq : i ≠ q) (hin : (i + 1) * c ≤ n) (hqn : (q + 1) * c ≤ n) (hby : by_ < 256) :
    Calls Try.prog 68 #[matV R (c : Int) (.slice (some ⟨B, 0, none⟩) n k), .int .i64 (i : Int), .int .i64 (q : Int), .int .u8 (by_ : Int)] w fun e w' => e = .returned (.tuple #[]) ∧ BytesBlk w' B (addL c i q by_ ns) ∧ Kept (fun j => j = B) w w' := by
  subst hn
  have ht := Three.new w (.int .i64 R) (.int .i64 (c : Int)) (.slice (some ⟨B, 0, none⟩) ns.length k) 55
  have HT := Lib.hid ht
  have hb0 := (Below.refl w.heap.size w).alloc (Nat.le_refl _) (.cells #[.int .i64 R, .int .i64 (c : Int), .slice (some ⟨B, 0, none⟩) ns.length k] 55)
  have HK0 : Hid (Kept (fun j => j = B) w (w.alloc (.cells #[.int .i64 R, .int .i64 (c : Int), .slice (some ⟨B, 0, none⟩) ns.length k] 55))) := Lib.hid (Kept.of_below hb0)
  have HD0 : Hid (BytesBlk (w.alloc (.cells #[.int .i64 R, .int .i64 (c : Int), .slice (some ⟨B, 0, none⟩) ns.length k] 55)) B (updL (fun j x => x ^^^ Gf.mul (ns.getD (q * c + j) 0) by_) (i * c) 0 ns)) := by
    intro j hj
    have k := Kept.of_below (p := fun _ => False) hb0
    obtain ⟨c1, c2, c3⟩ := h j hj
    exact ⟨c1, by rw [k.cell (d := ⟨B, j, none⟩) hB id]; exact c2, by rw [k.frozen (d := ⟨B, j, none⟩) hB id]; exact c3⟩
  obtain ⟨x, hx⟩ : ∃ x, x = i * c := ⟨_, rfl⟩
  obtain ⟨y, hy⟩ : ∃ y, y = q * c := ⟨_, rfl⟩
  have h1q : (q : Int) * (c : Int) = (y : Int) := by rw [hy]; simp
  have hys : y ≤ 16 * 16 := by rw [hy]; exact Nat.mul_le_mul hq hc
  have hyn : y + c ≤ ns.length := by rw [Nat.add_mul, Nat.one_mul, ← hy] at hqn; exact hqn
  have w1q : IntKind.i64.wrap (y : Int) = (y : Int) := IntWalk.i64_in _ (by omega)
  have hapart : ∀ j, j < c → (y + j < x ∨ x + c ≤ y + j) := fun j hj => by
    rcases Nat.lt_or_ge q i with h | h
    · left
      have := Nat.mul_le_mul_right c h
      rw [Nat.succ_mul, ← hy, ← hx] at this; omega
    · right
      have := Nat.mul_le_mul_right c (show i + 1 ≤ q by omega)
      rw [Nat.add_mul, Nat.one_mul, ← hy, ← hx] at this; omega
  have h1 : (i : Int) * (c : Int) = (x : Int) := by rw [hx]; simp
  have hxs : x ≤ 16 * 16 := by rw [hx]; exact Nat.mul_le_mul hi hc
  have hxn : x + c ≤ ns.length := by rw [Nat.add_mul, Nat.one_mul, ← hx] at hin; exact hin
  have w1 : IntKind.i64.wrap (x : Int) = (x : Int) := IntWalk.i64_in _ (by omega)
  have HSC : Hid (addL c i q by_ ns = updL (fun j v => v ^^^ Gf.mul (ns.getD (y + j) 0) by_) x c ns) := by rw [Hid, addL, hx, hy]
  rw [← hx, ← hy] at HD0
  clear h hx hy hb0 ht hin hqn
  unfold matV
  go_enter Try.func68, Try.ntmps68
  go_wp2_with fail
  generalize w.alloc (.cells #[.int .i64 R, .int .i64 (c : Int), .slice (some ⟨B, 0, none⟩) ns.length k] 55) = W0 at *
  have HWB : w.heap.size ≠ B := by omega
  generalize hbx : w.heap.size = bx at *
  go_loopw [8] (fun qq wr => ∃ j : Nat, qq = .int .i64 j ∧ j ≤ c ∧ Hid (BytesBlk wr B (updL (fun j v => v ^^^ Gf.mul (ns.getD (y + j) 0) by_) x j ns)) ∧ Hid (Kept (fun j => j = B) w wr) ∧ Hid (Three wr bx (.int .i64 R) (.int .i64 (c : Int)) (.slice (some ⟨B, 0, none⟩) ns.length k))) (fun qq _ => c - (intOf qq).toNat)
  case atStart => exact ⟨0, rfl, by omega, HD0, HK0, HT⟩
  case round =>
    clear HD0 HK0 HT
    obtain ⟨j, rfl, hj, HD, HK, HT⟩ := hrel
    obtain ⟨a0, a1, a2, a3, a4, a5⟩ := HT.out
    clear a3 a4 a5
    by_cases hjc : j < c
    · obtain ⟨c1, c2, c3⟩ := HD.out (x + j) (by rw [updL_length]; omega)
      rw [updL_far _ _ _ _ (x + j) (by omega)] at c1 c2
      have HNX := Lib.hid (updL_succ (fun j v => v ^^^ Gf.mul (ns.getD (y + j) 0) by_) x j ns)
      generalize hns : ns.getD (x + j) 0 = old at c1 c2 HNX
      obtain ⟨d1, d2, _⟩ := HD.out (y + j) (by rw [updL_length]; omega)
      rw [updL_far _ _ _ _ (y + j) (by have := hapart j hjc; omega)] at d1 d2
      generalize hny : ns.getD (y + j) 0 = oth at d1 d2 HNX
      obtain ⟨m, hm⟩ : ∃ m, Gf.mul oth by_ = m := ⟨_, rfl⟩
      have hm256 : m < 256 := by rw [← hm]; exact Gf.mul_lt _ d1
      obtain ⟨g, hg⟩ : ∃ g, old ^^^ m = g := ⟨_, rfl⟩
      have hg256 : g < 256 := by rw [← hg]; exact Nat.xor_lt_two_pow (n := 8) c1 hm256
      have hxg := bits_xor_u8 c1 hm256
      rw [hg] at hxg
      have HD1 : Hid (BytesBlk (wr.setCell ⟨B, x + j, none⟩ (.int .u8 (g : Int))) B (updL (fun j v => v ^^^ Gf.mul (ns.getD (y + j) 0) by_) x (j + 1) ns)) := by
        rw [HNX.out, hm, hg]; exact HD.out.next hg256
      have HK1 : Hid (Kept (fun j => j = B) w (wr.setCell ⟨B, x + j, none⟩ (.int .u8 (g : Int)))) := Lib.hid (HK.out.setCell (d := ⟨B, x + j, none⟩) (fun _ => rfl) _)
      have HT1 : Hid (Three (wr.setCell ⟨B, x + j, none⟩ (.int .u8 (g : Int))) bx (.int .i64 R) (.int .i64 (c : Int)) (.slice (some ⟨B, 0, none⟩) ns.length k)) := Lib.hid (HT.out.below' (p := fun j => j = B) ((Kept.refl (fun j => j = B) wr).setCell (d := ⟨B, x + j, none⟩) (fun _ => rfl) _) (by omega))
      have HG := Lib.hid hm
      have i0 : (0 : Int) ≤ (x : Int) + (j : Int) := by omega
      have i1 : (x : Int) + (j : Int) < (ns.length : Int) := by omega
      have e1 : ((x : Int) + (j : Int)).toNat = x + j := by omega
      have i0q : (0 : Int) ≤ (y : Int) + (j : Int) := by omega
      have i1q : (y : Int) + (j : Int) < (ns.length : Int) := by omega
      have e1q : ((y : Int) + (j : Int)).toNat = y + j := by omega
      have w2q : IntKind.i64.wrap ((y : Int) + (j : Int)) = (y : Int) + (j : Int) := IntWalk.i64_in _ (by omega)
      have w2 : IntKind.i64.wrap ((x : Int) + (j : Int)) = (x : Int) + (j : Int) := IntWalk.i64_in _ (by omega)
      clear hg hm hns hny HD HK HT HNX hapart
      go_upto_region 4 with (fail)
      go_still_tail 32, (by kernel_rfl)
      still_call (refMul_st _ _ _ _ (by omega) (by omega) HG.out)
      repeat still_step
      refine wpStill_nil ?_
      change wpList _ _ _ _ _ (World.drew _)
      go_wp2_with fail
      go_roundw
      case rel => exact ⟨j + 1, by go_num, by omega, HD1, Lib.hid (Kept.drew HK1.out), Lib.hid HT1.out.drewS⟩
      case measure => simp [intOf]; omega
    · have hjc : j = c := by omega
      have H1 := HD.out
      rw [hjc, ← HSC.out] at H1
      have HD1 := Lib.hid H1
      clear H1 hjc
      go_wp2_with fail
      all_goals
        (try simp only [Exit.inBlock, Exit.then])
        first | refine bodyPost_ret (results_none rfl _ _ _) rfl ?_ | refine bodyPost_end (results_none rfl _ _ _) rfl ?_
        exact ⟨rfl, HD1.out, HK.out⟩
end Go.Proofs.Ytijcmdcjjcemfaa
