/- siloref1.One, walked. -/
import Derived.Test.YtdagnmhioellhaaPkA07
namespace Go.Proofs.Ytdagnmhioellhaa
open Go.ChangeShapes Go.WideShapes Go.ChangeAt Go.RowKit Go.Joins
set_option linter.unusedVariables false
set_option linter.unusedSimpArgs false

set_option maxRecDepth 100000 in
set_option maxHeartbeats 1000000 in
theorem refOne_any (n : Nat) (h1 : 1 ≤ n) (h2 : n ≤ 16) (w : World) :
    Calls Try.prog 55 #[.int .i64 (n : Int)] w fun e w' => ∃ v, e = .returned v ∧ MadeM w w' v n n (oneL n n) ∧ Below w.heap.size w w' := by
  obtain ⟨x, hx⟩ : ∃ x, x = n * n := ⟨_, rfl⟩
  have hm1 : (n : Int) * (n : Int) = (x : Int) := by rw [hx]; simp
  have hxs : x ≤ 16 * 16 := by rw [hx]; exact Nat.mul_le_mul h2 h2
  have w1 : IntKind.i64.wrap (x : Int) = (x : Int) := IntWalk.i64_in _ (by omega)
  have hmk := hmkM (n := x) (by omega)
  obtain ⟨C, hC⟩ : ∃ C, C = cellsOf8 (List.replicate x 0) := ⟨_, rfl⟩
  rw [← hC] at hmk
  obtain ⟨oR, hoR⟩ : ∃ o, o = (Obj.cells #[.int .i64 0, .int .i64 0, .slice none 0 0] 33) := ⟨_, rfl⟩
  obtain ⟨oM, hoM⟩ : ∃ o, o = (Obj.cells #[.int .i64 (n : Int), .int .i64 (n : Int), .slice (some ⟨w.heap.size + 1, 0, none⟩) x x] 33) := ⟨_, rfl⟩
  have tR := Three.new w (.int .i64 0) (.int .i64 0) (.slice none 0 0) 33
  rw [← hoR] at tR
  have tM := Three.new ((w.alloc oR).alloc (.cells C 5)) (.int .i64 (n : Int)) (.int .i64 (n : Int)) (.slice (some ⟨w.heap.size + 1, 0, none⟩) x x) 33
  rw [World.size_alloc, World.size_alloc, ← hoM] at tM
  have hb := bytesBlk_new (w.alloc oR) (ns := List.replicate x 0) rfl 5 (by intro y hy; rw [List.eq_of_mem_replicate hy]; decide)
  rw [World.size_alloc, ← hC] at hb
  have hb2 := blk_below hb (by simp) ((Below.refl _ ((w.alloc oR).alloc (.cells C 5))).alloc (Nat.le_refl _) oM)
  have hbe : Below w.heap.size w (((w.alloc oR).alloc (.cells C 5)).alloc oM) := (((Below.refl w.heap.size w).alloc (Nat.le_refl _) oR).alloc (by simp) _).alloc (by simp; omega) oM
  have HD0 : Hid (BytesBlk (((w.alloc oR).alloc (.cells C 5)).alloc oM) (w.heap.size + 1) (oneL n 0)) := by rw [oneL_zero, ← hx]; exact hb2
  have HTM := Lib.hid tM
  have HTR := Lib.hid ((tR.alloc (.cells C 5)).alloc oM)
  have HBE := Lib.hid hbe
  have hbs : w.heap.size + 1 < (((w.alloc oR).alloc (.cells C 5)).alloc oM).heap.size := by simp
  have HX := Lib.hid hx
  clear tR tM hb hb2 hbe hC hx
  go_enter Try.func55, Try.ntmps55
  go_wp2_with fail
  rw [← hoR, ← hoM]
  generalize ((w.alloc oR).alloc (.cells C 5)).alloc oM = W0 at *
  clear hoR hoM hmk
  go_loopw [4] (fun q wr => ∃ j : Nat, q = .int .i64 j ∧ j ≤ n ∧ w.heap.size + 1 < wr.heap.size ∧ Hid (BytesBlk wr (w.heap.size + 1) (oneL n j)) ∧ Hid (Three wr (w.heap.size + 1 + 1) (.int .i64 (n : Int)) (.int .i64 (n : Int)) (.slice (some ⟨w.heap.size + 1, 0, none⟩) x x)) ∧ Hid (Three wr w.heap.size (.int .i64 0) (.int .i64 0) (.slice none 0 0)) ∧ Hid (Below w.heap.size w wr)) (fun q _ => n - (intOf q).toNat)
  case atStart => exact ⟨0, rfl, by omega, hbs, HD0, HTM, HTR, HBE⟩
  case round =>
    clear HD0 HTM HTR HBE hbs
    obtain ⟨j, rfl, hj, hbs, HD, HTM, HTR, HBE⟩ := hrel
    obtain ⟨a0, a1, a2, a3, a4, a5⟩ := HTM.out
    clear a3 a4 a5
    by_cases hjn : j < n
    · have hin := row_in hjn hjn
      obtain ⟨y, hy⟩ : ∃ y, y = j * n := ⟨_, rfl⟩
      have hm2 : (j : Int) * (n : Int) = (y : Int) := by rw [hy]; simp
      rw [← hy, ← HX.out] at hin
      obtain ⟨c1, c2, c3⟩ := HD.out (y + j) (by rw [oneL_length, ← HX.out]; exact hin)
      generalize (oneL n j).getD (y + j) 0 = old at c2
      have HD1 : Hid (BytesBlk (wr.setCell ⟨w.heap.size + 1, y + j, none⟩ (.int .u8 1)) (w.heap.size + 1) (oneL n (j + 1))) := by
        rw [Hid, oneL_succ, ← hy]; exact HD.out.next (v := 1) (by decide)
      have HTM1 := Lib.hid (three_cell (d := ⟨w.heap.size + 1, y + j, none⟩) (u := .int .u8 1) HTM.out (by dsimp only; omega))
      have HTR1 := Lib.hid (three_cell (d := ⟨w.heap.size + 1, y + j, none⟩) (u := .int .u8 1) HTR.out (by dsimp only; omega))
      have HBE1 := Lib.hid (HBE.out.setCell (p := ⟨w.heap.size + 1, y + j, none⟩) (by dsimp only; omega) (.int .u8 1))
      have hbs1 : w.heap.size + 1 < (wr.setCell ⟨w.heap.size + 1, y + j, none⟩ (.int .u8 1)).heap.size := by rw [World.size_setCell]; exact hbs
      have i0 : (0 : Int) ≤ (y : Int) + (j : Int) := by omega
      have i1 : (y : Int) + (j : Int) < (x : Int) := by omega
      have e1 : ((y : Int) + (j : Int)).toNat = y + j := by omega
      have w2 : IntKind.i64.wrap ((y : Int) + (j : Int)) = (y : Int) + (j : Int) := IntWalk.i64_in _ (by omega)
      have w3 : IntKind.i64.wrap (y : Int) = (y : Int) := IntWalk.i64_in _ (by omega)
      clear HD HTM HTR HBE hy hbs
      go_wp2_with fail
      go_roundw
      case rel => exact ⟨j + 1, by go_num, by omega, hbs1, HD1, HTM1, HTR1, HBE1⟩
      case measure => simp [intOf]; omega
    · have hjn : j = n := by omega
      have H1 := HD.out
      rw [hjn] at H1
      have HD1 := Lib.hid H1
      obtain ⟨r0, r1, r2, r3, r4, r5⟩ := HTR.out
      clear H1 hjn
      go_wp2_with fail
      obtain ⟨t0, t1, t2, _, _, _⟩ := three_put HTR.out (.int .i64 (n : Int)) (.int .i64 (n : Int)) (.slice (some ⟨w.heap.size + 1, 0, none⟩) x x)
      refine bodyPost_ret (v := matV (n : Int) (n : Int) (.slice (some ⟨w.heap.size + 1, 0, none⟩) x x)) (by simp [results, Try.results55, go_sem, matV, *]) rfl ⟨_, rfl, ⟨w.heap.size + 1, by omega, by simp only [World.size_setCell]; exact hbs, by rw [← HX.out], ?_, oneL_length n n⟩, ?_⟩
      · exact blk_cell (blk_cell (blk_cell HD1.out (by dsimp only; omega)) (by dsimp only; omega)) (by dsimp only; omega)
      · exact ((HBE.out.setCell (p := ⟨w.heap.size, 0, none⟩) (by simp) _).setCell (p := ⟨w.heap.size, 1, none⟩) (by simp) _).setCell (p := ⟨w.heap.size, 2, none⟩) (by simp) _
end Go.Proofs.Ytdagnmhioellhaa

/- siloref1.Times, walked. -/

namespace Go.Proofs.Ytdagnmhioellhaa
open Go.ChangeShapes Go.WideShapes Go.ChangeAt Go.RowKit Go.Joins
set_option linter.unusedVariables false
set_option linter.unusedSimpArgs false

set_option maxRecDepth 100000 in
set_option maxHeartbeats 2000000 in
theorem refTimes_any (ra ca cb : Nat) (va vb : Value) (ms bs : List Nat) (w : World) (ha : BytesV w va ms) (hb : BytesV w vb bs) (hla : ms.length = ra * ca) (hlb : bs.length = ca * cb)
    (h1 : 1 ≤ ra) (h2 : ra ≤ 16) (h3 : 1 ≤ ca) (h4 : ca ≤ 16) (h5 : 1 ≤ cb) (h6 : cb ≤ 16) :
    Calls Try.prog 41 #[matV (ra : Int) (ca : Int) va, matV (ca : Int) (cb : Int) vb] w fun e w' =>
      ∃ v, e = .returned v ∧ MadeM w w' v ra cb (timesL ms bs ra ca cb) ∧ Below w.heap.size w w' := by
  obtain ⟨Aa, ka, rfl⟩ := ha.shape
  obtain ⟨Ab, kb, rfl⟩ := hb.shape
  obtain ⟨x, hx⟩ : ∃ x, x = ra * cb := ⟨_, rfl⟩
  have hm1 : (ra : Int) * (cb : Int) = (x : Int) := by rw [hx]; simp
  have hxs : x ≤ 16 * 16 := by rw [hx]; exact Nat.mul_le_mul h2 h6
  have w1 : IntKind.i64.wrap (x : Int) = (x : Int) := IntWalk.i64_in _ (by omega)
  have hmk := hmkM (n := x) (by omega)
  obtain ⟨C, hC⟩ : ∃ C, C = cellsOf8 (List.replicate x 0) := ⟨_, rfl⟩
  rw [← hC] at hmk
  obtain ⟨oA, hoA⟩ : ∃ o, o = (Obj.cells #[.int .i64 (ra : Int), .int .i64 (ca : Int), .slice Aa ms.length ka] 33) := ⟨_, rfl⟩
  obtain ⟨oB, hoB⟩ : ∃ o, o = (Obj.cells #[.int .i64 (ca : Int), .int .i64 (cb : Int), .slice Ab bs.length kb] 33) := ⟨_, rfl⟩
  obtain ⟨oR, hoR⟩ : ∃ o, o = (Obj.cells #[.int .i64 0, .int .i64 0, .slice none 0 0] 33) := ⟨_, rfl⟩
  have tA := Three.new w (.int .i64 (ra : Int)) (.int .i64 (ca : Int)) (.slice Aa ms.length ka) 33
  rw [← hoA] at tA
  have tB := Three.new (w.alloc oA) (.int .i64 (ca : Int)) (.int .i64 (cb : Int)) (.slice Ab bs.length kb) 33
  rw [World.size_alloc, ← hoB] at tB
  have tR := Three.new ((w.alloc oA).alloc oB) (.int .i64 0) (.int .i64 0) (.slice none 0 0) 33
  rw [World.size_alloc, World.size_alloc, ← hoR] at tR
  have HTA := Lib.hid ((tA.alloc oB).alloc oR)
  have HTB := Lib.hid (tB.alloc oR)
  have HTR := Lib.hid tR
  have hbe : Below w.heap.size w (((w.alloc oA).alloc oB).alloc oR) := (((Below.refl w.heap.size w).alloc (Nat.le_refl _) oA).alloc (by simp) oB).alloc (by simp; omega) oR
  have HBE := Lib.hid hbe
  have HSZ := Lib.hid (show (((w.alloc oA).alloc oB).alloc oR).heap.size = w.heap.size + 1 + 1 + 1 by simp)
  have HX := Lib.hid hx
  have HC := Lib.hid hC
  have HA := Lib.hid ha
  have HB := Lib.hid hb
  have HLA := Lib.hid hla
  have HLB := Lib.hid hlb
  clear hx hC ha hb tA tB tR hbe hla hlb
  unfold matV
  go_enter Try.func41, Try.ntmps41
  go_wp2_with fail
  rw [← hoA, ← hoB, ← hoR]
  generalize ((w.alloc oA).alloc oB).alloc oR = W0 at *
  clear hoA hoB hoR
  obtain ⟨a0, a1, a2, a3, a4, a5⟩ := HTA.out
  obtain ⟨b0, b1, b2, b3, b4, b5⟩ := HTB.out
  clear a3 a4 a5 b3 b4 b5
  have fa : ∀ o, (W0.alloc o).cell? ⟨w.heap.size, 0, none⟩ = some (.int .i64 (ra : Int)) := fun o => (HTA.out.alloc o).c0
  have fb : ∀ o, (W0.alloc o).cell? ⟨w.heap.size + 1, 1, none⟩ = some (.int .i64 (cb : Int)) := fun o => (HTB.out.alloc o).c1
  have fa2 : ∀ o o', ((W0.alloc o).alloc o').cell? ⟨w.heap.size, 0, none⟩ = some (.int .i64 (ra : Int)) := fun o o' => ((HTA.out.alloc o).alloc o').c0
  have fb2 : ∀ o o', ((W0.alloc o).alloc o').cell? ⟨w.heap.size + 1, 1, none⟩ = some (.int .i64 (cb : Int)) := fun o o' => ((HTB.out.alloc o).alloc o').c1
  go_cut [5] from 10 to 20 (fun v wx => ∃ X Bm, v = .pointer (some ⟨Bm, 0, none⟩) ∧ w.heap.size + 1 + 1 + 1 ≤ X ∧ w.heap.size + 1 + 1 + 1 ≤ Bm ∧ X ≠ Bm ∧ Hid (X < wx.heap.size) ∧ Hid (BytesBlk wx X (List.replicate x 0)) ∧ Hid (Three wx Bm (.int .i64 (ra : Int)) (.int .i64 (cb : Int)) (.slice (some ⟨X, 0, none⟩) x x)) ∧ Hid (Below W0.heap.size W0 wx))
  case first =>
    go_region
    · go_wp2_with fail
      go_meet
      have tM := Three.new (W0.alloc (.cells C 5)) (.int .i64 (ra : Int)) (.int .i64 (cb : Int)) (.slice (some ⟨W0.heap.size, 0, none⟩) x x) 33
      rw [World.size_alloc] at tM
      have hb := bytesBlk_new W0 (ns := List.replicate x 0) rfl 5 (by intro y hy; rw [List.eq_of_mem_replicate hy]; decide)
      rw [← HC.out] at hb
      have hb2 := blk_below hb (by simp) ((Below.refl _ (W0.alloc (.cells C 5))).alloc (Nat.le_refl _) (.cells #[.int .i64 (ra : Int), .int .i64 (cb : Int), .slice (some ⟨W0.heap.size, 0, none⟩) x x] 33))
      exact ⟨W0.heap.size, W0.heap.size + 1, rfl, by rw [HSZ.out]; omega, by rw [HSZ.out]; omega, by omega, (by show W0.heap.size < ((W0.alloc _).alloc _).heap.size; simp; omega), hb2.drew, tM.drew, Below.drew (((Below.refl W0.heap.size W0).alloc (Nat.le_refl _) _).alloc (by simp) _)⟩
    · go_wp2_with fail
      go_meet
      have tM := (Three.new W0 (.int .i64 (ra : Int)) (.int .i64 (cb : Int)) (.slice (some ⟨W0.heap.size + 1, 0, none⟩) x x) 33).alloc (.cells C 5)
      have hb := bytesBlk_new (W0.alloc (.cells #[.int .i64 (ra : Int), .int .i64 (cb : Int), .slice (some ⟨W0.heap.size + 1, 0, none⟩) x x] 33)) (ns := List.replicate x 0) rfl 5 (by intro y hy; rw [List.eq_of_mem_replicate hy]; decide)
      rw [← HC.out, World.size_alloc] at hb
      exact ⟨W0.heap.size + 1, W0.heap.size, rfl, by rw [HSZ.out]; omega, by rw [HSZ.out]; omega, by omega, (by show W0.heap.size + 1 < ((W0.alloc _).alloc _).heap.size; simp), hb.drew, tM.drew, Below.drew (((Below.refl W0.heap.size W0).alloc (Nat.le_refl _) _).alloc (by simp) _)⟩
  case rest =>
  obtain ⟨X, Bm, rfl, hX, hBm, hXB, HXL, HD0, HTM, HW0⟩ := hcut
  have HALL : Hid (∀ wr, Kept (fun j => j = X) wc wr → Three wr w.heap.size (.int .i64 (ra : Int)) (.int .i64 (ca : Int)) (.slice Aa ms.length ka) ∧ Three wr (w.heap.size + 1) (.int .i64 (ca : Int)) (.int .i64 (cb : Int)) (.slice Ab bs.length kb) ∧ Three wr (w.heap.size + 1 + 1) (.int .i64 0) (.int .i64 0) (.slice none 0 0) ∧ Three wr Bm (.int .i64 (ra : Int)) (.int .i64 (cb : Int)) (.slice (some ⟨X, 0, none⟩) x x) ∧ Below w.heap.size w wr) := fun wr hk =>
    ⟨(HTA.out.below HW0.out).kept hk (by omega), (HTB.out.below HW0.out).kept hk (by omega), (HTR.out.below HW0.out).kept hk (by omega), HTM.out.kept hk (by omega), (HBE.out.trans (HW0.out.mono HBE.out.size)).trans (hk.below (HBE.out.trans (HW0.out.mono HBE.out.size)).size (fun j hj e => by omega))⟩
  have hf : ∃ f : Nat → Nat, f = fun p => dotK ms bs ca cb (p / cb) (p % cb) ca := ⟨_, rfl⟩
  obtain ⟨f, hf⟩ := hf
  have HF := Lib.hid hf
  have hf256 : ∀ p, f p < 256 := fun p => by rw [hf]; exact dotK_lt HA.out.2 _ _ _ _ _
  have hfq : ∀ i q, q < cb → f (i * cb + q) = dotK ms bs ca cb i q ca := fun i q hq => by
    rw [hf]
    show dotK ms bs ca cb ((i * cb + q) / cb) ((i * cb + q) % cb) ca = _
    rw [Nat.mul_comm i cb, Nat.mul_add_div (by omega), Nat.div_eq_of_lt hq, Nat.add_zero, Nat.mul_add_mod, Nat.mod_eq_of_lt hq]
  have HFQ := Lib.hid hfq
  have HD1 : Hid (BytesBlk wc X (partL x f (fun _ => 0) (0 * cb))) := by
    rw [Nat.zero_mul, partL_zero, show (List.range x).map (fun _ => 0) = List.replicate x 0 by simp [List.map_const']]; exact HD0.out
  clear hf hfq HTA HTB HTR HTM HBE HSZ HD0 a0 a1 a2 b0 b1 b2 fa fb fa2 fb2 hmk
  go_wp2_with fail
  obtain ⟨Wc, rfl⟩ : ∃ Wc : World, Wc = wc := ⟨_, rfl⟩
  go_loopw [6] (fun q wr => ∃ i : Nat, q = .int .i64 i ∧ i ≤ ra ∧ Hid (BytesBlk wr X (partL x f (fun _ => 0) (i * cb))) ∧ Hid (Kept (fun j => j = X) Wc wr)) (fun q _ => ra - (intOf q).toNat)
  case atStart => exact ⟨0, rfl, by omega, HD1, Lib.hid (Kept.refl _ _)⟩
  case round =>
    clear HD1
    obtain ⟨i, rfl, hi, HD, HK⟩ := hrel
    have t := HALL.out _ HK.out
    have a0 := t.1.c0
    clear t
    by_cases hir : i < ra
    · go_wp2_with fail
      obtain ⟨wi, rfl⟩ : ∃ wi : World, wi = wr := ⟨_, rfl⟩
      go_loopw [7] (fun qq wr => ∃ q : Nat, qq = .int .i64 q ∧ q ≤ cb ∧ Hid (BytesBlk wr X (partL x f (fun _ => 0) (i * cb + q))) ∧ Hid (Kept (fun j => j = X) Wc wr)) (fun qq _ => cb - (intOf qq).toNat)
      case atStart => exact ⟨0, rfl, by omega, HD, HK⟩
      case round =>
        clear HD HK a0
        obtain ⟨q, rfl, hq, HD, HK⟩ := hrel
        have t := HALL.out _ HK.out
        have b1 := t.2.1.c1
        clear t
        by_cases hqc : q < cb
        · go_wp2_with fail
          obtain ⟨wj, rfl⟩ : ∃ wj : World, wj = wr := ⟨_, rfl⟩
          go_loopw [8, 9] (fun xx jj wr => ∃ j : Nat, jj = .int .i64 j ∧ j ≤ ca ∧ xx = .int .u8 ((dotK ms bs ca cb i q j : Nat) : Int) ∧ Hid (BytesBlk wr X (partL x f (fun _ => 0) (i * cb + q))) ∧ Hid (Kept (fun j => j = X) Wc wr)) (fun _ jj _ => ca - (intOf jj).toNat)
          case atStart => exact ⟨0, rfl, by omega, rfl, HD, HK⟩
          case round =>
            clear HD HK b1
            obtain ⟨j, rfl, hj, rfl, HD, HK⟩ := hrel
            obtain ⟨tA, tB, tR, tM, hbe⟩ := HALL.out _ HK.out
            obtain ⟨a0, a1, a2, a3, a4, a5⟩ := tA
            obtain ⟨b0, b1, b2, b3, b4, b5⟩ := tB
            have HTM := Lib.hid tM
            have hAw := HA.out.below hbe
            have hBw := HB.out.below hbe
            clear a3 a4 a5 b3 b4 b5 tR tM hbe
            by_cases hjc : j < ca
            · have hia : i * ca + j < ms.length := by
                rw [HLA.out]
                have := Nat.mul_le_mul_right ca hir
                rw [Nat.succ_mul] at this; omega
              have hjb : j * cb + q < bs.length := by
                rw [HLB.out]
                have := Nat.mul_le_mul_right cb hjc
                rw [Nat.succ_mul] at this; omega
              obtain ⟨ba, oa, rfl, _, ha⟩ := hAw.at_ hia
              obtain ⟨bb, ob, rfl, _, hb⟩ := hBw.at_ hjb
              have hm256 := hAw.lt (i * ca + j)
              have hb256 := hBw.lt (j * cb + q)
              have HNX := Lib.hid (dotK_succ ms bs ca cb i q j)
              have hd256 := dotK_lt (bs := bs) HA.out.2 ca cb i q j
              obtain ⟨x1, hx1⟩ : ∃ x1, x1 = i * ca := ⟨_, rfl⟩
              obtain ⟨y1, hy1⟩ : ∃ y1, y1 = j * cb := ⟨_, rfl⟩
              have p1 : (i : Int) * (ca : Int) = (x1 : Int) := by rw [hx1]; simp
              have p2 : (j : Int) * (cb : Int) = (y1 : Int) := by rw [hy1]; simp
              have hxs1 : x1 ≤ 16 * 16 := by rw [hx1]; exact Nat.mul_le_mul (by omega) h4
              have hys1 : y1 ≤ 16 * 16 := by rw [hy1]; exact Nat.mul_le_mul (by omega) h6
              rw [← hx1] at ha hia hm256 HNX
              rw [← hy1] at hb hjb hb256 HNX
              generalize ms.getD (x1 + j) 0 = mm at *
              generalize bs.getD (y1 + q) 0 = bbv at *
              obtain ⟨g, hg⟩ : ∃ g, Gf.mul mm bbv = g := ⟨_, rfl⟩
              have hg256 : g < 256 := by rw [← hg]; exact Gf.mul_lt _ hm256
              rw [hg] at HNX
              have HG := Lib.hid hg
              obtain ⟨dd, hdd⟩ : ∃ dd, dd = dotK ms bs ca cb i q j := ⟨_, rfl⟩
              rw [← hdd] at hd256 HNX
              rw [← hdd]
              have hxg := bits_xor_u8 hd256 hg256
              have k0 : (0 : Int) ≤ (x1 : Int) + (j : Int) := by omega
              have k1 : (x1 : Int) + (j : Int) < (ms.length : Int) := by omega
              have k2 : (0 : Int) ≤ (y1 : Int) + (q : Int) := by omega
              have k3 : (y1 : Int) + (q : Int) < (bs.length : Int) := by omega
              have e1 : ((x1 : Int) + (j : Int)).toNat = x1 + j := by omega
              have e2 : ((y1 : Int) + (q : Int)).toNat = y1 + q := by omega
              have w2 : IntKind.i64.wrap ((x1 : Int) + (j : Int)) = (x1 : Int) + (j : Int) := IntWalk.i64_in _ (by omega)
              have w3 : IntKind.i64.wrap ((y1 : Int) + (q : Int)) = (y1 : Int) + (q : Int) := IntWalk.i64_in _ (by omega)
              have w4 : IntKind.i64.wrap (x1 : Int) = (x1 : Int) := IntWalk.i64_in _ (by omega)
              have w5 : IntKind.i64.wrap (y1 : Int) = (y1 : Int) := IntWalk.i64_in _ (by omega)
              clear hg hdd hx1 hy1 hAw hBw
              go_wp2_with fail
              go_quiet (first | (go_at_call 28; exact quiet_left (refMul_nat _ _ _ _ (by omega) (by omega) HG.out)))
              all_goals
                go_wp2_with fail
                go_roundw
                case rel => exact ⟨j + 1, by go_num, by omega, by rw [HNX.out], Lib.hid HD.out, Lib.hid (Kept.drewN HK.out _)⟩
                case measure => simp [intOf]; omega
            · have hjc : j = ca := by omega
              have HFV := Lib.hid (HFQ.out i q hqc)
              have hin : i * cb + q < ra * cb := by
                have := Nat.mul_le_mul_right cb hir
                rw [Nat.succ_mul] at this; omega
              obtain ⟨c1, c2, c3⟩ := HD.out (i * cb + q) (by rw [partL_length, HX.out]; exact hin)
              have HNX := Lib.hid (partL_succ x f (fun _ => 0) (i * cb + q))
              generalize (partL x f (fun _ => 0) (i * cb + q)).getD (i * cb + q) 0 = old at c2
              have hfv := hf256 (i * cb + q)
              have HD1 : Hid (BytesBlk (wr.setCell ⟨X, i * cb + q, none⟩ (.int .u8 ((f (i * cb + q) : Nat) : Int))) X (partL x f (fun _ => 0) (i * cb + (q + 1)))) := by
                rw [← Nat.add_assoc, HNX.out]; exact HD.out.next hfv
              have HK1 : Hid (Kept (fun j => j = X) Wc (wr.setCell ⟨X, i * cb + q, none⟩ (.int .u8 ((f (i * cb + q) : Nat) : Int)))) := Lib.hid (HK.out.setCell (d := ⟨X, i * cb + q, none⟩) (fun _ => rfl) _)
              rw [HFV.out] at HD1 HK1
              rw [hjc]
              obtain ⟨y1, hy1⟩ : ∃ y1, y1 = i * cb := ⟨_, rfl⟩
              have p1 : (i : Int) * (cb : Int) = (y1 : Int) := by rw [hy1]; simp
              have hys1 : y1 ≤ 16 * 16 := by rw [hy1]; exact Nat.mul_le_mul (by omega) h6
              rw [← hy1, ← HX.out] at hin
              rw [← hy1] at c2 c3 HD1 HK1
              have HY := Lib.hid hy1
              obtain ⟨m0, m1, m2, m3, m4, m5⟩ := HTM.out
              clear m3 m4 m5
              generalize dotK ms bs ca cb i q ca = dd at *
              have k0 : (0 : Int) ≤ (y1 : Int) + (q : Int) := by omega
              have k1 : (y1 : Int) + (q : Int) < (x : Int) := by omega
              have e1 : ((y1 : Int) + (q : Int)).toNat = y1 + q := by omega
              have w2 : IntKind.i64.wrap ((y1 : Int) + (q : Int)) = (y1 : Int) + (q : Int) := IntWalk.i64_in _ (by omega)
              have w4 : IntKind.i64.wrap (y1 : Int) = (y1 : Int) := IntWalk.i64_in _ (by omega)
              have hjd : decide ((ca : Int) < (ca : Int)) = false := by simp
              clear hjc HD HK hfv HNX HFV hAw hBw hy1 HTM
              go_wp2_with fail
              go_roundw
              case rel => exact ⟨q + 1, by go_num, by omega, by rw [← HY.out]; exact HD1, HK1⟩
              case measure => simp [intOf]; omega
        · have hqe : q = cb := by omega
          have H1 := HD.out
          rw [hqe, ← Nat.succ_mul] at H1
          have HD1 := Lib.hid H1
          clear H1 hqe
          go_wp2_with fail
          go_roundw
          case rel => exact ⟨i + 1, by go_num, by omega, HD1, HK⟩
          case measure => simp [intOf]; omega
    · have hie : i = ra := by omega
      have H1 := HD.out
      rw [hie, ← HX.out, partL_all] at H1
      have HD2 : Hid (BytesBlk wr X (timesL ms bs ra ca cb)) := by rw [HF.out, HX.out] at H1; exact H1
      obtain ⟨_, _, tR, tM, hbe⟩ := HALL.out _ HK.out
      have HTR := Lib.hid tR
      have HBE := Lib.hid hbe
      have hxl := Nat.lt_of_lt_of_le HXL.out HK.out.size
      obtain ⟨r0, r1, r2, r3, r4, r5⟩ := tR
      obtain ⟨m0, m1, m2, m3, m4, m5⟩ := tM
      clear m3 m4 m5 H1 hie HD hbe
      go_wp2_with fail
      obtain ⟨t0, t1, t2, _, _, _⟩ := three_put HTR.out (.int .i64 (ra : Int)) (.int .i64 (cb : Int)) (.slice (some ⟨X, 0, none⟩) x x)
      refine bodyPost_ret (v := matV (ra : Int) (cb : Int) (.slice (some ⟨X, 0, none⟩) x x)) (by simp [results, Try.results41, go_sem, matV, t0, t1, t2]) rfl ⟨_, rfl, ⟨X, by omega, by simp only [World.size_setCell]; exact hxl, by rw [← HX.out], ?_, timesL_length ms bs ra ca cb⟩, ?_⟩
      · exact blk_cell (blk_cell (blk_cell HD2.out (by dsimp only; omega)) (by dsimp only; omega)) (by dsimp only; omega)
      · exact ((HBE.out.setCell (p := ⟨w.heap.size + 1 + 1, 0, none⟩) (by dsimp only; omega) _).setCell (p := ⟨w.heap.size + 1 + 1, 1, none⟩) (by dsimp only; omega) _).setCell (p := ⟨w.heap.size + 1 + 1, 2, none⟩) (by dsimp only; omega) _
end Go.Proofs.Ytdagnmhioellhaa

/- matrix.Mul, walked. -/

namespace Go.Proofs.Ytdagnmhioellhaa
open Go.ChangeShapes Go.WideShapes Go.ChangeAt Go.RowKit Go.Joins
set_option linter.unusedVariables false
set_option linter.unusedSimpArgs false

theorem mayM_of {r c n : Nat} (h1 : 1 ≤ r) (h2 : r ≤ 16) (h3 : 1 ≤ c) (h4 : c ≤ 16) (h : n = r * c) : mayM (r : Int) (c : Int) n = true := by
  unfold mayM
  exact decide_eq_true ⟨by omega, by omega, by omega, by omega, by rw [h]; simp⟩

end Go.Proofs.Ytdagnmhioellhaa
