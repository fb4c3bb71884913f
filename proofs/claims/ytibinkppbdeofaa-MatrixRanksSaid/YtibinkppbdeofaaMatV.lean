/- siloref1.One, walked. -/
import Derived.Test.YtibinkppbdeofaaMatU
namespace Go.Proofs.Ytibinkppbdeofaa
open Go.ChangeShapes Go.WideShapes Go.ChangeAt Go.RowKit Go.Joins
set_option linter.unusedVariables false
set_option linter.unusedSimpArgs false

set_option maxRecDepth 100000 in
set_option maxHeartbeats 1000000 in
theorem refOne_any (n : Nat) (h1 : 1 ≤ n) (h2 : n ≤ 16) (w : World) :
    Calls Try.prog 30 #[.int .i64 (n : Int)] w fun e w' => ∃ v, e = .returned v ∧ MadeM w w' v n n (oneL n n) ∧ Below w.heap.size w w' := by
  obtain ⟨x, hx⟩ : ∃ x, x = n * n := ⟨_, rfl⟩
  have hm1 : (n : Int) * (n : Int) = (x : Int) := by rw [hx]; simp
  have hxs : x ≤ 16 * 16 := by rw [hx]; exact Nat.mul_le_mul h2 h2
  have w1 : IntKind.i64.wrap (x : Int) = (x : Int) := IntWalk.i64_in _ (by omega)
  have hmk := hmkM (n := x) (by omega)
  obtain ⟨C, hC⟩ : ∃ C, C = cellsOf8 (List.replicate x 0) := ⟨_, rfl⟩
  rw [← hC] at hmk
  obtain ⟨oR, hoR⟩ : ∃ o, o = (Obj.cells #[.int .i64 0, .int .i64 0, .slice none 0 0] 30) := ⟨_, rfl⟩
  obtain ⟨oM, hoM⟩ : ∃ o, o = (Obj.cells #[.int .i64 (n : Int), .int .i64 (n : Int), .slice (some ⟨w.heap.size + 1, 0, none⟩) x x] 30) := ⟨_, rfl⟩
  have tR := Three.new w (.int .i64 0) (.int .i64 0) (.slice none 0 0) 30
  rw [← hoR] at tR
  have tM := Three.new ((w.alloc oR).alloc (.cells C 5)) (.int .i64 (n : Int)) (.int .i64 (n : Int)) (.slice (some ⟨w.heap.size + 1, 0, none⟩) x x) 30
  rw [World.size_alloc, World.size_alloc, ← hoM] at tM
  have hb := bytesBlk_new (w.alloc oR) (ns := List.replicate x 0) rfl 5 (by intro y hy; rw [List.eq_of_mem_replicate hy]; decide)
  rw [World.size_alloc, ← hC] at hb
  have hb2 := blk_below hb (by simp) ((Below.refl _ ((w.alloc oR).alloc (.cells C 5))).alloc (Nat.le_refl _) oM)
  have hbe : Below w.heap.size w (((w.alloc oR).alloc (.cells C 5)).alloc oM) := (((Below.refl w.heap.size w).alloc (Nat.le_refl _) oR).alloc (by simp) _).alloc (by simp; omega) oM
  have HD0 : Hid (BytesBlk (((w.alloc oR).alloc (.cells C 5)).alloc oM) (w.heap.size + 1) (oneL n 0)) := by rw [oneL_zero, ← hx]; exact hb2
  have HTM := Lib.hid tM
  have HTR := Lib.hid ((tR.alloc (.cells C 5)).alloc oM)
  have HBE := Lib.hid hbe
  have hbs : w.heap.size + 1 < (((w.alloc oR).alloc (.cells C 5)).alloc oM).heap.size := by simp
  have HX := Lib.hid hx
  clear tR tM hb hb2 hbe hC hx
  go_enter Try.func30, Try.ntmps30
  go_wp2_with fail
  rw [← hoR, ← hoM]
  generalize ((w.alloc oR).alloc (.cells C 5)).alloc oM = W0 at *
  clear hoR hoM hmk
  go_loopw [4] (fun q wr => ∃ j : Nat, q = .int .i64 j ∧ j ≤ n ∧ w.heap.size + 1 < wr.heap.size ∧ Hid (BytesBlk wr (w.heap.size + 1) (oneL n j)) ∧ Hid (Three wr (w.heap.size + 1 + 1) (.int .i64 (n : Int)) (.int .i64 (n : Int)) (.slice (some ⟨w.heap.size + 1, 0, none⟩) x x)) ∧ Hid (Three wr w.heap.size (.int .i64 0) (.int .i64 0) (.slice none 0 0)) ∧ Hid (Below w.heap.size w wr)) (fun q _ => n - (intOf q).toNat)
  case atStart => exact ⟨0, rfl, by omega, hbs, HD0, HTM, HTR, HBE⟩
  case round =>
    clear HD0 HTM HTR HBE hbs
    obtain ⟨j, rfl, hj, hbs, HD, HTM, HTR, HBE⟩ := hrel
    obtain ⟨a0, a1, a2, a3, a4, a5⟩ := HTM.out
    clear a3 a4 a5
    by_cases hjn : j < n
    · have hin := row_in hjn hjn
      obtain ⟨y, hy⟩ : ∃ y, y = j * n := ⟨_, rfl⟩
      have hm2 : (j : Int) * (n : Int) = (y : Int) := by rw [hy]; simp
      rw [← hy, ← HX.out] at hin
      obtain ⟨c1, c2, c3⟩ := HD.out (y + j) (by rw [oneL_length, ← HX.out]; exact hin)
      generalize (oneL n j).getD (y + j) 0 = old at c2
      have HD1 : Hid (BytesBlk (wr.setCell ⟨w.heap.size + 1, y + j, none⟩ (.int .u8 1)) (w.heap.size + 1) (oneL n (j + 1))) := by
        rw [Hid, oneL_succ, ← hy]; exact HD.out.next (v := 1) (by decide)
      have HTM1 := Lib.hid (three_cell (d := ⟨w.heap.size + 1, y + j, none⟩) (u := .int .u8 1) HTM.out (by dsimp only; omega))
      have HTR1 := Lib.hid (three_cell (d := ⟨w.heap.size + 1, y + j, none⟩) (u := .int .u8 1) HTR.out (by dsimp only; omega))
      have HBE1 := Lib.hid (HBE.out.setCell (p := ⟨w.heap.size + 1, y + j, none⟩) (by dsimp only; omega) (.int .u8 1))
      have hbs1 : w.heap.size + 1 < (wr.setCell ⟨w.heap.size + 1, y + j, none⟩ (.int .u8 1)).heap.size := by rw [World.size_setCell]; exact hbs
      have i0 : (0 : Int) ≤ (y : Int) + (j : Int) := by omega
      have i1 : (y : Int) + (j : Int) < (x : Int) := by omega
      have e1 : ((y : Int) + (j : Int)).toNat = y + j := by omega
      have w2 : IntKind.i64.wrap ((y : Int) + (j : Int)) = (y : Int) + (j : Int) := IntWalk.i64_in _ (by omega)
      have w3 : IntKind.i64.wrap (y : Int) = (y : Int) := IntWalk.i64_in _ (by omega)
      clear HD HTM HTR HBE hy hbs
      go_wp2_with fail
      go_roundw
      case rel => exact ⟨j + 1, by go_num, by omega, hbs1, HD1, HTM1, HTR1, HBE1⟩
      case measure => simp [intOf]; omega
    · have hjn : j = n := by omega
      have H1 := HD.out
      rw [hjn] at H1
      have HD1 := Lib.hid H1
      obtain ⟨r0, r1, r2, r3, r4, r5⟩ := HTR.out
      clear H1 hjn
      go_wp2_with fail
      obtain ⟨t0, t1, t2, _, _, _⟩ := three_put HTR.out (.int .i64 (n : Int)) (.int .i64 (n : Int)) (.slice (some ⟨w.heap.size + 1, 0, none⟩) x x)
      refine bodyPost_ret (v := matV (n : Int) (n : Int) (.slice (some ⟨w.heap.size + 1, 0, none⟩) x x)) (by simp [results, Try.results30, go_sem, matV, *]) rfl ⟨_, rfl, ⟨w.heap.size + 1, by omega, by simp only [World.size_setCell]; exact hbs, by rw [← HX.out], ?_, oneL_length n n⟩, ?_⟩
      · exact blk_cell (blk_cell (blk_cell HD1.out (by dsimp only; omega)) (by dsimp only; omega)) (by dsimp only; omega)
      · exact ((HBE.out.setCell (p := ⟨w.heap.size, 0, none⟩) (by simp) _).setCell (p := ⟨w.heap.size, 1, none⟩) (by simp) _).setCell (p := ⟨w.heap.size, 2, none⟩) (by simp) _
end Go.Proofs.Ytibinkppbdeofaa
