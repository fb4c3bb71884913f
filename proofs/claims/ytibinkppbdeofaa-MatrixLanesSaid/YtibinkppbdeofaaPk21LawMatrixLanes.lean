/- MatrixLanes: the law's walk. -/
import Derived.Test.YtibinkppbdeofaaPk17LawMatrixLanes
import Derived.Test.YtibinkppbdeofaaPk19LawMatrixLanes
import Derived.Test.YtibinkppbdeofaaPk20LawMatrixLanes
import Derived.OrdersHeld
import Derived.Deep.RegionHeld
namespace Go.Proofs.Ytibinkppbdeofaa
open Go.ChangeShapes Go.WideShapes Go.ChangeAt Go.RowKit Go.Joins Go.Shelf
set_option linter.unusedVariables false
set_option linter.unusedSimpArgs false

theorem timesL_all3 {ms bs : List Nat} {ra ca cb : Nat} (h : ∀ x ∈ ms, x < 256) : ∀ x ∈ timesL ms bs ra ca cb, x < 256 := by
  intro x hx
  obtain ⟨p, _, rfl⟩ := List.mem_map.1 hx
  exact dotK_lt h _ _ _ _ _
/-- Three bytes in a new block, as a text. -/
theorem conv3 (W : World) (a b c : Nat) (ha : a < 256) (hb : b < 256) (hc : c < 256) : ∃ s : ByteArray, s.size = 3 ∧ (convert 28 9 (.slice (some ⟨W.heap.size, 0, none⟩) 3 3)).run Try.prog (W.alloc (.cells #[.int .u8 (a : Int), .int .u8 (b : Int), .int .u8 (c : Int)] 5)) = .ok (.string s) (W.alloc (.cells #[.int .u8 (a : Int), .int .u8 (b : Int), .int .u8 (c : Int)] 5)) := by
  have hB : BytesBlk (W.alloc (.cells #[.int .u8 (a : Int), .int .u8 (b : Int), .int .u8 (c : Int)] 5)) W.heap.size [a, b, c] := by
    have := bytesBlk_new W (ns := [a, b, c]) rfl 5 (by intro x hx; simp at hx; omega)
    exact this
  have := convert_bytes (P := Try.prog) (b := W.heap.size) (off := 0) (cap := 3) (ns := [a, b, c]) Try.underlying28 Try.underlying5 Try.underlying9 (BytesBlk.cells hB)
  exact ⟨strOf8 [a, b, c], by rw [strOf8_size]; rfl, this⟩

/-- Two matrices in two boxes. -/
structure TwoM (w1 wx : World) (n b5 b6 X Y : Nat) (ms ns : List Nat) : Prop where
  t5 : Three wx b5 (.int .i64 (n : Int)) (.int .i64 (n : Int)) (.slice (some ⟨X, 0, none⟩) (n * n) (n * n))
  t6 : Three wx b6 (.int .i64 (n : Int)) (.int .i64 (n : Int)) (.slice (some ⟨Y, 0, none⟩) (n * n) (n * n))
  x : BytesBlk wx X ms
  y : BytesBlk wx Y ns
  lx : ms.length = n * n
  ly : ns.length = n * n
  hx : X < wx.heap.size
  hy : Y < wx.heap.size
  d0 : b5 ≠ b6
  d1 : b5 ≠ X
  d2 : b5 ≠ Y
  d3 : b6 ≠ X
  d4 : b6 ≠ Y
  l5 : w1.heap.size ≤ b5
  l6 : w1.heap.size ≤ b6
  be : Below w1.heap.size w1 wx

set_option maxRecDepth 100000 in
set_option maxHeartbeats 8000000 in
theorem matrixLanes_walk (vM vN vL : Value) (l : List M3) (zs : List Int) (ss : List ByteArray) (w : World) (hM : MatsIn w vM l) (hN : NumsIn w vN zs) (hL : TextsIn w vL ss) :
    Calls Try.prog 8 #[.agg #[vM, vN, vL]] w fun e w' => e = .returned (.bool true) ∧ Below w.heap.size w w' := by
  have tA := Three.new w vM vN vL 26
  have hbe := (Below.refl w.heap.size w).alloc (Nat.le_refl _) (.cells #[vM, vN, vL] 26)
  have TA := Lib.hid tA
  have HBE := Lib.hid hbe
  have HM := Lib.hid (hM.below hbe)
  have HHV := heavy3_weak vM vN vL l zs ss (w.alloc (.cells #[vM, vN, vL] 26)) (hM.below hbe) (by
    refine ⟨hN.1, ?_⟩
    rcases hN.2 with h | ⟨b, o, c, e, h0, hm, hb, hc⟩
    · exact Or.inl h
    · exact Or.inr ⟨b, o, c, e, h0, hm, Nat.lt_of_lt_of_le hb hbe.size, fun i hi => below_celllt (hc i hi) hb ((Below.refl w.heap.size w).alloc (Nat.le_refl _) _)⟩) (textsIn_below hL hbe)
  have HHX := Lib.hid HHV
  obtain ⟨zp, zc, zl, rfl⟩ : ∃ p c n, vN = .slice p n c := by
    rcases hN.2 with ⟨_, p, c, rfl⟩ | ⟨b, o, c, rfl, _⟩
    · exact ⟨_, _, _, rfl⟩
    · exact ⟨_, _, _, rfl⟩
  obtain ⟨A, c, rfl, hll, _⟩ := hM
  obtain ⟨pL, kL, rfl, _⟩ := hL
  obtain ⟨a0, a1, a2, _, _, _⟩ := tA
  clear hbe hN HHV
  go_enter Try.func8, Try.ntmps8
  go_wp2_with fail
  clear a0 a1 a2
  generalize w.alloc (.cells #[.slice A l.length c, .slice zp zl zc, .slice pL ss.length kL] 26) = W0 at *
  refine HHX.out.mono ?_
  rintro e w1 ⟨⟨bo, rfl⟩, hb1⟩
  have TA1 := Lib.hid (TA.out.below hb1)
  have HM1 := Lib.hid (HM.out.below hb1)
  have HB1 := Lib.hid (HBE.out.trans (hb1.mono HBE.out.size))
  clear hb1 TA HM HHX
  cases bo
  · go_wp2_with fail
    go_loopw [3] (fun nn wr => ∃ n : Nat, nn = .int .i64 n ∧ 1 ≤ n ∧ n ≤ 6 ∧ Hid (Below w1.heap.size w1 wr)) (fun nn _ => 6 - (intOf nn).toNat)
    case atStart => exact ⟨1, rfl, by omega, by omega, Lib.hid (Below.refl _ _)⟩
    case round =>
      obtain ⟨n, rfl, hn1, hn9, HB⟩ := hrel
      by_cases hn5 : n ≤ 5
      · have hn8 : n ≤ 8 := by omega
        have hnd : decide ((n : Int) ≤ 5) = true := by simp; omega
        obtain ⟨a0, a1, a2, _, _, _⟩ := TA1.out.below HB.out
        have n1 : (0 : Int) < (n : Int) := by omega
        go_upto_region 6 with (fail)
        clear a0 a1 a2
        go_cut [4, 5] from 22 to 5 (fun p5 p6 wx => ∃ b5 b6 X Y ms ns, p5 = .pointer (some ⟨b5, 0, none⟩) ∧ p6 = .pointer (some ⟨b6, 0, none⟩) ∧ TwoM w1 wx n b5 b6 X Y ms ns)
        case first =>
          refine wp_region_held (S := fun W' => Three W' w.heap.size (.slice A l.length c) (.slice zp zl zc) (.slice pL ss.length kL)) (by kernel_rfl) ?_
          change wpAnyH _ _ _ _ _ 10 _ _ wr.drew
          have TA := (TA1.out.below HB.out).drew
          have HB := HB.out.drew
          have hwb := cell_block TA1.out.c0
          dsimp only at hwb
          generalize wr.drew = V0 at *
          refine wpAnyH_take (i := 0) (v := .agg #[.slice A l.length c, .slice zp zl zc, .slice pL ss.length kL]) rfl (by kernel_rfl) (by kernel_rfl) (by kernel_rfl) (fun _ _ _ h => h) (Or.inl ⟨by rfl, fun W' hW' => ?_⟩) TA ?_
          · obtain ⟨x0, x1, x2, _, _, _⟩ := hW'
            go_simp
            try rfl
          try simp only [Act.put, List.setIfInBounds_toArray, List.set_cons_zero, List.set_cons_succ]
          refine wpAnyH_take (i := 1) (v := .int .i64 (n : Int)) rfl (by kernel_rfl) (by kernel_rfl) (by kernel_rfl) (fun _ _ _ h => h) (Or.inl ⟨by rfl, fun W' hW' => ?_⟩) TA ?_
          · obtain ⟨x0, x1, x2, _, _, _⟩ := hW'
            go_simp
            try rfl
          try simp only [Act.put, List.setIfInBounds_toArray, List.set_cons_zero, List.set_cons_succ]
          refine wpAnyH_take (i := 3) (v := .agg #[.slice A l.length c, .slice zp zl zc, .slice pL ss.length kL]) rfl (by kernel_rfl) (by kernel_rfl) (by kernel_rfl) (fun _ _ _ h => h) (Or.inl ⟨by rfl, fun W' hW' => ?_⟩) TA ?_
          · obtain ⟨x0, x1, x2, _, _, _⟩ := hW'
            go_simp
            try rfl
          try simp only [Act.put, List.setIfInBounds_toArray, List.set_cons_zero, List.set_cons_succ]
          refine wpAnyH_take (i := 4) (v := .int .i64 (n : Int)) rfl (by kernel_rfl) (by kernel_rfl) (by kernel_rfl) (fun _ _ _ h => h) (Or.inl ⟨by rfl, fun W' hW' => ?_⟩) TA ?_
          · obtain ⟨x0, x1, x2, _, _, _⟩ := hW'
            go_simp
            try rfl
          try simp only [Act.put, List.setIfInBounds_toArray, List.set_cons_zero, List.set_cons_succ]
          refine wpAnyH_ready (rs := [2, 6, 7]) (by kernel_rfl) (by simp) ?_
          refine AllReadyH.cons rfl (fun K hK => ?_) (AllReadyH.cons rfl (fun K hK => ?_) (AllReadyH.cons rfl (fun K hK => ?_) AllReadyH.nil))
          · rw [if_pos (by rfl)]
            go_simp
            have hsq := square_any (.slice A l.length c) (.slice zp zl zc) (.slice pL ss.length kL) l n 5 V0 (HM1.out.below HB) hn1 hn8 (by omega)
            rw [show ((5 : Nat) : Int) = 5 from rfl] at hsq
            refine hsq.mono ?_
            clear hsq
            rintro e V1 ⟨v, ms, rfl, ⟨X, hX1, hX2, rfl, hbX, hlX⟩, hbe⟩
            have TA := TA.below hbe
            have HB := HB.trans (hbe.mono HB.size)
            have hss := hbe.size
            refine hK.out _ _ TA (fun _ => ?_)
            clear hK hbe
            unfold matV
            try simp only [Act.put, List.setIfInBounds_toArray, List.set_cons_zero, List.set_cons_succ]
            refine wpAnyH_ready (rs := [5, 6, 7]) (by kernel_rfl) (by simp) ?_
            refine AllReadyH.cons rfl (fun K hK => ?_) (AllReadyH.cons rfl (fun K hK => ?_) (AllReadyH.cons rfl (fun K hK => ?_) AllReadyH.nil))
            · rw [if_pos (by rfl)]
              go_simp
              have hsq := square_any (.slice A l.length c) (.slice zp zl zc) (.slice pL ss.length kL) l n 9 V1 (HM1.out.below HB) hn1 hn8 (by omega)
              rw [show ((9 : Nat) : Int) = 9 from rfl] at hsq
              refine hsq.mono ?_
              clear hsq
              rintro e V2 ⟨v, ns, rfl, ⟨Y, hY1, hY2, rfl, hbY, hlY⟩, hbe⟩
              have hbX := blk_below hbX hX2 hbe
              replace hX2 := Nat.lt_of_lt_of_le hX2 hbe.size
              have TA := TA.below hbe
              have HB := HB.trans (hbe.mono HB.size)
              have hss := hbe.size
              refine hK.out _ _ TA (fun _ => ?_)
              clear hK hbe
              unfold matV
              try simp only [Act.put, List.setIfInBounds_toArray, List.set_cons_zero, List.set_cons_succ]
              refine wpAnyH_ready (rs := [6, 7]) (by kernel_rfl) (by simp) ?_
              refine AllReadyH.cons rfl (fun K hK => ?_) (AllReadyH.cons rfl (fun K hK => ?_) AllReadyH.nil)
              · rw [if_pos (by rfl)]
                go_simp
                have T5 := Three.new V2 (.int .i64 0) (.int .i64 0) (.slice none 0 0) 30
                have hbe := (Below.refl V2.heap.size V2).alloc (Nat.le_refl _) (.cells #[.int .i64 0, .int .i64 0, .slice none 0 0] 30)
                have hsb5 : V2.heap.size < (V2.alloc (.cells #[.int .i64 0, .int .i64 0, .slice none 0 0] 30)).heap.size := by simp
                have hwb5 := HB.size
                have hXob5 := hX2
                have hYob5 := hY2
                have hbX := blk_below hbX hX2 hbe
                replace hX2 := Nat.lt_of_lt_of_le hX2 hbe.size
                have hbY := blk_below hbY hY2 hbe
                replace hY2 := Nat.lt_of_lt_of_le hY2 hbe.size
                have TA := TA.below hbe
                have HB := HB.trans (hbe.mono HB.size)
                have hss := hbe.size
                refine hK.out _ _ TA (fun _ => ?_)
                clear hK hbe
                generalize V2.alloc (.cells #[.int .i64 0, .int .i64 0, .slice none 0 0] 30) = V3 at *
                generalize V2.heap.size = b5 at *
                try simp only [Act.put, List.setIfInBounds_toArray, List.set_cons_zero, List.set_cons_succ]
                refine wpAnyH_ready (rs := [7]) (by kernel_rfl) (by simp) ?_
                refine AllReadyH.cons rfl (fun K hK => ?_) AllReadyH.nil
                rw [if_pos (by rfl)]
                go_simp
                have T6 := Three.new V3 (.int .i64 0) (.int .i64 0) (.slice none 0 0) 30
                have hbe := (Below.refl V3.heap.size V3).alloc (Nat.le_refl _) (.cells #[.int .i64 0, .int .i64 0, .slice none 0 0] 30)
                have hsb6 : V3.heap.size < (V3.alloc (.cells #[.int .i64 0, .int .i64 0, .slice none 0 0] 30)).heap.size := by simp
                have hwb6 := HB.size
                have hXob6 := hX2
                have hYob6 := hY2
                have T5 := T5.below hbe
                have hbX := blk_below hbX hX2 hbe
                replace hX2 := Nat.lt_of_lt_of_le hX2 hbe.size
                have hbY := blk_below hbY hY2 hbe
                replace hY2 := Nat.lt_of_lt_of_le hY2 hbe.size
                have TA := TA.below hbe
                have HB := HB.trans (hbe.mono HB.size)
                have hss := hbe.size
                refine hK.out _ _ TA (fun _ => ?_)
                clear hK hbe
                generalize V3.alloc (.cells #[.int .i64 0, .int .i64 0, .slice none 0 0] 30) = V4 at *
                generalize V3.heap.size = b6 at *
                try simp only [Act.put, List.setIfInBounds_toArray, List.set_cons_zero, List.set_cons_succ]
                obtain ⟨u0, u1, u2, u3, u4, u5⟩ := T5
                have TQ : Three V4 b5 _ _ _ := ⟨u0, u1, u2, u3, u4, u5⟩
                refine wpAnyH_ready (rs := [8]) (by kernel_rfl) (by simp) ?_
                refine AllReadyH.cons rfl (fun K hK => ?_) AllReadyH.nil
                rw [if_pos (by rfl)]
                go_simp
                clear u0 u1 u2 u3 u4 u5
                have T5 := three_put TQ (.int .i64 (n : Int)) (.int .i64 (n : Int)) (.slice (some ⟨X, 0, none⟩) (n * n) (n * n))
                have T6 := three_cell (three_cell (three_cell T6 (d := ⟨b5, 0, none⟩) (u := .int .i64 (n : Int)) (by dsimp only; omega)) (d := ⟨b5, 1, none⟩) (u := .int .i64 (n : Int)) (by dsimp only; omega)) (d := ⟨b5, 2, none⟩) (u := .slice (some ⟨X, 0, none⟩) (n * n) (n * n)) (by dsimp only; omega)
                have TA := three_cell (three_cell (three_cell TA (d := ⟨b5, 0, none⟩) (u := .int .i64 (n : Int)) (by dsimp only; omega)) (d := ⟨b5, 1, none⟩) (u := .int .i64 (n : Int)) (by dsimp only; omega)) (d := ⟨b5, 2, none⟩) (u := .slice (some ⟨X, 0, none⟩) (n * n) (n * n)) (by dsimp only; omega)
                have hbX := three_apart (b := b5) (x := .int .i64 (n : Int)) (y := .int .i64 (n : Int)) (z := .slice (some ⟨X, 0, none⟩) (n * n) (n * n)) hbX (by omega)
                have hX2 : X < (((V4.setCell ⟨b5, 0, none⟩ (.int .i64 (n : Int))).setCell ⟨b5, 1, none⟩ (.int .i64 (n : Int))).setCell ⟨b5, 2, none⟩ (.slice (some ⟨X, 0, none⟩) (n * n) (n * n))).heap.size := by simp only [World.size_setCell]; exact hX2
                have hbY := three_apart (b := b5) (x := .int .i64 (n : Int)) (y := .int .i64 (n : Int)) (z := .slice (some ⟨X, 0, none⟩) (n * n) (n * n)) hbY (by omega)
                have hY2 : Y < (((V4.setCell ⟨b5, 0, none⟩ (.int .i64 (n : Int))).setCell ⟨b5, 1, none⟩ (.int .i64 (n : Int))).setCell ⟨b5, 2, none⟩ (.slice (some ⟨X, 0, none⟩) (n * n) (n * n))).heap.size := by simp only [World.size_setCell]; exact hY2
                have HB := ((HB.setCell (p := ⟨b5, 0, none⟩) (by dsimp only; omega) (.int .i64 (n : Int))).setCell (p := ⟨b5, 1, none⟩) (by dsimp only; omega) (.int .i64 (n : Int))).setCell (p := ⟨b5, 2, none⟩) (by dsimp only; omega) (.slice (some ⟨X, 0, none⟩) (n * n) (n * n))
                have hss : V4.heap.size ≤ (((V4.setCell ⟨b5, 0, none⟩ (.int .i64 (n : Int))).setCell ⟨b5, 1, none⟩ (.int .i64 (n : Int))).setCell ⟨b5, 2, none⟩ (.slice (some ⟨X, 0, none⟩) (n * n) (n * n))).heap.size := by simp only [World.size_setCell]; exact Nat.le_refl _
                refine hK.out _ _ TA (fun _ => ?_)
                clear hK TQ
                generalize (((V4.setCell ⟨b5, 0, none⟩ (.int .i64 (n : Int))).setCell ⟨b5, 1, none⟩ (.int .i64 (n : Int))).setCell ⟨b5, 2, none⟩ (.slice (some ⟨X, 0, none⟩) (n * n) (n * n))) = V5 at *
                try simp only [Act.put, List.setIfInBounds_toArray, List.set_cons_zero, List.set_cons_succ]
                obtain ⟨u0, u1, u2, u3, u4, u5⟩ := T6
                have TQ : Three V5 b6 _ _ _ := ⟨u0, u1, u2, u3, u4, u5⟩
                refine wpAnyH_ready (rs := [9]) (by kernel_rfl) (by simp) ?_
                refine AllReadyH.cons rfl (fun K hK => ?_) AllReadyH.nil
                rw [if_pos (by rfl)]
                go_simp
                clear u0 u1 u2 u3 u4 u5
                have T6 := three_put TQ (.int .i64 (n : Int)) (.int .i64 (n : Int)) (.slice (some ⟨Y, 0, none⟩) (n * n) (n * n))
                have T5 := three_cell (three_cell (three_cell T5 (d := ⟨b6, 0, none⟩) (u := .int .i64 (n : Int)) (by dsimp only; omega)) (d := ⟨b6, 1, none⟩) (u := .int .i64 (n : Int)) (by dsimp only; omega)) (d := ⟨b6, 2, none⟩) (u := .slice (some ⟨Y, 0, none⟩) (n * n) (n * n)) (by dsimp only; omega)
                have TA := three_cell (three_cell (three_cell TA (d := ⟨b6, 0, none⟩) (u := .int .i64 (n : Int)) (by dsimp only; omega)) (d := ⟨b6, 1, none⟩) (u := .int .i64 (n : Int)) (by dsimp only; omega)) (d := ⟨b6, 2, none⟩) (u := .slice (some ⟨Y, 0, none⟩) (n * n) (n * n)) (by dsimp only; omega)
                have hbX := three_apart (b := b6) (x := .int .i64 (n : Int)) (y := .int .i64 (n : Int)) (z := .slice (some ⟨Y, 0, none⟩) (n * n) (n * n)) hbX (by omega)
                have hX2 : X < (((V5.setCell ⟨b6, 0, none⟩ (.int .i64 (n : Int))).setCell ⟨b6, 1, none⟩ (.int .i64 (n : Int))).setCell ⟨b6, 2, none⟩ (.slice (some ⟨Y, 0, none⟩) (n * n) (n * n))).heap.size := by simp only [World.size_setCell]; exact hX2
                have hbY := three_apart (b := b6) (x := .int .i64 (n : Int)) (y := .int .i64 (n : Int)) (z := .slice (some ⟨Y, 0, none⟩) (n * n) (n * n)) hbY (by omega)
                have hY2 : Y < (((V5.setCell ⟨b6, 0, none⟩ (.int .i64 (n : Int))).setCell ⟨b6, 1, none⟩ (.int .i64 (n : Int))).setCell ⟨b6, 2, none⟩ (.slice (some ⟨Y, 0, none⟩) (n * n) (n * n))).heap.size := by simp only [World.size_setCell]; exact hY2
                have HB := ((HB.setCell (p := ⟨b6, 0, none⟩) (by dsimp only; omega) (.int .i64 (n : Int))).setCell (p := ⟨b6, 1, none⟩) (by dsimp only; omega) (.int .i64 (n : Int))).setCell (p := ⟨b6, 2, none⟩) (by dsimp only; omega) (.slice (some ⟨Y, 0, none⟩) (n * n) (n * n))
                have hss : V5.heap.size ≤ (((V5.setCell ⟨b6, 0, none⟩ (.int .i64 (n : Int))).setCell ⟨b6, 1, none⟩ (.int .i64 (n : Int))).setCell ⟨b6, 2, none⟩ (.slice (some ⟨Y, 0, none⟩) (n * n) (n * n))).heap.size := by simp only [World.size_setCell]; exact Nat.le_refl _
                refine hK.out _ _ TA (fun _ => ?_)
                clear hK TQ
                generalize (((V5.setCell ⟨b6, 0, none⟩ (.int .i64 (n : Int))).setCell ⟨b6, 1, none⟩ (.int .i64 (n : Int))).setCell ⟨b6, 2, none⟩ (.slice (some ⟨Y, 0, none⟩) (n * n) (n * n))) = V6 at *
                try simp only [Act.put, List.setIfInBounds_toArray, List.set_cons_zero, List.set_cons_succ]
                refine wpAnyH_done (by kernel_rfl) ?_ _
                go_wp2_with fail
                go_meet
                exact ⟨b5, b6, X, Y, ms, ns, rfl, rfl, ⟨T5, T6, hbX, hbY, hlX, hlY, hX2, hY2, by omega, by omega, by omega, by omega, by omega, by omega, by omega, HB⟩⟩
              · rw [if_pos (by rfl)]
                go_simp
                have T6 := Three.new V2 (.int .i64 0) (.int .i64 0) (.slice none 0 0) 30
                have hbe := (Below.refl V2.heap.size V2).alloc (Nat.le_refl _) (.cells #[.int .i64 0, .int .i64 0, .slice none 0 0] 30)
                have hsb6 : V2.heap.size < (V2.alloc (.cells #[.int .i64 0, .int .i64 0, .slice none 0 0] 30)).heap.size := by simp
                have hwb6 := HB.size
                have hXob6 := hX2
                have hYob6 := hY2
                have hbX := blk_below hbX hX2 hbe
                replace hX2 := Nat.lt_of_lt_of_le hX2 hbe.size
                have hbY := blk_below hbY hY2 hbe
                replace hY2 := Nat.lt_of_lt_of_le hY2 hbe.size
                have TA := TA.below hbe
                have HB := HB.trans (hbe.mono HB.size)
                have hss := hbe.size
                refine hK.out _ _ TA (fun _ => ?_)
                clear hK hbe
                generalize V2.alloc (.cells #[.int .i64 0, .int .i64 0, .slice none 0 0] 30) = V3 at *
                generalize V2.heap.size = b6 at *
                try simp only [Act.put, List.setIfInBounds_toArray, List.set_cons_zero, List.set_cons_succ]
                refine wpAnyH_ready (rs := [6]) (by kernel_rfl) (by simp) ?_
                refine AllReadyH.cons rfl (fun K hK => ?_) AllReadyH.nil
                rw [if_pos (by rfl)]
                go_simp
                have T5 := Three.new V3 (.int .i64 0) (.int .i64 0) (.slice none 0 0) 30
                have hbe := (Below.refl V3.heap.size V3).alloc (Nat.le_refl _) (.cells #[.int .i64 0, .int .i64 0, .slice none 0 0] 30)
                have hsb5 : V3.heap.size < (V3.alloc (.cells #[.int .i64 0, .int .i64 0, .slice none 0 0] 30)).heap.size := by simp
                have hwb5 := HB.size
                have hXob5 := hX2
                have hYob5 := hY2
                have T6 := T6.below hbe
                have hbX := blk_below hbX hX2 hbe
                replace hX2 := Nat.lt_of_lt_of_le hX2 hbe.size
                have hbY := blk_below hbY hY2 hbe
                replace hY2 := Nat.lt_of_lt_of_le hY2 hbe.size
                have TA := TA.below hbe
                have HB := HB.trans (hbe.mono HB.size)
                have hss := hbe.size
                refine hK.out _ _ TA (fun _ => ?_)
                clear hK hbe
                generalize V3.alloc (.cells #[.int .i64 0, .int .i64 0, .slice none 0 0] 30) = V4 at *
                generalize V3.heap.size = b5 at *
                try simp only [Act.put, List.setIfInBounds_toArray, List.set_cons_zero, List.set_cons_succ]
                obtain ⟨u0, u1, u2, u3, u4, u5⟩ := T5
                have TQ : Three V4 b5 _ _ _ := ⟨u0, u1, u2, u3, u4, u5⟩
                refine wpAnyH_ready (rs := [8]) (by kernel_rfl) (by simp) ?_
                refine AllReadyH.cons rfl (fun K hK => ?_) AllReadyH.nil
                rw [if_pos (by rfl)]
                go_simp
                clear u0 u1 u2 u3 u4 u5
                have T5 := three_put TQ (.int .i64 (n : Int)) (.int .i64 (n : Int)) (.slice (some ⟨X, 0, none⟩) (n * n) (n * n))
                have T6 := three_cell (three_cell (three_cell T6 (d := ⟨b5, 0, none⟩) (u := .int .i64 (n : Int)) (by dsimp only; omega)) (d := ⟨b5, 1, none⟩) (u := .int .i64 (n : Int)) (by dsimp only; omega)) (d := ⟨b5, 2, none⟩) (u := .slice (some ⟨X, 0, none⟩) (n * n) (n * n)) (by dsimp only; omega)
                have TA := three_cell (three_cell (three_cell TA (d := ⟨b5, 0, none⟩) (u := .int .i64 (n : Int)) (by dsimp only; omega)) (d := ⟨b5, 1, none⟩) (u := .int .i64 (n : Int)) (by dsimp only; omega)) (d := ⟨b5, 2, none⟩) (u := .slice (some ⟨X, 0, none⟩) (n * n) (n * n)) (by dsimp only; omega)
                have hbX := three_apart (b := b5) (x := .int .i64 (n : Int)) (y := .int .i64 (n : Int)) (z := .slice (some ⟨X, 0, none⟩) (n * n) (n * n)) hbX (by omega)
                have hX2 : X < (((V4.setCell ⟨b5, 0, none⟩ (.int .i64 (n : Int))).setCell ⟨b5, 1, none⟩ (.int .i64 (n : Int))).setCell ⟨b5, 2, none⟩ (.slice (some ⟨X, 0, none⟩) (n * n) (n * n))).heap.size := by simp only [World.size_setCell]; exact hX2
                have hbY := three_apart (b := b5) (x := .int .i64 (n : Int)) (y := .int .i64 (n : Int)) (z := .slice (some ⟨X, 0, none⟩) (n * n) (n * n)) hbY (by omega)
                have hY2 : Y < (((V4.setCell ⟨b5, 0, none⟩ (.int .i64 (n : Int))).setCell ⟨b5, 1, none⟩ (.int .i64 (n : Int))).setCell ⟨b5, 2, none⟩ (.slice (some ⟨X, 0, none⟩) (n * n) (n * n))).heap.size := by simp only [World.size_setCell]; exact hY2
                have HB := ((HB.setCell (p := ⟨b5, 0, none⟩) (by dsimp only; omega) (.int .i64 (n : Int))).setCell (p := ⟨b5, 1, none⟩) (by dsimp only; omega) (.int .i64 (n : Int))).setCell (p := ⟨b5, 2, none⟩) (by dsimp only; omega) (.slice (some ⟨X, 0, none⟩) (n * n) (n * n))
                have hss : V4.heap.size ≤ (((V4.setCell ⟨b5, 0, none⟩ (.int .i64 (n : Int))).setCell ⟨b5, 1, none⟩ (.int .i64 (n : Int))).setCell ⟨b5, 2, none⟩ (.slice (some ⟨X, 0, none⟩) (n * n) (n * n))).heap.size := by simp only [World.size_setCell]; exact Nat.le_refl _
                refine hK.out _ _ TA (fun _ => ?_)
                clear hK TQ
                generalize (((V4.setCell ⟨b5, 0, none⟩ (.int .i64 (n : Int))).setCell ⟨b5, 1, none⟩ (.int .i64 (n : Int))).setCell ⟨b5, 2, none⟩ (.slice (some ⟨X, 0, none⟩) (n * n) (n * n))) = V5 at *
                try simp only [Act.put, List.setIfInBounds_toArray, List.set_cons_zero, List.set_cons_succ]
                obtain ⟨u0, u1, u2, u3, u4, u5⟩ := T6
                have TQ : Three V5 b6 _ _ _ := ⟨u0, u1, u2, u3, u4, u5⟩
                refine wpAnyH_ready (rs := [9]) (by kernel_rfl) (by simp) ?_
                refine AllReadyH.cons rfl (fun K hK => ?_) AllReadyH.nil
                rw [if_pos (by rfl)]
                go_simp
                clear u0 u1 u2 u3 u4 u5
                have T6 := three_put TQ (.int .i64 (n : Int)) (.int .i64 (n : Int)) (.slice (some ⟨Y, 0, none⟩) (n * n) (n * n))
                have T5 := three_cell (three_cell (three_cell T5 (d := ⟨b6, 0, none⟩) (u := .int .i64 (n : Int)) (by dsimp only; omega)) (d := ⟨b6, 1, none⟩) (u := .int .i64 (n : Int)) (by dsimp only; omega)) (d := ⟨b6, 2, none⟩) (u := .slice (some ⟨Y, 0, none⟩) (n * n) (n * n)) (by dsimp only; omega)
                have TA := three_cell (three_cell (three_cell TA (d := ⟨b6, 0, none⟩) (u := .int .i64 (n : Int)) (by dsimp only; omega)) (d := ⟨b6, 1, none⟩) (u := .int .i64 (n : Int)) (by dsimp only; omega)) (d := ⟨b6, 2, none⟩) (u := .slice (some ⟨Y, 0, none⟩) (n * n) (n * n)) (by dsimp only; omega)
                have hbX := three_apart (b := b6) (x := .int .i64 (n : Int)) (y := .int .i64 (n : Int)) (z := .slice (some ⟨Y, 0, none⟩) (n * n) (n * n)) hbX (by omega)
                have hX2 : X < (((V5.setCell ⟨b6, 0, none⟩ (.int .i64 (n : Int))).setCell ⟨b6, 1, none⟩ (.int .i64 (n : Int))).setCell ⟨b6, 2, none⟩ (.slice (some ⟨Y, 0, none⟩) (n * n) (n * n))).heap.size := by simp only [World.size_setCell]; exact hX2
                have hbY := three_apart (b := b6) (x := .int .i64 (n : Int)) (y := .int .i64 (n : Int)) (z := .slice (some ⟨Y, 0, none⟩) (n * n) (n * n)) hbY (by omega)
                have hY2 : Y < (((V5.setCell ⟨b6, 0, none⟩ (.int .i64 (n : Int))).setCell ⟨b6, 1, none⟩ (.int .i64 (n : Int))).setCell ⟨b6, 2, none⟩ (.slice (some ⟨Y, 0, none⟩) (n * n) (n * n))).heap.size := by simp only [World.size_setCell]; exact hY2
                have HB := ((HB.setCell (p := ⟨b6, 0, none⟩) (by dsimp only; omega) (.int .i64 (n : Int))).setCell (p := ⟨b6, 1, none⟩) (by dsimp only; omega) (.int .i64 (n : Int))).setCell (p := ⟨b6, 2, none⟩) (by dsimp only; omega) (.slice (some ⟨Y, 0, none⟩) (n * n) (n * n))
                have hss : V5.heap.size ≤ (((V5.setCell ⟨b6, 0, none⟩ (.int .i64 (n : Int))).setCell ⟨b6, 1, none⟩ (.int .i64 (n : Int))).setCell ⟨b6, 2, none⟩ (.slice (some ⟨Y, 0, none⟩) (n * n) (n * n))).heap.size := by simp only [World.size_setCell]; exact Nat.le_refl _
                refine hK.out _ _ TA (fun _ => ?_)
                clear hK TQ
                generalize (((V5.setCell ⟨b6, 0, none⟩ (.int .i64 (n : Int))).setCell ⟨b6, 1, none⟩ (.int .i64 (n : Int))).setCell ⟨b6, 2, none⟩ (.slice (some ⟨Y, 0, none⟩) (n * n) (n * n))) = V6 at *
                try simp only [Act.put, List.setIfInBounds_toArray, List.set_cons_zero, List.set_cons_succ]
                refine wpAnyH_done (by kernel_rfl) ?_ _
                go_wp2_with fail
                go_meet
                exact ⟨b5, b6, X, Y, ms, ns, rfl, rfl, ⟨T5, T6, hbX, hbY, hlX, hlY, hX2, hY2, by omega, by omega, by omega, by omega, by omega, by omega, by omega, HB⟩⟩
            · rw [if_pos (by rfl)]
              go_simp
              have T5 := Three.new V1 (.int .i64 0) (.int .i64 0) (.slice none 0 0) 30
              have hbe := (Below.refl V1.heap.size V1).alloc (Nat.le_refl _) (.cells #[.int .i64 0, .int .i64 0, .slice none 0 0] 30)
              have hsb5 : V1.heap.size < (V1.alloc (.cells #[.int .i64 0, .int .i64 0, .slice none 0 0] 30)).heap.size := by simp
              have hwb5 := HB.size
              have hXob5 := hX2
              have hbX := blk_below hbX hX2 hbe
              replace hX2 := Nat.lt_of_lt_of_le hX2 hbe.size
              have TA := TA.below hbe
              have HB := HB.trans (hbe.mono HB.size)
              have hss := hbe.size
              refine hK.out _ _ TA (fun _ => ?_)
              clear hK hbe
              generalize V1.alloc (.cells #[.int .i64 0, .int .i64 0, .slice none 0 0] 30) = V2 at *
              generalize V1.heap.size = b5 at *
              try simp only [Act.put, List.setIfInBounds_toArray, List.set_cons_zero, List.set_cons_succ]
              refine wpAnyH_ready (rs := [5, 7]) (by kernel_rfl) (by simp) ?_
              refine AllReadyH.cons rfl (fun K hK => ?_) (AllReadyH.cons rfl (fun K hK => ?_) AllReadyH.nil)
              · rw [if_pos (by rfl)]
                go_simp
                have hsq := square_any (.slice A l.length c) (.slice zp zl zc) (.slice pL ss.length kL) l n 9 V2 (HM1.out.below HB) hn1 hn8 (by omega)
                rw [show ((9 : Nat) : Int) = 9 from rfl] at hsq
                refine hsq.mono ?_
                clear hsq
                rintro e V3 ⟨v, ns, rfl, ⟨Y, hY1, hY2, rfl, hbY, hlY⟩, hbe⟩
                have T5 := T5.below hbe
                have hbX := blk_below hbX hX2 hbe
                replace hX2 := Nat.lt_of_lt_of_le hX2 hbe.size
                have TA := TA.below hbe
                have HB := HB.trans (hbe.mono HB.size)
                have hss := hbe.size
                refine hK.out _ _ TA (fun _ => ?_)
                clear hK hbe
                unfold matV
                try simp only [Act.put, List.setIfInBounds_toArray, List.set_cons_zero, List.set_cons_succ]
                refine wpAnyH_ready (rs := [7]) (by kernel_rfl) (by simp) ?_
                refine AllReadyH.cons rfl (fun K hK => ?_) AllReadyH.nil
                rw [if_pos (by rfl)]
                go_simp
                have T6 := Three.new V3 (.int .i64 0) (.int .i64 0) (.slice none 0 0) 30
                have hbe := (Below.refl V3.heap.size V3).alloc (Nat.le_refl _) (.cells #[.int .i64 0, .int .i64 0, .slice none 0 0] 30)
                have hsb6 : V3.heap.size < (V3.alloc (.cells #[.int .i64 0, .int .i64 0, .slice none 0 0] 30)).heap.size := by simp
                have hwb6 := HB.size
                have hXob6 := hX2
                have hYob6 := hY2
                have T5 := T5.below hbe
                have hbX := blk_below hbX hX2 hbe
                replace hX2 := Nat.lt_of_lt_of_le hX2 hbe.size
                have hbY := blk_below hbY hY2 hbe
                replace hY2 := Nat.lt_of_lt_of_le hY2 hbe.size
                have TA := TA.below hbe
                have HB := HB.trans (hbe.mono HB.size)
                have hss := hbe.size
                refine hK.out _ _ TA (fun _ => ?_)
                clear hK hbe
                generalize V3.alloc (.cells #[.int .i64 0, .int .i64 0, .slice none 0 0] 30) = V4 at *
                generalize V3.heap.size = b6 at *
                try simp only [Act.put, List.setIfInBounds_toArray, List.set_cons_zero, List.set_cons_succ]
                obtain ⟨u0, u1, u2, u3, u4, u5⟩ := T5
                have TQ : Three V4 b5 _ _ _ := ⟨u0, u1, u2, u3, u4, u5⟩
                refine wpAnyH_ready (rs := [8]) (by kernel_rfl) (by simp) ?_
                refine AllReadyH.cons rfl (fun K hK => ?_) AllReadyH.nil
                rw [if_pos (by rfl)]
                go_simp
                clear u0 u1 u2 u3 u4 u5
                have T5 := three_put TQ (.int .i64 (n : Int)) (.int .i64 (n : Int)) (.slice (some ⟨X, 0, none⟩) (n * n) (n * n))
                have T6 := three_cell (three_cell (three_cell T6 (d := ⟨b5, 0, none⟩) (u := .int .i64 (n : Int)) (by dsimp only; omega)) (d := ⟨b5, 1, none⟩) (u := .int .i64 (n : Int)) (by dsimp only; omega)) (d := ⟨b5, 2, none⟩) (u := .slice (some ⟨X, 0, none⟩) (n * n) (n * n)) (by dsimp only; omega)
                have TA := three_cell (three_cell (three_cell TA (d := ⟨b5, 0, none⟩) (u := .int .i64 (n : Int)) (by dsimp only; omega)) (d := ⟨b5, 1, none⟩) (u := .int .i64 (n : Int)) (by dsimp only; omega)) (d := ⟨b5, 2, none⟩) (u := .slice (some ⟨X, 0, none⟩) (n * n) (n * n)) (by dsimp only; omega)
                have hbX := three_apart (b := b5) (x := .int .i64 (n : Int)) (y := .int .i64 (n : Int)) (z := .slice (some ⟨X, 0, none⟩) (n * n) (n * n)) hbX (by omega)
                have hX2 : X < (((V4.setCell ⟨b5, 0, none⟩ (.int .i64 (n : Int))).setCell ⟨b5, 1, none⟩ (.int .i64 (n : Int))).setCell ⟨b5, 2, none⟩ (.slice (some ⟨X, 0, none⟩) (n * n) (n * n))).heap.size := by simp only [World.size_setCell]; exact hX2
                have hbY := three_apart (b := b5) (x := .int .i64 (n : Int)) (y := .int .i64 (n : Int)) (z := .slice (some ⟨X, 0, none⟩) (n * n) (n * n)) hbY (by omega)
                have hY2 : Y < (((V4.setCell ⟨b5, 0, none⟩ (.int .i64 (n : Int))).setCell ⟨b5, 1, none⟩ (.int .i64 (n : Int))).setCell ⟨b5, 2, none⟩ (.slice (some ⟨X, 0, none⟩) (n * n) (n * n))).heap.size := by simp only [World.size_setCell]; exact hY2
                have HB := ((HB.setCell (p := ⟨b5, 0, none⟩) (by dsimp only; omega) (.int .i64 (n : Int))).setCell (p := ⟨b5, 1, none⟩) (by dsimp only; omega) (.int .i64 (n : Int))).setCell (p := ⟨b5, 2, none⟩) (by dsimp only; omega) (.slice (some ⟨X, 0, none⟩) (n * n) (n * n))
                have hss : V4.heap.size ≤ (((V4.setCell ⟨b5, 0, none⟩ (.int .i64 (n : Int))).setCell ⟨b5, 1, none⟩ (.int .i64 (n : Int))).setCell ⟨b5, 2, none⟩ (.slice (some ⟨X, 0, none⟩) (n * n) (n * n))).heap.size := by simp only [World.size_setCell]; exact Nat.le_refl _
                refine hK.out _ _ TA (fun _ => ?_)
                clear hK TQ
                generalize (((V4.setCell ⟨b5, 0, none⟩ (.int .i64 (n : Int))).setCell ⟨b5, 1, none⟩ (.int .i64 (n : Int))).setCell ⟨b5, 2, none⟩ (.slice (some ⟨X, 0, none⟩) (n * n) (n * n))) = V5 at *
                try simp only [Act.put, List.setIfInBounds_toArray, List.set_cons_zero, List.set_cons_succ]
                obtain ⟨u0, u1, u2, u3, u4, u5⟩ := T6
                have TQ : Three V5 b6 _ _ _ := ⟨u0, u1, u2, u3, u4, u5⟩
                refine wpAnyH_ready (rs := [9]) (by kernel_rfl) (by simp) ?_
                refine AllReadyH.cons rfl (fun K hK => ?_) AllReadyH.nil
                rw [if_pos (by rfl)]
                go_simp
                clear u0 u1 u2 u3 u4 u5
                have T6 := three_put TQ (.int .i64 (n : Int)) (.int .i64 (n : Int)) (.slice (some ⟨Y, 0, none⟩) (n * n) (n * n))
                have T5 := three_cell (three_cell (three_cell T5 (d := ⟨b6, 0, none⟩) (u := .int .i64 (n : Int)) (by dsimp only; omega)) (d := ⟨b6, 1, none⟩) (u := .int .i64 (n : Int)) (by dsimp only; omega)) (d := ⟨b6, 2, none⟩) (u := .slice (some ⟨Y, 0, none⟩) (n * n) (n * n)) (by dsimp only; omega)
                have TA := three_cell (three_cell (three_cell TA (d := ⟨b6, 0, none⟩) (u := .int .i64 (n : Int)) (by dsimp only; omega)) (d := ⟨b6, 1, none⟩) (u := .int .i64 (n : Int)) (by dsimp only; omega)) (d := ⟨b6, 2, none⟩) (u := .slice (some ⟨Y, 0, none⟩) (n * n) (n * n)) (by dsimp only; omega)
                have hbX := three_apart (b := b6) (x := .int .i64 (n : Int)) (y := .int .i64 (n : Int)) (z := .slice (some ⟨Y, 0, none⟩) (n * n) (n * n)) hbX (by omega)
                have hX2 : X < (((V5.setCell ⟨b6, 0, none⟩ (.int .i64 (n : Int))).setCell ⟨b6, 1, none⟩ (.int .i64 (n : Int))).setCell ⟨b6, 2, none⟩ (.slice (some ⟨Y, 0, none⟩) (n * n) (n * n))).heap.size := by simp only [World.size_setCell]; exact hX2
                have hbY := three_apart (b := b6) (x := .int .i64 (n : Int)) (y := .int .i64 (n : Int)) (z := .slice (some ⟨Y, 0, none⟩) (n * n) (n * n)) hbY (by omega)
                have hY2 : Y < (((V5.setCell ⟨b6, 0, none⟩ (.int .i64 (n : Int))).setCell ⟨b6, 1, none⟩ (.int .i64 (n : Int))).setCell ⟨b6, 2, none⟩ (.slice (some ⟨Y, 0, none⟩) (n * n) (n * n))).heap.size := by simp only [World.size_setCell]; exact hY2
                have HB := ((HB.setCell (p := ⟨b6, 0, none⟩) (by dsimp only; omega) (.int .i64 (n : Int))).setCell (p := ⟨b6, 1, none⟩) (by dsimp only; omega) (.int .i64 (n : Int))).setCell (p := ⟨b6, 2, none⟩) (by dsimp only; omega) (.slice (some ⟨Y, 0, none⟩) (n * n) (n * n))
                have hss : V5.heap.size ≤ (((V5.setCell ⟨b6, 0, none⟩ (.int .i64 (n : Int))).setCell ⟨b6, 1, none⟩ (.int .i64 (n : Int))).setCell ⟨b6, 2, none⟩ (.slice (some ⟨Y, 0, none⟩) (n * n) (n * n))).heap.size := by simp only [World.size_setCell]; exact Nat.le_refl _
                refine hK.out _ _ TA (fun _ => ?_)
                clear hK TQ
                generalize (((V5.setCell ⟨b6, 0, none⟩ (.int .i64 (n : Int))).setCell ⟨b6, 1, none⟩ (.int .i64 (n : Int))).setCell ⟨b6, 2, none⟩ (.slice (some ⟨Y, 0, none⟩) (n * n) (n * n))) = V6 at *
                try simp only [Act.put, List.setIfInBounds_toArray, List.set_cons_zero, List.set_cons_succ]
                refine wpAnyH_done (by kernel_rfl) ?_ _
                go_wp2_with fail
                go_meet
                exact ⟨b5, b6, X, Y, ms, ns, rfl, rfl, ⟨T5, T6, hbX, hbY, hlX, hlY, hX2, hY2, by omega, by omega, by omega, by omega, by omega, by omega, by omega, HB⟩⟩
              · rw [if_pos (by rfl)]
                go_simp
                have T6 := Three.new V2 (.int .i64 0) (.int .i64 0) (.slice none 0 0) 30
                have hbe := (Below.refl V2.heap.size V2).alloc (Nat.le_refl _) (.cells #[.int .i64 0, .int .i64 0, .slice none 0 0] 30)
                have hsb6 : V2.heap.size < (V2.alloc (.cells #[.int .i64 0, .int .i64 0, .slice none 0 0] 30)).heap.size := by simp
                have hwb6 := HB.size
                have hXob6 := hX2
                have T5 := T5.below hbe
                have hbX := blk_below hbX hX2 hbe
                replace hX2 := Nat.lt_of_lt_of_le hX2 hbe.size
                have TA := TA.below hbe
                have HB := HB.trans (hbe.mono HB.size)
                have hss := hbe.size
                refine hK.out _ _ TA (fun _ => ?_)
                clear hK hbe
                generalize V2.alloc (.cells #[.int .i64 0, .int .i64 0, .slice none 0 0] 30) = V3 at *
                generalize V2.heap.size = b6 at *
                try simp only [Act.put, List.setIfInBounds_toArray, List.set_cons_zero, List.set_cons_succ]
                refine wpAnyH_ready (rs := [5]) (by kernel_rfl) (by simp) ?_
                refine AllReadyH.cons rfl (fun K hK => ?_) AllReadyH.nil
                rw [if_pos (by rfl)]
                go_simp
                have hsq := square_any (.slice A l.length c) (.slice zp zl zc) (.slice pL ss.length kL) l n 9 V3 (HM1.out.below HB) hn1 hn8 (by omega)
                rw [show ((9 : Nat) : Int) = 9 from rfl] at hsq
                refine hsq.mono ?_
                clear hsq
                rintro e V4 ⟨v, ns, rfl, ⟨Y, hY1, hY2, rfl, hbY, hlY⟩, hbe⟩
                have T5 := T5.below hbe
                have T6 := T6.below hbe
                have hbX := blk_below hbX hX2 hbe
                replace hX2 := Nat.lt_of_lt_of_le hX2 hbe.size
                have TA := TA.below hbe
                have HB := HB.trans (hbe.mono HB.size)
                have hss := hbe.size
                refine hK.out _ _ TA (fun _ => ?_)
                clear hK hbe
                unfold matV
                try simp only [Act.put, List.setIfInBounds_toArray, List.set_cons_zero, List.set_cons_succ]
                obtain ⟨u0, u1, u2, u3, u4, u5⟩ := T5
                have TQ : Three V4 b5 _ _ _ := ⟨u0, u1, u2, u3, u4, u5⟩
                refine wpAnyH_ready (rs := [8]) (by kernel_rfl) (by simp) ?_
                refine AllReadyH.cons rfl (fun K hK => ?_) AllReadyH.nil
                rw [if_pos (by rfl)]
                go_simp
                clear u0 u1 u2 u3 u4 u5
                have T5 := three_put TQ (.int .i64 (n : Int)) (.int .i64 (n : Int)) (.slice (some ⟨X, 0, none⟩) (n * n) (n * n))
                have T6 := three_cell (three_cell (three_cell T6 (d := ⟨b5, 0, none⟩) (u := .int .i64 (n : Int)) (by dsimp only; omega)) (d := ⟨b5, 1, none⟩) (u := .int .i64 (n : Int)) (by dsimp only; omega)) (d := ⟨b5, 2, none⟩) (u := .slice (some ⟨X, 0, none⟩) (n * n) (n * n)) (by dsimp only; omega)
                have TA := three_cell (three_cell (three_cell TA (d := ⟨b5, 0, none⟩) (u := .int .i64 (n : Int)) (by dsimp only; omega)) (d := ⟨b5, 1, none⟩) (u := .int .i64 (n : Int)) (by dsimp only; omega)) (d := ⟨b5, 2, none⟩) (u := .slice (some ⟨X, 0, none⟩) (n * n) (n * n)) (by dsimp only; omega)
                have hbX := three_apart (b := b5) (x := .int .i64 (n : Int)) (y := .int .i64 (n : Int)) (z := .slice (some ⟨X, 0, none⟩) (n * n) (n * n)) hbX (by omega)
                have hX2 : X < (((V4.setCell ⟨b5, 0, none⟩ (.int .i64 (n : Int))).setCell ⟨b5, 1, none⟩ (.int .i64 (n : Int))).setCell ⟨b5, 2, none⟩ (.slice (some ⟨X, 0, none⟩) (n * n) (n * n))).heap.size := by simp only [World.size_setCell]; exact hX2
                have hbY := three_apart (b := b5) (x := .int .i64 (n : Int)) (y := .int .i64 (n : Int)) (z := .slice (some ⟨X, 0, none⟩) (n * n) (n * n)) hbY (by omega)
                have hY2 : Y < (((V4.setCell ⟨b5, 0, none⟩ (.int .i64 (n : Int))).setCell ⟨b5, 1, none⟩ (.int .i64 (n : Int))).setCell ⟨b5, 2, none⟩ (.slice (some ⟨X, 0, none⟩) (n * n) (n * n))).heap.size := by simp only [World.size_setCell]; exact hY2
                have HB := ((HB.setCell (p := ⟨b5, 0, none⟩) (by dsimp only; omega) (.int .i64 (n : Int))).setCell (p := ⟨b5, 1, none⟩) (by dsimp only; omega) (.int .i64 (n : Int))).setCell (p := ⟨b5, 2, none⟩) (by dsimp only; omega) (.slice (some ⟨X, 0, none⟩) (n * n) (n * n))
                have hss : V4.heap.size ≤ (((V4.setCell ⟨b5, 0, none⟩ (.int .i64 (n : Int))).setCell ⟨b5, 1, none⟩ (.int .i64 (n : Int))).setCell ⟨b5, 2, none⟩ (.slice (some ⟨X, 0, none⟩) (n * n) (n * n))).heap.size := by simp only [World.size_setCell]; exact Nat.le_refl _
                refine hK.out _ _ TA (fun _ => ?_)
                clear hK TQ
                generalize (((V4.setCell ⟨b5, 0, none⟩ (.int .i64 (n : Int))).setCell ⟨b5, 1, none⟩ (.int .i64 (n : Int))).setCell ⟨b5, 2, none⟩ (.slice (some ⟨X, 0, none⟩) (n * n) (n * n))) = V5 at *
                try simp only [Act.put, List.setIfInBounds_toArray, List.set_cons_zero, List.set_cons_succ]
                obtain ⟨u0, u1, u2, u3, u4, u5⟩ := T6
                have TQ : Three V5 b6 _ _ _ := ⟨u0, u1, u2, u3, u4, u5⟩
                refine wpAnyH_ready (rs := [9]) (by kernel_rfl) (by simp) ?_
                refine AllReadyH.cons rfl (fun K hK => ?_) AllReadyH.nil
                rw [if_pos (by rfl)]
                go_simp
                clear u0 u1 u2 u3 u4 u5
                have T6 := three_put TQ (.int .i64 (n : Int)) (.int .i64 (n : Int)) (.slice (some ⟨Y, 0, none⟩) (n * n) (n * n))
                have T5 := three_cell (three_cell (three_cell T5 (d := ⟨b6, 0, none⟩) (u := .int .i64 (n : Int)) (by dsimp only; omega)) (d := ⟨b6, 1, none⟩) (u := .int .i64 (n : Int)) (by dsimp only; omega)) (d := ⟨b6, 2, none⟩) (u := .slice (some ⟨Y, 0, none⟩) (n * n) (n * n)) (by dsimp only; omega)
                have TA := three_cell (three_cell (three_cell TA (d := ⟨b6, 0, none⟩) (u := .int .i64 (n : Int)) (by dsimp only; omega)) (d := ⟨b6, 1, none⟩) (u := .int .i64 (n : Int)) (by dsimp only; omega)) (d := ⟨b6, 2, none⟩) (u := .slice (some ⟨Y, 0, none⟩) (n * n) (n * n)) (by dsimp only; omega)
                have hbX := three_apart (b := b6) (x := .int .i64 (n : Int)) (y := .int .i64 (n : Int)) (z := .slice (some ⟨Y, 0, none⟩) (n * n) (n * n)) hbX (by omega)
                have hX2 : X < (((V5.setCell ⟨b6, 0, none⟩ (.int .i64 (n : Int))).setCell ⟨b6, 1, none⟩ (.int .i64 (n : Int))).setCell ⟨b6, 2, none⟩ (.slice (some ⟨Y, 0, none⟩) (n * n) (n * n))).heap.size := by simp only [World.size_setCell]; exact hX2
                have hbY := three_apart (b := b6) (x := .int .i64 (n : Int)) (y := .int .i64 (n : Int)) (z := .slice (some ⟨Y, 0, none⟩) (n * n) (n * n)) hbY (by omega)
                have hY2 : Y < (((V5.setCell ⟨b6, 0, none⟩ (.int .i64 (n : Int))).setCell ⟨b6, 1, none⟩ (.int .i64 (n : Int))).setCell ⟨b6, 2, none⟩ (.slice (some ⟨Y, 0, none⟩) (n * n) (n * n))).heap.size := by simp only [World.size_setCell]; exact hY2
                have HB := ((HB.setCell (p := ⟨b6, 0, none⟩) (by dsimp only; omega) (.int .i64 (n : Int))).setCell (p := ⟨b6, 1, none⟩) (by dsimp only; omega) (.int .i64 (n : Int))).setCell (p := ⟨b6, 2, none⟩) (by dsimp only; omega) (.slice (some ⟨Y, 0, none⟩) (n * n) (n * n))
                have hss : V5.heap.size ≤ (((V5.setCell ⟨b6, 0, none⟩ (.int .i64 (n : Int))).setCell ⟨b6, 1, none⟩ (.int .i64 (n : Int))).setCell ⟨b6, 2, none⟩ (.slice (some ⟨Y, 0, none⟩) (n * n) (n * n))).heap.size := by simp only [World.size_setCell]; exact Nat.le_refl _
                refine hK.out _ _ TA (fun _ => ?_)
                clear hK TQ
                generalize (((V5.setCell ⟨b6, 0, none⟩ (.int .i64 (n : Int))).setCell ⟨b6, 1, none⟩ (.int .i64 (n : Int))).setCell ⟨b6, 2, none⟩ (.slice (some ⟨Y, 0, none⟩) (n * n) (n * n))) = V6 at *
                try simp only [Act.put, List.setIfInBounds_toArray, List.set_cons_zero, List.set_cons_succ]
                refine wpAnyH_done (by kernel_rfl) ?_ _
                go_wp2_with fail
                go_meet
                exact ⟨b5, b6, X, Y, ms, ns, rfl, rfl, ⟨T5, T6, hbX, hbY, hlX, hlY, hX2, hY2, by omega, by omega, by omega, by omega, by omega, by omega, by omega, HB⟩⟩
            · rw [if_pos (by rfl)]
              go_simp
              have T6 := Three.new V1 (.int .i64 0) (.int .i64 0) (.slice none 0 0) 30
              have hbe := (Below.refl V1.heap.size V1).alloc (Nat.le_refl _) (.cells #[.int .i64 0, .int .i64 0, .slice none 0 0] 30)
              have hsb6 : V1.heap.size < (V1.alloc (.cells #[.int .i64 0, .int .i64 0, .slice none 0 0] 30)).heap.size := by simp
              have hwb6 := HB.size
              have hXob6 := hX2
              have hbX := blk_below hbX hX2 hbe
              replace hX2 := Nat.lt_of_lt_of_le hX2 hbe.size
              have TA := TA.below hbe
              have HB := HB.trans (hbe.mono HB.size)
              have hss := hbe.size
              refine hK.out _ _ TA (fun _ => ?_)
              clear hK hbe
              generalize V1.alloc (.cells #[.int .i64 0, .int .i64 0, .slice none 0 0] 30) = V2 at *
              generalize V1.heap.size = b6 at *
              try simp only [Act.put, List.setIfInBounds_toArray, List.set_cons_zero, List.set_cons_succ]
              refine wpAnyH_ready (rs := [5, 6]) (by kernel_rfl) (by simp) ?_
              refine AllReadyH.cons rfl (fun K hK => ?_) (AllReadyH.cons rfl (fun K hK => ?_) AllReadyH.nil)
              · rw [if_pos (by rfl)]
                go_simp
                have hsq := square_any (.slice A l.length c) (.slice zp zl zc) (.slice pL ss.length kL) l n 9 V2 (HM1.out.below HB) hn1 hn8 (by omega)
                rw [show ((9 : Nat) : Int) = 9 from rfl] at hsq
                refine hsq.mono ?_
                clear hsq
                rintro e V3 ⟨v, ns, rfl, ⟨Y, hY1, hY2, rfl, hbY, hlY⟩, hbe⟩
                have T6 := T6.below hbe
                have hbX := blk_below hbX hX2 hbe
                replace hX2 := Nat.lt_of_lt_of_le hX2 hbe.size
                have TA := TA.below hbe
                have HB := HB.trans (hbe.mono HB.size)
                have hss := hbe.size
                refine hK.out _ _ TA (fun _ => ?_)
                clear hK hbe
                unfold matV
                try simp only [Act.put, List.setIfInBounds_toArray, List.set_cons_zero, List.set_cons_succ]
                refine wpAnyH_ready (rs := [6]) (by kernel_rfl) (by simp) ?_
                refine AllReadyH.cons rfl (fun K hK => ?_) AllReadyH.nil
                rw [if_pos (by rfl)]
                go_simp
                have T5 := Three.new V3 (.int .i64 0) (.int .i64 0) (.slice none 0 0) 30
                have hbe := (Below.refl V3.heap.size V3).alloc (Nat.le_refl _) (.cells #[.int .i64 0, .int .i64 0, .slice none 0 0] 30)
                have hsb5 : V3.heap.size < (V3.alloc (.cells #[.int .i64 0, .int .i64 0, .slice none 0 0] 30)).heap.size := by simp
                have hwb5 := HB.size
                have hXob5 := hX2
                have hYob5 := hY2
                have T6 := T6.below hbe
                have hbX := blk_below hbX hX2 hbe
                replace hX2 := Nat.lt_of_lt_of_le hX2 hbe.size
                have hbY := blk_below hbY hY2 hbe
                replace hY2 := Nat.lt_of_lt_of_le hY2 hbe.size
                have TA := TA.below hbe
                have HB := HB.trans (hbe.mono HB.size)
                have hss := hbe.size
                refine hK.out _ _ TA (fun _ => ?_)
                clear hK hbe
                generalize V3.alloc (.cells #[.int .i64 0, .int .i64 0, .slice none 0 0] 30) = V4 at *
                generalize V3.heap.size = b5 at *
                try simp only [Act.put, List.setIfInBounds_toArray, List.set_cons_zero, List.set_cons_succ]
                obtain ⟨u0, u1, u2, u3, u4, u5⟩ := T5
                have TQ : Three V4 b5 _ _ _ := ⟨u0, u1, u2, u3, u4, u5⟩
                refine wpAnyH_ready (rs := [8]) (by kernel_rfl) (by simp) ?_
                refine AllReadyH.cons rfl (fun K hK => ?_) AllReadyH.nil
                rw [if_pos (by rfl)]
                go_simp
                clear u0 u1 u2 u3 u4 u5
                have T5 := three_put TQ (.int .i64 (n : Int)) (.int .i64 (n : Int)) (.slice (some ⟨X, 0, none⟩) (n * n) (n * n))
                have T6 := three_cell (three_cell (three_cell T6 (d := ⟨b5, 0, none⟩) (u := .int .i64 (n : Int)) (by dsimp only; omega)) (d := ⟨b5, 1, none⟩) (u := .int .i64 (n : Int)) (by dsimp only; omega)) (d := ⟨b5, 2, none⟩) (u := .slice (some ⟨X, 0, none⟩) (n * n) (n * n)) (by dsimp only; omega)
                have TA := three_cell (three_cell (three_cell TA (d := ⟨b5, 0, none⟩) (u := .int .i64 (n : Int)) (by dsimp only; omega)) (d := ⟨b5, 1, none⟩) (u := .int .i64 (n : Int)) (by dsimp only; omega)) (d := ⟨b5, 2, none⟩) (u := .slice (some ⟨X, 0, none⟩) (n * n) (n * n)) (by dsimp only; omega)
                have hbX := three_apart (b := b5) (x := .int .i64 (n : Int)) (y := .int .i64 (n : Int)) (z := .slice (some ⟨X, 0, none⟩) (n * n) (n * n)) hbX (by omega)
                have hX2 : X < (((V4.setCell ⟨b5, 0, none⟩ (.int .i64 (n : Int))).setCell ⟨b5, 1, none⟩ (.int .i64 (n : Int))).setCell ⟨b5, 2, none⟩ (.slice (some ⟨X, 0, none⟩) (n * n) (n * n))).heap.size := by simp only [World.size_setCell]; exact hX2
                have hbY := three_apart (b := b5) (x := .int .i64 (n : Int)) (y := .int .i64 (n : Int)) (z := .slice (some ⟨X, 0, none⟩) (n * n) (n * n)) hbY (by omega)
                have hY2 : Y < (((V4.setCell ⟨b5, 0, none⟩ (.int .i64 (n : Int))).setCell ⟨b5, 1, none⟩ (.int .i64 (n : Int))).setCell ⟨b5, 2, none⟩ (.slice (some ⟨X, 0, none⟩) (n * n) (n * n))).heap.size := by simp only [World.size_setCell]; exact hY2
                have HB := ((HB.setCell (p := ⟨b5, 0, none⟩) (by dsimp only; omega) (.int .i64 (n : Int))).setCell (p := ⟨b5, 1, none⟩) (by dsimp only; omega) (.int .i64 (n : Int))).setCell (p := ⟨b5, 2, none⟩) (by dsimp only; omega) (.slice (some ⟨X, 0, none⟩) (n * n) (n * n))
                have hss : V4.heap.size ≤ (((V4.setCell ⟨b5, 0, none⟩ (.int .i64 (n : Int))).setCell ⟨b5, 1, none⟩ (.int .i64 (n : Int))).setCell ⟨b5, 2, none⟩ (.slice (some ⟨X, 0, none⟩) (n * n) (n * n))).heap.size := by simp only [World.size_setCell]; exact Nat.le_refl _
                refine hK.out _ _ TA (fun _ => ?_)
                clear hK TQ
                generalize (((V4.setCell ⟨b5, 0, none⟩ (.int .i64 (n : Int))).setCell ⟨b5, 1, none⟩ (.int .i64 (n : Int))).setCell ⟨b5, 2, none⟩ (.slice (some ⟨X, 0, none⟩) (n * n) (n * n))) = V5 at *
                try simp only [Act.put, List.setIfInBounds_toArray, List.set_cons_zero, List.set_cons_succ]
                obtain ⟨u0, u1, u2, u3, u4, u5⟩ := T6
                have TQ : Three V5 b6 _ _ _ := ⟨u0, u1, u2, u3, u4, u5⟩
                refine wpAnyH_ready (rs := [9]) (by kernel_rfl) (by simp) ?_
                refine AllReadyH.cons rfl (fun K hK => ?_) AllReadyH.nil
                rw [if_pos (by rfl)]
                go_simp
                clear u0 u1 u2 u3 u4 u5
                have T6 := three_put TQ (.int .i64 (n : Int)) (.int .i64 (n : Int)) (.slice (some ⟨Y, 0, none⟩) (n * n) (n * n))
                have T5 := three_cell (three_cell (three_cell T5 (d := ⟨b6, 0, none⟩) (u := .int .i64 (n : Int)) (by dsimp only; omega)) (d := ⟨b6, 1, none⟩) (u := .int .i64 (n : Int)) (by dsimp only; omega)) (d := ⟨b6, 2, none⟩) (u := .slice (some ⟨Y, 0, none⟩) (n * n) (n * n)) (by dsimp only; omega)
                have TA := three_cell (three_cell (three_cell TA (d := ⟨b6, 0, none⟩) (u := .int .i64 (n : Int)) (by dsimp only; omega)) (d := ⟨b6, 1, none⟩) (u := .int .i64 (n : Int)) (by dsimp only; omega)) (d := ⟨b6, 2, none⟩) (u := .slice (some ⟨Y, 0, none⟩) (n * n) (n * n)) (by dsimp only; omega)
                have hbX := three_apart (b := b6) (x := .int .i64 (n : Int)) (y := .int .i64 (n : Int)) (z := .slice (some ⟨Y, 0, none⟩) (n * n) (n * n)) hbX (by omega)
                have hX2 : X < (((V5.setCell ⟨b6, 0, none⟩ (.int .i64 (n : Int))).setCell ⟨b6, 1, none⟩ (.int .i64 (n : Int))).setCell ⟨b6, 2, none⟩ (.slice (some ⟨Y, 0, none⟩) (n * n) (n * n))).heap.size := by simp only [World.size_setCell]; exact hX2
                have hbY := three_apart (b := b6) (x := .int .i64 (n : Int)) (y := .int .i64 (n : Int)) (z := .slice (some ⟨Y, 0, none⟩) (n * n) (n * n)) hbY (by omega)
                have hY2 : Y < (((V5.setCell ⟨b6, 0, none⟩ (.int .i64 (n : Int))).setCell ⟨b6, 1, none⟩ (.int .i64 (n : Int))).setCell ⟨b6, 2, none⟩ (.slice (some ⟨Y, 0, none⟩) (n * n) (n * n))).heap.size := by simp only [World.size_setCell]; exact hY2
                have HB := ((HB.setCell (p := ⟨b6, 0, none⟩) (by dsimp only; omega) (.int .i64 (n : Int))).setCell (p := ⟨b6, 1, none⟩) (by dsimp only; omega) (.int .i64 (n : Int))).setCell (p := ⟨b6, 2, none⟩) (by dsimp only; omega) (.slice (some ⟨Y, 0, none⟩) (n * n) (n * n))
                have hss : V5.heap.size ≤ (((V5.setCell ⟨b6, 0, none⟩ (.int .i64 (n : Int))).setCell ⟨b6, 1, none⟩ (.int .i64 (n : Int))).setCell ⟨b6, 2, none⟩ (.slice (some ⟨Y, 0, none⟩) (n * n) (n * n))).heap.size := by simp only [World.size_setCell]; exact Nat.le_refl _
                refine hK.out _ _ TA (fun _ => ?_)
                clear hK TQ
                generalize (((V5.setCell ⟨b6, 0, none⟩ (.int .i64 (n : Int))).setCell ⟨b6, 1, none⟩ (.int .i64 (n : Int))).setCell ⟨b6, 2, none⟩ (.slice (some ⟨Y, 0, none⟩) (n * n) (n * n))) = V6 at *
                try simp only [Act.put, List.setIfInBounds_toArray, List.set_cons_zero, List.set_cons_succ]
                refine wpAnyH_done (by kernel_rfl) ?_ _
                go_wp2_with fail
                go_meet
                exact ⟨b5, b6, X, Y, ms, ns, rfl, rfl, ⟨T5, T6, hbX, hbY, hlX, hlY, hX2, hY2, by omega, by omega, by omega, by omega, by omega, by omega, by omega, HB⟩⟩
              · rw [if_pos (by rfl)]
                go_simp
                have T5 := Three.new V2 (.int .i64 0) (.int .i64 0) (.slice none 0 0) 30
                have hbe := (Below.refl V2.heap.size V2).alloc (Nat.le_refl _) (.cells #[.int .i64 0, .int .i64 0, .slice none 0 0] 30)
                have hsb5 : V2.heap.size < (V2.alloc (.cells #[.int .i64 0, .int .i64 0, .slice none 0 0] 30)).heap.size := by simp
                have hwb5 := HB.size
                have hXob5 := hX2
                have T6 := T6.below hbe
                have hbX := blk_below hbX hX2 hbe
                replace hX2 := Nat.lt_of_lt_of_le hX2 hbe.size
                have TA := TA.below hbe
                have HB := HB.trans (hbe.mono HB.size)
                have hss := hbe.size
                refine hK.out _ _ TA (fun _ => ?_)
                clear hK hbe
                generalize V2.alloc (.cells #[.int .i64 0, .int .i64 0, .slice none 0 0] 30) = V3 at *
                generalize V2.heap.size = b5 at *
                try simp only [Act.put, List.setIfInBounds_toArray, List.set_cons_zero, List.set_cons_succ]
                refine wpAnyH_ready (rs := [5]) (by kernel_rfl) (by simp) ?_
                refine AllReadyH.cons rfl (fun K hK => ?_) AllReadyH.nil
                rw [if_pos (by rfl)]
                go_simp
                have hsq := square_any (.slice A l.length c) (.slice zp zl zc) (.slice pL ss.length kL) l n 9 V3 (HM1.out.below HB) hn1 hn8 (by omega)
                rw [show ((9 : Nat) : Int) = 9 from rfl] at hsq
                refine hsq.mono ?_
                clear hsq
                rintro e V4 ⟨v, ns, rfl, ⟨Y, hY1, hY2, rfl, hbY, hlY⟩, hbe⟩
                have T5 := T5.below hbe
                have T6 := T6.below hbe
                have hbX := blk_below hbX hX2 hbe
                replace hX2 := Nat.lt_of_lt_of_le hX2 hbe.size
                have TA := TA.below hbe
                have HB := HB.trans (hbe.mono HB.size)
                have hss := hbe.size
                refine hK.out _ _ TA (fun _ => ?_)
                clear hK hbe
                unfold matV
                try simp only [Act.put, List.setIfInBounds_toArray, List.set_cons_zero, List.set_cons_succ]
                obtain ⟨u0, u1, u2, u3, u4, u5⟩ := T5
                have TQ : Three V4 b5 _ _ _ := ⟨u0, u1, u2, u3, u4, u5⟩
                refine wpAnyH_ready (rs := [8]) (by kernel_rfl) (by simp) ?_
                refine AllReadyH.cons rfl (fun K hK => ?_) AllReadyH.nil
                rw [if_pos (by rfl)]
                go_simp
                clear u0 u1 u2 u3 u4 u5
                have T5 := three_put TQ (.int .i64 (n : Int)) (.int .i64 (n : Int)) (.slice (some ⟨X, 0, none⟩) (n * n) (n * n))
                have T6 := three_cell (three_cell (three_cell T6 (d := ⟨b5, 0, none⟩) (u := .int .i64 (n : Int)) (by dsimp only; omega)) (d := ⟨b5, 1, none⟩) (u := .int .i64 (n : Int)) (by dsimp only; omega)) (d := ⟨b5, 2, none⟩) (u := .slice (some ⟨X, 0, none⟩) (n * n) (n * n)) (by dsimp only; omega)
                have TA := three_cell (three_cell (three_cell TA (d := ⟨b5, 0, none⟩) (u := .int .i64 (n : Int)) (by dsimp only; omega)) (d := ⟨b5, 1, none⟩) (u := .int .i64 (n : Int)) (by dsimp only; omega)) (d := ⟨b5, 2, none⟩) (u := .slice (some ⟨X, 0, none⟩) (n * n) (n * n)) (by dsimp only; omega)
                have hbX := three_apart (b := b5) (x := .int .i64 (n : Int)) (y := .int .i64 (n : Int)) (z := .slice (some ⟨X, 0, none⟩) (n * n) (n * n)) hbX (by omega)
                have hX2 : X < (((V4.setCell ⟨b5, 0, none⟩ (.int .i64 (n : Int))).setCell ⟨b5, 1, none⟩ (.int .i64 (n : Int))).setCell ⟨b5, 2, none⟩ (.slice (some ⟨X, 0, none⟩) (n * n) (n * n))).heap.size := by simp only [World.size_setCell]; exact hX2
                have hbY := three_apart (b := b5) (x := .int .i64 (n : Int)) (y := .int .i64 (n : Int)) (z := .slice (some ⟨X, 0, none⟩) (n * n) (n * n)) hbY (by omega)
                have hY2 : Y < (((V4.setCell ⟨b5, 0, none⟩ (.int .i64 (n : Int))).setCell ⟨b5, 1, none⟩ (.int .i64 (n : Int))).setCell ⟨b5, 2, none⟩ (.slice (some ⟨X, 0, none⟩) (n * n) (n * n))).heap.size := by simp only [World.size_setCell]; exact hY2
                have HB := ((HB.setCell (p := ⟨b5, 0, none⟩) (by dsimp only; omega) (.int .i64 (n : Int))).setCell (p := ⟨b5, 1, none⟩) (by dsimp only; omega) (.int .i64 (n : Int))).setCell (p := ⟨b5, 2, none⟩) (by dsimp only; omega) (.slice (some ⟨X, 0, none⟩) (n * n) (n * n))
                have hss : V4.heap.size ≤ (((V4.setCell ⟨b5, 0, none⟩ (.int .i64 (n : Int))).setCell ⟨b5, 1, none⟩ (.int .i64 (n : Int))).setCell ⟨b5, 2, none⟩ (.slice (some ⟨X, 0, none⟩) (n * n) (n * n))).heap.size := by simp only [World.size_setCell]; exact Nat.le_refl _
                refine hK.out _ _ TA (fun _ => ?_)
                clear hK TQ
                generalize (((V4.setCell ⟨b5, 0, none⟩ (.int .i64 (n : Int))).setCell ⟨b5, 1, none⟩ (.int .i64 (n : Int))).setCell ⟨b5, 2, none⟩ (.slice (some ⟨X, 0, none⟩) (n * n) (n * n))) = V5 at *
                try simp only [Act.put, List.setIfInBounds_toArray, List.set_cons_zero, List.set_cons_succ]
                obtain ⟨u0, u1, u2, u3, u4, u5⟩ := T6
                have TQ : Three V5 b6 _ _ _ := ⟨u0, u1, u2, u3, u4, u5⟩
                refine wpAnyH_ready (rs := [9]) (by kernel_rfl) (by simp) ?_
                refine AllReadyH.cons rfl (fun K hK => ?_) AllReadyH.nil
                rw [if_pos (by rfl)]
                go_simp
                clear u0 u1 u2 u3 u4 u5
                have T6 := three_put TQ (.int .i64 (n : Int)) (.int .i64 (n : Int)) (.slice (some ⟨Y, 0, none⟩) (n * n) (n * n))
                have T5 := three_cell (three_cell (three_cell T5 (d := ⟨b6, 0, none⟩) (u := .int .i64 (n : Int)) (by dsimp only; omega)) (d := ⟨b6, 1, none⟩) (u := .int .i64 (n : Int)) (by dsimp only; omega)) (d := ⟨b6, 2, none⟩) (u := .slice (some ⟨Y, 0, none⟩) (n * n) (n * n)) (by dsimp only; omega)
                have TA := three_cell (three_cell (three_cell TA (d := ⟨b6, 0, none⟩) (u := .int .i64 (n : Int)) (by dsimp only; omega)) (d := ⟨b6, 1, none⟩) (u := .int .i64 (n : Int)) (by dsimp only; omega)) (d := ⟨b6, 2, none⟩) (u := .slice (some ⟨Y, 0, none⟩) (n * n) (n * n)) (by dsimp only; omega)
                have hbX := three_apart (b := b6) (x := .int .i64 (n : Int)) (y := .int .i64 (n : Int)) (z := .slice (some ⟨Y, 0, none⟩) (n * n) (n * n)) hbX (by omega)
                have hX2 : X < (((V5.setCell ⟨b6, 0, none⟩ (.int .i64 (n : Int))).setCell ⟨b6, 1, none⟩ (.int .i64 (n : Int))).setCell ⟨b6, 2, none⟩ (.slice (some ⟨Y, 0, none⟩) (n * n) (n * n))).heap.size := by simp only [World.size_setCell]; exact hX2
                have hbY := three_apart (b := b6) (x := .int .i64 (n : Int)) (y := .int .i64 (n : Int)) (z := .slice (some ⟨Y, 0, none⟩) (n * n) (n * n)) hbY (by omega)
                have hY2 : Y < (((V5.setCell ⟨b6, 0, none⟩ (.int .i64 (n : Int))).setCell ⟨b6, 1, none⟩ (.int .i64 (n : Int))).setCell ⟨b6, 2, none⟩ (.slice (some ⟨Y, 0, none⟩) (n * n) (n * n))).heap.size := by simp only [World.size_setCell]; exact hY2
                have HB := ((HB.setCell (p := ⟨b6, 0, none⟩) (by dsimp only; omega) (.int .i64 (n : Int))).setCell (p := ⟨b6, 1, none⟩) (by dsimp only; omega) (.int .i64 (n : Int))).setCell (p := ⟨b6, 2, none⟩) (by dsimp only; omega) (.slice (some ⟨Y, 0, none⟩) (n * n) (n * n))
                have hss : V5.heap.size ≤ (((V5.setCell ⟨b6, 0, none⟩ (.int .i64 (n : Int))).setCell ⟨b6, 1, none⟩ (.int .i64 (n : Int))).setCell ⟨b6, 2, none⟩ (.slice (some ⟨Y, 0, none⟩) (n * n) (n * n))).heap.size := by simp only [World.size_setCell]; exact Nat.le_refl _
                refine hK.out _ _ TA (fun _ => ?_)
                clear hK TQ
                generalize (((V5.setCell ⟨b6, 0, none⟩ (.int .i64 (n : Int))).setCell ⟨b6, 1, none⟩ (.int .i64 (n : Int))).setCell ⟨b6, 2, none⟩ (.slice (some ⟨Y, 0, none⟩) (n * n) (n * n))) = V6 at *
                try simp only [Act.put, List.setIfInBounds_toArray, List.set_cons_zero, List.set_cons_succ]
                refine wpAnyH_done (by kernel_rfl) ?_ _
                go_wp2_with fail
                go_meet
                exact ⟨b5, b6, X, Y, ms, ns, rfl, rfl, ⟨T5, T6, hbX, hbY, hlX, hlY, hX2, hY2, by omega, by omega, by omega, by omega, by omega, by omega, by omega, HB⟩⟩
          · rw [if_pos (by rfl)]
            go_simp
            have T5 := Three.new V0 (.int .i64 0) (.int .i64 0) (.slice none 0 0) 30
            have hbe := (Below.refl V0.heap.size V0).alloc (Nat.le_refl _) (.cells #[.int .i64 0, .int .i64 0, .slice none 0 0] 30)
            have hsb5 : V0.heap.size < (V0.alloc (.cells #[.int .i64 0, .int .i64 0, .slice none 0 0] 30)).heap.size := by simp
            have hwb5 := HB.size
            have TA := TA.below hbe
            have HB := HB.trans (hbe.mono HB.size)
            have hss := hbe.size
            refine hK.out _ _ TA (fun _ => ?_)
            clear hK hbe
            generalize V0.alloc (.cells #[.int .i64 0, .int .i64 0, .slice none 0 0] 30) = V1 at *
            generalize V0.heap.size = b5 at *
            try simp only [Act.put, List.setIfInBounds_toArray, List.set_cons_zero, List.set_cons_succ]
            refine wpAnyH_ready (rs := [2, 7]) (by kernel_rfl) (by simp) ?_
            refine AllReadyH.cons rfl (fun K hK => ?_) (AllReadyH.cons rfl (fun K hK => ?_) AllReadyH.nil)
            · rw [if_pos (by rfl)]
              go_simp
              have hsq := square_any (.slice A l.length c) (.slice zp zl zc) (.slice pL ss.length kL) l n 5 V1 (HM1.out.below HB) hn1 hn8 (by omega)
              rw [show ((5 : Nat) : Int) = 5 from rfl] at hsq
              refine hsq.mono ?_
              clear hsq
              rintro e V2 ⟨v, ms, rfl, ⟨X, hX1, hX2, rfl, hbX, hlX⟩, hbe⟩
              have T5 := T5.below hbe
              have TA := TA.below hbe
              have HB := HB.trans (hbe.mono HB.size)
              have hss := hbe.size
              refine hK.out _ _ TA (fun _ => ?_)
              clear hK hbe
              unfold matV
              try simp only [Act.put, List.setIfInBounds_toArray, List.set_cons_zero, List.set_cons_succ]
              refine wpAnyH_ready (rs := [5, 7]) (by kernel_rfl) (by simp) ?_
              refine AllReadyH.cons rfl (fun K hK => ?_) (AllReadyH.cons rfl (fun K hK => ?_) AllReadyH.nil)
              · rw [if_pos (by rfl)]
                go_simp
                have hsq := square_any (.slice A l.length c) (.slice zp zl zc) (.slice pL ss.length kL) l n 9 V2 (HM1.out.below HB) hn1 hn8 (by omega)
                rw [show ((9 : Nat) : Int) = 9 from rfl] at hsq
                refine hsq.mono ?_
                clear hsq
                rintro e V3 ⟨v, ns, rfl, ⟨Y, hY1, hY2, rfl, hbY, hlY⟩, hbe⟩
                have T5 := T5.below hbe
                have hbX := blk_below hbX hX2 hbe
                replace hX2 := Nat.lt_of_lt_of_le hX2 hbe.size
                have TA := TA.below hbe
                have HB := HB.trans (hbe.mono HB.size)
                have hss := hbe.size
                refine hK.out _ _ TA (fun _ => ?_)
                clear hK hbe
                unfold matV
                try simp only [Act.put, List.setIfInBounds_toArray, List.set_cons_zero, List.set_cons_succ]
                refine wpAnyH_ready (rs := [7]) (by kernel_rfl) (by simp) ?_
                refine AllReadyH.cons rfl (fun K hK => ?_) AllReadyH.nil
                rw [if_pos (by rfl)]
                go_simp
                have T6 := Three.new V3 (.int .i64 0) (.int .i64 0) (.slice none 0 0) 30
                have hbe := (Below.refl V3.heap.size V3).alloc (Nat.le_refl _) (.cells #[.int .i64 0, .int .i64 0, .slice none 0 0] 30)
                have hsb6 : V3.heap.size < (V3.alloc (.cells #[.int .i64 0, .int .i64 0, .slice none 0 0] 30)).heap.size := by simp
                have hwb6 := HB.size
                have hXob6 := hX2
                have hYob6 := hY2
                have T5 := T5.below hbe
                have hbX := blk_below hbX hX2 hbe
                replace hX2 := Nat.lt_of_lt_of_le hX2 hbe.size
                have hbY := blk_below hbY hY2 hbe
                replace hY2 := Nat.lt_of_lt_of_le hY2 hbe.size
                have TA := TA.below hbe
                have HB := HB.trans (hbe.mono HB.size)
                have hss := hbe.size
                refine hK.out _ _ TA (fun _ => ?_)
                clear hK hbe
                generalize V3.alloc (.cells #[.int .i64 0, .int .i64 0, .slice none 0 0] 30) = V4 at *
                generalize V3.heap.size = b6 at *
                try simp only [Act.put, List.setIfInBounds_toArray, List.set_cons_zero, List.set_cons_succ]
                obtain ⟨u0, u1, u2, u3, u4, u5⟩ := T5
                have TQ : Three V4 b5 _ _ _ := ⟨u0, u1, u2, u3, u4, u5⟩
                refine wpAnyH_ready (rs := [8]) (by kernel_rfl) (by simp) ?_
                refine AllReadyH.cons rfl (fun K hK => ?_) AllReadyH.nil
                rw [if_pos (by rfl)]
                go_simp
                clear u0 u1 u2 u3 u4 u5
                have T5 := three_put TQ (.int .i64 (n : Int)) (.int .i64 (n : Int)) (.slice (some ⟨X, 0, none⟩) (n * n) (n * n))
                have T6 := three_cell (three_cell (three_cell T6 (d := ⟨b5, 0, none⟩) (u := .int .i64 (n : Int)) (by dsimp only; omega)) (d := ⟨b5, 1, none⟩) (u := .int .i64 (n : Int)) (by dsimp only; omega)) (d := ⟨b5, 2, none⟩) (u := .slice (some ⟨X, 0, none⟩) (n * n) (n * n)) (by dsimp only; omega)
                have TA := three_cell (three_cell (three_cell TA (d := ⟨b5, 0, none⟩) (u := .int .i64 (n : Int)) (by dsimp only; omega)) (d := ⟨b5, 1, none⟩) (u := .int .i64 (n : Int)) (by dsimp only; omega)) (d := ⟨b5, 2, none⟩) (u := .slice (some ⟨X, 0, none⟩) (n * n) (n * n)) (by dsimp only; omega)
                have hbX := three_apart (b := b5) (x := .int .i64 (n : Int)) (y := .int .i64 (n : Int)) (z := .slice (some ⟨X, 0, none⟩) (n * n) (n * n)) hbX (by omega)
                have hX2 : X < (((V4.setCell ⟨b5, 0, none⟩ (.int .i64 (n : Int))).setCell ⟨b5, 1, none⟩ (.int .i64 (n : Int))).setCell ⟨b5, 2, none⟩ (.slice (some ⟨X, 0, none⟩) (n * n) (n * n))).heap.size := by simp only [World.size_setCell]; exact hX2
                have hbY := three_apart (b := b5) (x := .int .i64 (n : Int)) (y := .int .i64 (n : Int)) (z := .slice (some ⟨X, 0, none⟩) (n * n) (n * n)) hbY (by omega)
                have hY2 : Y < (((V4.setCell ⟨b5, 0, none⟩ (.int .i64 (n : Int))).setCell ⟨b5, 1, none⟩ (.int .i64 (n : Int))).setCell ⟨b5, 2, none⟩ (.slice (some ⟨X, 0, none⟩) (n * n) (n * n))).heap.size := by simp only [World.size_setCell]; exact hY2
                have HB := ((HB.setCell (p := ⟨b5, 0, none⟩) (by dsimp only; omega) (.int .i64 (n : Int))).setCell (p := ⟨b5, 1, none⟩) (by dsimp only; omega) (.int .i64 (n : Int))).setCell (p := ⟨b5, 2, none⟩) (by dsimp only; omega) (.slice (some ⟨X, 0, none⟩) (n * n) (n * n))
                have hss : V4.heap.size ≤ (((V4.setCell ⟨b5, 0, none⟩ (.int .i64 (n : Int))).setCell ⟨b5, 1, none⟩ (.int .i64 (n : Int))).setCell ⟨b5, 2, none⟩ (.slice (some ⟨X, 0, none⟩) (n * n) (n * n))).heap.size := by simp only [World.size_setCell]; exact Nat.le_refl _
                refine hK.out _ _ TA (fun _ => ?_)
                clear hK TQ
                generalize (((V4.setCell ⟨b5, 0, none⟩ (.int .i64 (n : Int))).setCell ⟨b5, 1, none⟩ (.int .i64 (n : Int))).setCell ⟨b5, 2, none⟩ (.slice (some ⟨X, 0, none⟩) (n * n) (n * n))) = V5 at *
                try simp only [Act.put, List.setIfInBounds_toArray, List.set_cons_zero, List.set_cons_succ]
                obtain ⟨u0, u1, u2, u3, u4, u5⟩ := T6
                have TQ : Three V5 b6 _ _ _ := ⟨u0, u1, u2, u3, u4, u5⟩
                refine wpAnyH_ready (rs := [9]) (by kernel_rfl) (by simp) ?_
                refine AllReadyH.cons rfl (fun K hK => ?_) AllReadyH.nil
                rw [if_pos (by rfl)]
                go_simp
                clear u0 u1 u2 u3 u4 u5
                have T6 := three_put TQ (.int .i64 (n : Int)) (.int .i64 (n : Int)) (.slice (some ⟨Y, 0, none⟩) (n * n) (n * n))
                have T5 := three_cell (three_cell (three_cell T5 (d := ⟨b6, 0, none⟩) (u := .int .i64 (n : Int)) (by dsimp only; omega)) (d := ⟨b6, 1, none⟩) (u := .int .i64 (n : Int)) (by dsimp only; omega)) (d := ⟨b6, 2, none⟩) (u := .slice (some ⟨Y, 0, none⟩) (n * n) (n * n)) (by dsimp only; omega)
                have TA := three_cell (three_cell (three_cell TA (d := ⟨b6, 0, none⟩) (u := .int .i64 (n : Int)) (by dsimp only; omega)) (d := ⟨b6, 1, none⟩) (u := .int .i64 (n : Int)) (by dsimp only; omega)) (d := ⟨b6, 2, none⟩) (u := .slice (some ⟨Y, 0, none⟩) (n * n) (n * n)) (by dsimp only; omega)
                have hbX := three_apart (b := b6) (x := .int .i64 (n : Int)) (y := .int .i64 (n : Int)) (z := .slice (some ⟨Y, 0, none⟩) (n * n) (n * n)) hbX (by omega)
                have hX2 : X < (((V5.setCell ⟨b6, 0, none⟩ (.int .i64 (n : Int))).setCell ⟨b6, 1, none⟩ (.int .i64 (n : Int))).setCell ⟨b6, 2, none⟩ (.slice (some ⟨Y, 0, none⟩) (n * n) (n * n))).heap.size := by simp only [World.size_setCell]; exact hX2
                have hbY := three_apart (b := b6) (x := .int .i64 (n : Int)) (y := .int .i64 (n : Int)) (z := .slice (some ⟨Y, 0, none⟩) (n * n) (n * n)) hbY (by omega)
                have hY2 : Y < (((V5.setCell ⟨b6, 0, none⟩ (.int .i64 (n : Int))).setCell ⟨b6, 1, none⟩ (.int .i64 (n : Int))).setCell ⟨b6, 2, none⟩ (.slice (some ⟨Y, 0, none⟩) (n * n) (n * n))).heap.size := by simp only [World.size_setCell]; exact hY2
                have HB := ((HB.setCell (p := ⟨b6, 0, none⟩) (by dsimp only; omega) (.int .i64 (n : Int))).setCell (p := ⟨b6, 1, none⟩) (by dsimp only; omega) (.int .i64 (n : Int))).setCell (p := ⟨b6, 2, none⟩) (by dsimp only; omega) (.slice (some ⟨Y, 0, none⟩) (n * n) (n * n))
                have hss : V5.heap.size ≤ (((V5.setCell ⟨b6, 0, none⟩ (.int .i64 (n : Int))).setCell ⟨b6, 1, none⟩ (.int .i64 (n : Int))).setCell ⟨b6, 2, none⟩ (.slice (some ⟨Y, 0, none⟩) (n * n) (n * n))).heap.size := by simp only [World.size_setCell]; exact Nat.le_refl _
                refine hK.out _ _ TA (fun _ => ?_)
                clear hK TQ
                generalize (((V5.setCell ⟨b6, 0, none⟩ (.int .i64 (n : Int))).setCell ⟨b6, 1, none⟩ (.int .i64 (n : Int))).setCell ⟨b6, 2, none⟩ (.slice (some ⟨Y, 0, none⟩) (n * n) (n * n))) = V6 at *
                try simp only [Act.put, List.setIfInBounds_toArray, List.set_cons_zero, List.set_cons_succ]
                refine wpAnyH_done (by kernel_rfl) ?_ _
                go_wp2_with fail
                go_meet
                exact ⟨b5, b6, X, Y, ms, ns, rfl, rfl, ⟨T5, T6, hbX, hbY, hlX, hlY, hX2, hY2, by omega, by omega, by omega, by omega, by omega, by omega, by omega, HB⟩⟩
              · rw [if_pos (by rfl)]
                go_simp
                have T6 := Three.new V2 (.int .i64 0) (.int .i64 0) (.slice none 0 0) 30
                have hbe := (Below.refl V2.heap.size V2).alloc (Nat.le_refl _) (.cells #[.int .i64 0, .int .i64 0, .slice none 0 0] 30)
                have hsb6 : V2.heap.size < (V2.alloc (.cells #[.int .i64 0, .int .i64 0, .slice none 0 0] 30)).heap.size := by simp
                have hwb6 := HB.size
                have hXob6 := hX2
                have T5 := T5.below hbe
                have hbX := blk_below hbX hX2 hbe
                replace hX2 := Nat.lt_of_lt_of_le hX2 hbe.size
                have TA := TA.below hbe
                have HB := HB.trans (hbe.mono HB.size)
                have hss := hbe.size
                refine hK.out _ _ TA (fun _ => ?_)
                clear hK hbe
                generalize V2.alloc (.cells #[.int .i64 0, .int .i64 0, .slice none 0 0] 30) = V3 at *
                generalize V2.heap.size = b6 at *
                try simp only [Act.put, List.setIfInBounds_toArray, List.set_cons_zero, List.set_cons_succ]
                refine wpAnyH_ready (rs := [5]) (by kernel_rfl) (by simp) ?_
                refine AllReadyH.cons rfl (fun K hK => ?_) AllReadyH.nil
                rw [if_pos (by rfl)]
                go_simp
                have hsq := square_any (.slice A l.length c) (.slice zp zl zc) (.slice pL ss.length kL) l n 9 V3 (HM1.out.below HB) hn1 hn8 (by omega)
                rw [show ((9 : Nat) : Int) = 9 from rfl] at hsq
                refine hsq.mono ?_
                clear hsq
                rintro e V4 ⟨v, ns, rfl, ⟨Y, hY1, hY2, rfl, hbY, hlY⟩, hbe⟩
                have T5 := T5.below hbe
                have T6 := T6.below hbe
                have hbX := blk_below hbX hX2 hbe
                replace hX2 := Nat.lt_of_lt_of_le hX2 hbe.size
                have TA := TA.below hbe
                have HB := HB.trans (hbe.mono HB.size)
                have hss := hbe.size
                refine hK.out _ _ TA (fun _ => ?_)
                clear hK hbe
                unfold matV
                try simp only [Act.put, List.setIfInBounds_toArray, List.set_cons_zero, List.set_cons_succ]
                obtain ⟨u0, u1, u2, u3, u4, u5⟩ := T5
                have TQ : Three V4 b5 _ _ _ := ⟨u0, u1, u2, u3, u4, u5⟩
                refine wpAnyH_ready (rs := [8]) (by kernel_rfl) (by simp) ?_
                refine AllReadyH.cons rfl (fun K hK => ?_) AllReadyH.nil
                rw [if_pos (by rfl)]
                go_simp
                clear u0 u1 u2 u3 u4 u5
                have T5 := three_put TQ (.int .i64 (n : Int)) (.int .i64 (n : Int)) (.slice (some ⟨X, 0, none⟩) (n * n) (n * n))
                have T6 := three_cell (three_cell (three_cell T6 (d := ⟨b5, 0, none⟩) (u := .int .i64 (n : Int)) (by dsimp only; omega)) (d := ⟨b5, 1, none⟩) (u := .int .i64 (n : Int)) (by dsimp only; omega)) (d := ⟨b5, 2, none⟩) (u := .slice (some ⟨X, 0, none⟩) (n * n) (n * n)) (by dsimp only; omega)
                have TA := three_cell (three_cell (three_cell TA (d := ⟨b5, 0, none⟩) (u := .int .i64 (n : Int)) (by dsimp only; omega)) (d := ⟨b5, 1, none⟩) (u := .int .i64 (n : Int)) (by dsimp only; omega)) (d := ⟨b5, 2, none⟩) (u := .slice (some ⟨X, 0, none⟩) (n * n) (n * n)) (by dsimp only; omega)
                have hbX := three_apart (b := b5) (x := .int .i64 (n : Int)) (y := .int .i64 (n : Int)) (z := .slice (some ⟨X, 0, none⟩) (n * n) (n * n)) hbX (by omega)
                have hX2 : X < (((V4.setCell ⟨b5, 0, none⟩ (.int .i64 (n : Int))).setCell ⟨b5, 1, none⟩ (.int .i64 (n : Int))).setCell ⟨b5, 2, none⟩ (.slice (some ⟨X, 0, none⟩) (n * n) (n * n))).heap.size := by simp only [World.size_setCell]; exact hX2
                have hbY := three_apart (b := b5) (x := .int .i64 (n : Int)) (y := .int .i64 (n : Int)) (z := .slice (some ⟨X, 0, none⟩) (n * n) (n * n)) hbY (by omega)
                have hY2 : Y < (((V4.setCell ⟨b5, 0, none⟩ (.int .i64 (n : Int))).setCell ⟨b5, 1, none⟩ (.int .i64 (n : Int))).setCell ⟨b5, 2, none⟩ (.slice (some ⟨X, 0, none⟩) (n * n) (n * n))).heap.size := by simp only [World.size_setCell]; exact hY2
                have HB := ((HB.setCell (p := ⟨b5, 0, none⟩) (by dsimp only; omega) (.int .i64 (n : Int))).setCell (p := ⟨b5, 1, none⟩) (by dsimp only; omega) (.int .i64 (n : Int))).setCell (p := ⟨b5, 2, none⟩) (by dsimp only; omega) (.slice (some ⟨X, 0, none⟩) (n * n) (n * n))
                have hss : V4.heap.size ≤ (((V4.setCell ⟨b5, 0, none⟩ (.int .i64 (n : Int))).setCell ⟨b5, 1, none⟩ (.int .i64 (n : Int))).setCell ⟨b5, 2, none⟩ (.slice (some ⟨X, 0, none⟩) (n * n) (n * n))).heap.size := by simp only [World.size_setCell]; exact Nat.le_refl _
                refine hK.out _ _ TA (fun _ => ?_)
                clear hK TQ
                generalize (((V4.setCell ⟨b5, 0, none⟩ (.int .i64 (n : Int))).setCell ⟨b5, 1, none⟩ (.int .i64 (n : Int))).setCell ⟨b5, 2, none⟩ (.slice (some ⟨X, 0, none⟩) (n * n) (n * n))) = V5 at *
                try simp only [Act.put, List.setIfInBounds_toArray, List.set_cons_zero, List.set_cons_succ]
                obtain ⟨u0, u1, u2, u3, u4, u5⟩ := T6
                have TQ : Three V5 b6 _ _ _ := ⟨u0, u1, u2, u3, u4, u5⟩
                refine wpAnyH_ready (rs := [9]) (by kernel_rfl) (by simp) ?_
                refine AllReadyH.cons rfl (fun K hK => ?_) AllReadyH.nil
                rw [if_pos (by rfl)]
                go_simp
                clear u0 u1 u2 u3 u4 u5
                have T6 := three_put TQ (.int .i64 (n : Int)) (.int .i64 (n : Int)) (.slice (some ⟨Y, 0, none⟩) (n * n) (n * n))
                have T5 := three_cell (three_cell (three_cell T5 (d := ⟨b6, 0, none⟩) (u := .int .i64 (n : Int)) (by dsimp only; omega)) (d := ⟨b6, 1, none⟩) (u := .int .i64 (n : Int)) (by dsimp only; omega)) (d := ⟨b6, 2, none⟩) (u := .slice (some ⟨Y, 0, none⟩) (n * n) (n * n)) (by dsimp only; omega)
                have TA := three_cell (three_cell (three_cell TA (d := ⟨b6, 0, none⟩) (u := .int .i64 (n : Int)) (by dsimp only; omega)) (d := ⟨b6, 1, none⟩) (u := .int .i64 (n : Int)) (by dsimp only; omega)) (d := ⟨b6, 2, none⟩) (u := .slice (some ⟨Y, 0, none⟩) (n * n) (n * n)) (by dsimp only; omega)
                have hbX := three_apart (b := b6) (x := .int .i64 (n : Int)) (y := .int .i64 (n : Int)) (z := .slice (some ⟨Y, 0, none⟩) (n * n) (n * n)) hbX (by omega)
                have hX2 : X < (((V5.setCell ⟨b6, 0, none⟩ (.int .i64 (n : Int))).setCell ⟨b6, 1, none⟩ (.int .i64 (n : Int))).setCell ⟨b6, 2, none⟩ (.slice (some ⟨Y, 0, none⟩) (n * n) (n * n))).heap.size := by simp only [World.size_setCell]; exact hX2
                have hbY := three_apart (b := b6) (x := .int .i64 (n : Int)) (y := .int .i64 (n : Int)) (z := .slice (some ⟨Y, 0, none⟩) (n * n) (n * n)) hbY (by omega)
                have hY2 : Y < (((V5.setCell ⟨b6, 0, none⟩ (.int .i64 (n : Int))).setCell ⟨b6, 1, none⟩ (.int .i64 (n : Int))).setCell ⟨b6, 2, none⟩ (.slice (some ⟨Y, 0, none⟩) (n * n) (n * n))).heap.size := by simp only [World.size_setCell]; exact hY2
                have HB := ((HB.setCell (p := ⟨b6, 0, none⟩) (by dsimp only; omega) (.int .i64 (n : Int))).setCell (p := ⟨b6, 1, none⟩) (by dsimp only; omega) (.int .i64 (n : Int))).setCell (p := ⟨b6, 2, none⟩) (by dsimp only; omega) (.slice (some ⟨Y, 0, none⟩) (n * n) (n * n))
                have hss : V5.heap.size ≤ (((V5.setCell ⟨b6, 0, none⟩ (.int .i64 (n : Int))).setCell ⟨b6, 1, none⟩ (.int .i64 (n : Int))).setCell ⟨b6, 2, none⟩ (.slice (some ⟨Y, 0, none⟩) (n * n) (n * n))).heap.size := by simp only [World.size_setCell]; exact Nat.le_refl _
                refine hK.out _ _ TA (fun _ => ?_)
                clear hK TQ
                generalize (((V5.setCell ⟨b6, 0, none⟩ (.int .i64 (n : Int))).setCell ⟨b6, 1, none⟩ (.int .i64 (n : Int))).setCell ⟨b6, 2, none⟩ (.slice (some ⟨Y, 0, none⟩) (n * n) (n * n))) = V6 at *
                try simp only [Act.put, List.setIfInBounds_toArray, List.set_cons_zero, List.set_cons_succ]
                refine wpAnyH_done (by kernel_rfl) ?_ _
                go_wp2_with fail
                go_meet
                exact ⟨b5, b6, X, Y, ms, ns, rfl, rfl, ⟨T5, T6, hbX, hbY, hlX, hlY, hX2, hY2, by omega, by omega, by omega, by omega, by omega, by omega, by omega, HB⟩⟩
            · rw [if_pos (by rfl)]
              go_simp
              have T6 := Three.new V1 (.int .i64 0) (.int .i64 0) (.slice none 0 0) 30
              have hbe := (Below.refl V1.heap.size V1).alloc (Nat.le_refl _) (.cells #[.int .i64 0, .int .i64 0, .slice none 0 0] 30)
              have hsb6 : V1.heap.size < (V1.alloc (.cells #[.int .i64 0, .int .i64 0, .slice none 0 0] 30)).heap.size := by simp
              have hwb6 := HB.size
              have T5 := T5.below hbe
              have TA := TA.below hbe
              have HB := HB.trans (hbe.mono HB.size)
              have hss := hbe.size
              refine hK.out _ _ TA (fun _ => ?_)
              clear hK hbe
              generalize V1.alloc (.cells #[.int .i64 0, .int .i64 0, .slice none 0 0] 30) = V2 at *
              generalize V1.heap.size = b6 at *
              try simp only [Act.put, List.setIfInBounds_toArray, List.set_cons_zero, List.set_cons_succ]
              refine wpAnyH_ready (rs := [2]) (by kernel_rfl) (by simp) ?_
              refine AllReadyH.cons rfl (fun K hK => ?_) AllReadyH.nil
              rw [if_pos (by rfl)]
              go_simp
              have hsq := square_any (.slice A l.length c) (.slice zp zl zc) (.slice pL ss.length kL) l n 5 V2 (HM1.out.below HB) hn1 hn8 (by omega)
              rw [show ((5 : Nat) : Int) = 5 from rfl] at hsq
              refine hsq.mono ?_
              clear hsq
              rintro e V3 ⟨v, ms, rfl, ⟨X, hX1, hX2, rfl, hbX, hlX⟩, hbe⟩
              have T5 := T5.below hbe
              have T6 := T6.below hbe
              have TA := TA.below hbe
              have HB := HB.trans (hbe.mono HB.size)
              have hss := hbe.size
              refine hK.out _ _ TA (fun _ => ?_)
              clear hK hbe
              unfold matV
              try simp only [Act.put, List.setIfInBounds_toArray, List.set_cons_zero, List.set_cons_succ]
              refine wpAnyH_ready (rs := [5]) (by kernel_rfl) (by simp) ?_
              refine AllReadyH.cons rfl (fun K hK => ?_) AllReadyH.nil
              rw [if_pos (by rfl)]
              go_simp
              have hsq := square_any (.slice A l.length c) (.slice zp zl zc) (.slice pL ss.length kL) l n 9 V3 (HM1.out.below HB) hn1 hn8 (by omega)
              rw [show ((9 : Nat) : Int) = 9 from rfl] at hsq
              refine hsq.mono ?_
              clear hsq
              rintro e V4 ⟨v, ns, rfl, ⟨Y, hY1, hY2, rfl, hbY, hlY⟩, hbe⟩
              have T5 := T5.below hbe
              have T6 := T6.below hbe
              have hbX := blk_below hbX hX2 hbe
              replace hX2 := Nat.lt_of_lt_of_le hX2 hbe.size
              have TA := TA.below hbe
              have HB := HB.trans (hbe.mono HB.size)
              have hss := hbe.size
              refine hK.out _ _ TA (fun _ => ?_)
              clear hK hbe
              unfold matV
              try simp only [Act.put, List.setIfInBounds_toArray, List.set_cons_zero, List.set_cons_succ]
              obtain ⟨u0, u1, u2, u3, u4, u5⟩ := T5
              have TQ : Three V4 b5 _ _ _ := ⟨u0, u1, u2, u3, u4, u5⟩
              refine wpAnyH_ready (rs := [8]) (by kernel_rfl) (by simp) ?_
              refine AllReadyH.cons rfl (fun K hK => ?_) AllReadyH.nil
              rw [if_pos (by rfl)]
              go_simp
              clear u0 u1 u2 u3 u4 u5
              have T5 := three_put TQ (.int .i64 (n : Int)) (.int .i64 (n : Int)) (.slice (some ⟨X, 0, none⟩) (n * n) (n * n))
              have T6 := three_cell (three_cell (three_cell T6 (d := ⟨b5, 0, none⟩) (u := .int .i64 (n : Int)) (by dsimp only; omega)) (d := ⟨b5, 1, none⟩) (u := .int .i64 (n : Int)) (by dsimp only; omega)) (d := ⟨b5, 2, none⟩) (u := .slice (some ⟨X, 0, none⟩) (n * n) (n * n)) (by dsimp only; omega)
              have TA := three_cell (three_cell (three_cell TA (d := ⟨b5, 0, none⟩) (u := .int .i64 (n : Int)) (by dsimp only; omega)) (d := ⟨b5, 1, none⟩) (u := .int .i64 (n : Int)) (by dsimp only; omega)) (d := ⟨b5, 2, none⟩) (u := .slice (some ⟨X, 0, none⟩) (n * n) (n * n)) (by dsimp only; omega)
              have hbX := three_apart (b := b5) (x := .int .i64 (n : Int)) (y := .int .i64 (n : Int)) (z := .slice (some ⟨X, 0, none⟩) (n * n) (n * n)) hbX (by omega)
              have hX2 : X < (((V4.setCell ⟨b5, 0, none⟩ (.int .i64 (n : Int))).setCell ⟨b5, 1, none⟩ (.int .i64 (n : Int))).setCell ⟨b5, 2, none⟩ (.slice (some ⟨X, 0, none⟩) (n * n) (n * n))).heap.size := by simp only [World.size_setCell]; exact hX2
              have hbY := three_apart (b := b5) (x := .int .i64 (n : Int)) (y := .int .i64 (n : Int)) (z := .slice (some ⟨X, 0, none⟩) (n * n) (n * n)) hbY (by omega)
              have hY2 : Y < (((V4.setCell ⟨b5, 0, none⟩ (.int .i64 (n : Int))).setCell ⟨b5, 1, none⟩ (.int .i64 (n : Int))).setCell ⟨b5, 2, none⟩ (.slice (some ⟨X, 0, none⟩) (n * n) (n * n))).heap.size := by simp only [World.size_setCell]; exact hY2
              have HB := ((HB.setCell (p := ⟨b5, 0, none⟩) (by dsimp only; omega) (.int .i64 (n : Int))).setCell (p := ⟨b5, 1, none⟩) (by dsimp only; omega) (.int .i64 (n : Int))).setCell (p := ⟨b5, 2, none⟩) (by dsimp only; omega) (.slice (some ⟨X, 0, none⟩) (n * n) (n * n))
              have hss : V4.heap.size ≤ (((V4.setCell ⟨b5, 0, none⟩ (.int .i64 (n : Int))).setCell ⟨b5, 1, none⟩ (.int .i64 (n : Int))).setCell ⟨b5, 2, none⟩ (.slice (some ⟨X, 0, none⟩) (n * n) (n * n))).heap.size := by simp only [World.size_setCell]; exact Nat.le_refl _
              refine hK.out _ _ TA (fun _ => ?_)
              clear hK TQ
              generalize (((V4.setCell ⟨b5, 0, none⟩ (.int .i64 (n : Int))).setCell ⟨b5, 1, none⟩ (.int .i64 (n : Int))).setCell ⟨b5, 2, none⟩ (.slice (some ⟨X, 0, none⟩) (n * n) (n * n))) = V5 at *
              try simp only [Act.put, List.setIfInBounds_toArray, List.set_cons_zero, List.set_cons_succ]
              obtain ⟨u0, u1, u2, u3, u4, u5⟩ := T6
              have TQ : Three V5 b6 _ _ _ := ⟨u0, u1, u2, u3, u4, u5⟩
              refine wpAnyH_ready (rs := [9]) (by kernel_rfl) (by simp) ?_
              refine AllReadyH.cons rfl (fun K hK => ?_) AllReadyH.nil
              rw [if_pos (by rfl)]
              go_simp
              clear u0 u1 u2 u3 u4 u5
              have T6 := three_put TQ (.int .i64 (n : Int)) (.int .i64 (n : Int)) (.slice (some ⟨Y, 0, none⟩) (n * n) (n * n))
              have T5 := three_cell (three_cell (three_cell T5 (d := ⟨b6, 0, none⟩) (u := .int .i64 (n : Int)) (by dsimp only; omega)) (d := ⟨b6, 1, none⟩) (u := .int .i64 (n : Int)) (by dsimp only; omega)) (d := ⟨b6, 2, none⟩) (u := .slice (some ⟨Y, 0, none⟩) (n * n) (n * n)) (by dsimp only; omega)
              have TA := three_cell (three_cell (three_cell TA (d := ⟨b6, 0, none⟩) (u := .int .i64 (n : Int)) (by dsimp only; omega)) (d := ⟨b6, 1, none⟩) (u := .int .i64 (n : Int)) (by dsimp only; omega)) (d := ⟨b6, 2, none⟩) (u := .slice (some ⟨Y, 0, none⟩) (n * n) (n * n)) (by dsimp only; omega)
              have hbX := three_apart (b := b6) (x := .int .i64 (n : Int)) (y := .int .i64 (n : Int)) (z := .slice (some ⟨Y, 0, none⟩) (n * n) (n * n)) hbX (by omega)
              have hX2 : X < (((V5.setCell ⟨b6, 0, none⟩ (.int .i64 (n : Int))).setCell ⟨b6, 1, none⟩ (.int .i64 (n : Int))).setCell ⟨b6, 2, none⟩ (.slice (some ⟨Y, 0, none⟩) (n * n) (n * n))).heap.size := by simp only [World.size_setCell]; exact hX2
              have hbY := three_apart (b := b6) (x := .int .i64 (n : Int)) (y := .int .i64 (n : Int)) (z := .slice (some ⟨Y, 0, none⟩) (n * n) (n * n)) hbY (by omega)
              have hY2 : Y < (((V5.setCell ⟨b6, 0, none⟩ (.int .i64 (n : Int))).setCell ⟨b6, 1, none⟩ (.int .i64 (n : Int))).setCell ⟨b6, 2, none⟩ (.slice (some ⟨Y, 0, none⟩) (n * n) (n * n))).heap.size := by simp only [World.size_setCell]; exact hY2
              have HB := ((HB.setCell (p := ⟨b6, 0, none⟩) (by dsimp only; omega) (.int .i64 (n : Int))).setCell (p := ⟨b6, 1, none⟩) (by dsimp only; omega) (.int .i64 (n : Int))).setCell (p := ⟨b6, 2, none⟩) (by dsimp only; omega) (.slice (some ⟨Y, 0, none⟩) (n * n) (n * n))
              have hss : V5.heap.size ≤ (((V5.setCell ⟨b6, 0, none⟩ (.int .i64 (n : Int))).setCell ⟨b6, 1, none⟩ (.int .i64 (n : Int))).setCell ⟨b6, 2, none⟩ (.slice (some ⟨Y, 0, none⟩) (n * n) (n * n))).heap.size := by simp only [World.size_setCell]; exact Nat.le_refl _
              refine hK.out _ _ TA (fun _ => ?_)
              clear hK TQ
              generalize (((V5.setCell ⟨b6, 0, none⟩ (.int .i64 (n : Int))).setCell ⟨b6, 1, none⟩ (.int .i64 (n : Int))).setCell ⟨b6, 2, none⟩ (.slice (some ⟨Y, 0, none⟩) (n * n) (n * n))) = V6 at *
              try simp only [Act.put, List.setIfInBounds_toArray, List.set_cons_zero, List.set_cons_succ]
              refine wpAnyH_done (by kernel_rfl) ?_ _
              go_wp2_with fail
              go_meet
              exact ⟨b5, b6, X, Y, ms, ns, rfl, rfl, ⟨T5, T6, hbX, hbY, hlX, hlY, hX2, hY2, by omega, by omega, by omega, by omega, by omega, by omega, by omega, HB⟩⟩
          · rw [if_pos (by rfl)]
            go_simp
            have T6 := Three.new V0 (.int .i64 0) (.int .i64 0) (.slice none 0 0) 30
            have hbe := (Below.refl V0.heap.size V0).alloc (Nat.le_refl _) (.cells #[.int .i64 0, .int .i64 0, .slice none 0 0] 30)
            have hsb6 : V0.heap.size < (V0.alloc (.cells #[.int .i64 0, .int .i64 0, .slice none 0 0] 30)).heap.size := by simp
            have hwb6 := HB.size
            have TA := TA.below hbe
            have HB := HB.trans (hbe.mono HB.size)
            have hss := hbe.size
            refine hK.out _ _ TA (fun _ => ?_)
            clear hK hbe
            generalize V0.alloc (.cells #[.int .i64 0, .int .i64 0, .slice none 0 0] 30) = V1 at *
            generalize V0.heap.size = b6 at *
            try simp only [Act.put, List.setIfInBounds_toArray, List.set_cons_zero, List.set_cons_succ]
            refine wpAnyH_ready (rs := [2, 6]) (by kernel_rfl) (by simp) ?_
            refine AllReadyH.cons rfl (fun K hK => ?_) (AllReadyH.cons rfl (fun K hK => ?_) AllReadyH.nil)
            · rw [if_pos (by rfl)]
              go_simp
              have hsq := square_any (.slice A l.length c) (.slice zp zl zc) (.slice pL ss.length kL) l n 5 V1 (HM1.out.below HB) hn1 hn8 (by omega)
              rw [show ((5 : Nat) : Int) = 5 from rfl] at hsq
              refine hsq.mono ?_
              clear hsq
              rintro e V2 ⟨v, ms, rfl, ⟨X, hX1, hX2, rfl, hbX, hlX⟩, hbe⟩
              have T6 := T6.below hbe
              have TA := TA.below hbe
              have HB := HB.trans (hbe.mono HB.size)
              have hss := hbe.size
              refine hK.out _ _ TA (fun _ => ?_)
              clear hK hbe
              unfold matV
              try simp only [Act.put, List.setIfInBounds_toArray, List.set_cons_zero, List.set_cons_succ]
              refine wpAnyH_ready (rs := [5, 6]) (by kernel_rfl) (by simp) ?_
              refine AllReadyH.cons rfl (fun K hK => ?_) (AllReadyH.cons rfl (fun K hK => ?_) AllReadyH.nil)
              · rw [if_pos (by rfl)]
                go_simp
                have hsq := square_any (.slice A l.length c) (.slice zp zl zc) (.slice pL ss.length kL) l n 9 V2 (HM1.out.below HB) hn1 hn8 (by omega)
                rw [show ((9 : Nat) : Int) = 9 from rfl] at hsq
                refine hsq.mono ?_
                clear hsq
                rintro e V3 ⟨v, ns, rfl, ⟨Y, hY1, hY2, rfl, hbY, hlY⟩, hbe⟩
                have T6 := T6.below hbe
                have hbX := blk_below hbX hX2 hbe
                replace hX2 := Nat.lt_of_lt_of_le hX2 hbe.size
                have TA := TA.below hbe
                have HB := HB.trans (hbe.mono HB.size)
                have hss := hbe.size
                refine hK.out _ _ TA (fun _ => ?_)
                clear hK hbe
                unfold matV
                try simp only [Act.put, List.setIfInBounds_toArray, List.set_cons_zero, List.set_cons_succ]
                refine wpAnyH_ready (rs := [6]) (by kernel_rfl) (by simp) ?_
                refine AllReadyH.cons rfl (fun K hK => ?_) AllReadyH.nil
                rw [if_pos (by rfl)]
                go_simp
                have T5 := Three.new V3 (.int .i64 0) (.int .i64 0) (.slice none 0 0) 30
                have hbe := (Below.refl V3.heap.size V3).alloc (Nat.le_refl _) (.cells #[.int .i64 0, .int .i64 0, .slice none 0 0] 30)
                have hsb5 : V3.heap.size < (V3.alloc (.cells #[.int .i64 0, .int .i64 0, .slice none 0 0] 30)).heap.size := by simp
                have hwb5 := HB.size
                have hXob5 := hX2
                have hYob5 := hY2
                have T6 := T6.below hbe
                have hbX := blk_below hbX hX2 hbe
                replace hX2 := Nat.lt_of_lt_of_le hX2 hbe.size
                have hbY := blk_below hbY hY2 hbe
                replace hY2 := Nat.lt_of_lt_of_le hY2 hbe.size
                have TA := TA.below hbe
                have HB := HB.trans (hbe.mono HB.size)
                have hss := hbe.size
                refine hK.out _ _ TA (fun _ => ?_)
                clear hK hbe
                generalize V3.alloc (.cells #[.int .i64 0, .int .i64 0, .slice none 0 0] 30) = V4 at *
                generalize V3.heap.size = b5 at *
                try simp only [Act.put, List.setIfInBounds_toArray, List.set_cons_zero, List.set_cons_succ]
                obtain ⟨u0, u1, u2, u3, u4, u5⟩ := T5
                have TQ : Three V4 b5 _ _ _ := ⟨u0, u1, u2, u3, u4, u5⟩
                refine wpAnyH_ready (rs := [8]) (by kernel_rfl) (by simp) ?_
                refine AllReadyH.cons rfl (fun K hK => ?_) AllReadyH.nil
                rw [if_pos (by rfl)]
                go_simp
                clear u0 u1 u2 u3 u4 u5
                have T5 := three_put TQ (.int .i64 (n : Int)) (.int .i64 (n : Int)) (.slice (some ⟨X, 0, none⟩) (n * n) (n * n))
                have T6 := three_cell (three_cell (three_cell T6 (d := ⟨b5, 0, none⟩) (u := .int .i64 (n : Int)) (by dsimp only; omega)) (d := ⟨b5, 1, none⟩) (u := .int .i64 (n : Int)) (by dsimp only; omega)) (d := ⟨b5, 2, none⟩) (u := .slice (some ⟨X, 0, none⟩) (n * n) (n * n)) (by dsimp only; omega)
                have TA := three_cell (three_cell (three_cell TA (d := ⟨b5, 0, none⟩) (u := .int .i64 (n : Int)) (by dsimp only; omega)) (d := ⟨b5, 1, none⟩) (u := .int .i64 (n : Int)) (by dsimp only; omega)) (d := ⟨b5, 2, none⟩) (u := .slice (some ⟨X, 0, none⟩) (n * n) (n * n)) (by dsimp only; omega)
                have hbX := three_apart (b := b5) (x := .int .i64 (n : Int)) (y := .int .i64 (n : Int)) (z := .slice (some ⟨X, 0, none⟩) (n * n) (n * n)) hbX (by omega)
                have hX2 : X < (((V4.setCell ⟨b5, 0, none⟩ (.int .i64 (n : Int))).setCell ⟨b5, 1, none⟩ (.int .i64 (n : Int))).setCell ⟨b5, 2, none⟩ (.slice (some ⟨X, 0, none⟩) (n * n) (n * n))).heap.size := by simp only [World.size_setCell]; exact hX2
                have hbY := three_apart (b := b5) (x := .int .i64 (n : Int)) (y := .int .i64 (n : Int)) (z := .slice (some ⟨X, 0, none⟩) (n * n) (n * n)) hbY (by omega)
                have hY2 : Y < (((V4.setCell ⟨b5, 0, none⟩ (.int .i64 (n : Int))).setCell ⟨b5, 1, none⟩ (.int .i64 (n : Int))).setCell ⟨b5, 2, none⟩ (.slice (some ⟨X, 0, none⟩) (n * n) (n * n))).heap.size := by simp only [World.size_setCell]; exact hY2
                have HB := ((HB.setCell (p := ⟨b5, 0, none⟩) (by dsimp only; omega) (.int .i64 (n : Int))).setCell (p := ⟨b5, 1, none⟩) (by dsimp only; omega) (.int .i64 (n : Int))).setCell (p := ⟨b5, 2, none⟩) (by dsimp only; omega) (.slice (some ⟨X, 0, none⟩) (n * n) (n * n))
                have hss : V4.heap.size ≤ (((V4.setCell ⟨b5, 0, none⟩ (.int .i64 (n : Int))).setCell ⟨b5, 1, none⟩ (.int .i64 (n : Int))).setCell ⟨b5, 2, none⟩ (.slice (some ⟨X, 0, none⟩) (n * n) (n * n))).heap.size := by simp only [World.size_setCell]; exact Nat.le_refl _
                refine hK.out _ _ TA (fun _ => ?_)
                clear hK TQ
                generalize (((V4.setCell ⟨b5, 0, none⟩ (.int .i64 (n : Int))).setCell ⟨b5, 1, none⟩ (.int .i64 (n : Int))).setCell ⟨b5, 2, none⟩ (.slice (some ⟨X, 0, none⟩) (n * n) (n * n))) = V5 at *
                try simp only [Act.put, List.setIfInBounds_toArray, List.set_cons_zero, List.set_cons_succ]
                obtain ⟨u0, u1, u2, u3, u4, u5⟩ := T6
                have TQ : Three V5 b6 _ _ _ := ⟨u0, u1, u2, u3, u4, u5⟩
                refine wpAnyH_ready (rs := [9]) (by kernel_rfl) (by simp) ?_
                refine AllReadyH.cons rfl (fun K hK => ?_) AllReadyH.nil
                rw [if_pos (by rfl)]
                go_simp
                clear u0 u1 u2 u3 u4 u5
                have T6 := three_put TQ (.int .i64 (n : Int)) (.int .i64 (n : Int)) (.slice (some ⟨Y, 0, none⟩) (n * n) (n * n))
                have T5 := three_cell (three_cell (three_cell T5 (d := ⟨b6, 0, none⟩) (u := .int .i64 (n : Int)) (by dsimp only; omega)) (d := ⟨b6, 1, none⟩) (u := .int .i64 (n : Int)) (by dsimp only; omega)) (d := ⟨b6, 2, none⟩) (u := .slice (some ⟨Y, 0, none⟩) (n * n) (n * n)) (by dsimp only; omega)
                have TA := three_cell (three_cell (three_cell TA (d := ⟨b6, 0, none⟩) (u := .int .i64 (n : Int)) (by dsimp only; omega)) (d := ⟨b6, 1, none⟩) (u := .int .i64 (n : Int)) (by dsimp only; omega)) (d := ⟨b6, 2, none⟩) (u := .slice (some ⟨Y, 0, none⟩) (n * n) (n * n)) (by dsimp only; omega)
                have hbX := three_apart (b := b6) (x := .int .i64 (n : Int)) (y := .int .i64 (n : Int)) (z := .slice (some ⟨Y, 0, none⟩) (n * n) (n * n)) hbX (by omega)
                have hX2 : X < (((V5.setCell ⟨b6, 0, none⟩ (.int .i64 (n : Int))).setCell ⟨b6, 1, none⟩ (.int .i64 (n : Int))).setCell ⟨b6, 2, none⟩ (.slice (some ⟨Y, 0, none⟩) (n * n) (n * n))).heap.size := by simp only [World.size_setCell]; exact hX2
                have hbY := three_apart (b := b6) (x := .int .i64 (n : Int)) (y := .int .i64 (n : Int)) (z := .slice (some ⟨Y, 0, none⟩) (n * n) (n * n)) hbY (by omega)
                have hY2 : Y < (((V5.setCell ⟨b6, 0, none⟩ (.int .i64 (n : Int))).setCell ⟨b6, 1, none⟩ (.int .i64 (n : Int))).setCell ⟨b6, 2, none⟩ (.slice (some ⟨Y, 0, none⟩) (n * n) (n * n))).heap.size := by simp only [World.size_setCell]; exact hY2
                have HB := ((HB.setCell (p := ⟨b6, 0, none⟩) (by dsimp only; omega) (.int .i64 (n : Int))).setCell (p := ⟨b6, 1, none⟩) (by dsimp only; omega) (.int .i64 (n : Int))).setCell (p := ⟨b6, 2, none⟩) (by dsimp only; omega) (.slice (some ⟨Y, 0, none⟩) (n * n) (n * n))
                have hss : V5.heap.size ≤ (((V5.setCell ⟨b6, 0, none⟩ (.int .i64 (n : Int))).setCell ⟨b6, 1, none⟩ (.int .i64 (n : Int))).setCell ⟨b6, 2, none⟩ (.slice (some ⟨Y, 0, none⟩) (n * n) (n * n))).heap.size := by simp only [World.size_setCell]; exact Nat.le_refl _
                refine hK.out _ _ TA (fun _ => ?_)
                clear hK TQ
                generalize (((V5.setCell ⟨b6, 0, none⟩ (.int .i64 (n : Int))).setCell ⟨b6, 1, none⟩ (.int .i64 (n : Int))).setCell ⟨b6, 2, none⟩ (.slice (some ⟨Y, 0, none⟩) (n * n) (n * n))) = V6 at *
                try simp only [Act.put, List.setIfInBounds_toArray, List.set_cons_zero, List.set_cons_succ]
                refine wpAnyH_done (by kernel_rfl) ?_ _
                go_wp2_with fail
                go_meet
                exact ⟨b5, b6, X, Y, ms, ns, rfl, rfl, ⟨T5, T6, hbX, hbY, hlX, hlY, hX2, hY2, by omega, by omega, by omega, by omega, by omega, by omega, by omega, HB⟩⟩
              · rw [if_pos (by rfl)]
                go_simp
                have T5 := Three.new V2 (.int .i64 0) (.int .i64 0) (.slice none 0 0) 30
                have hbe := (Below.refl V2.heap.size V2).alloc (Nat.le_refl _) (.cells #[.int .i64 0, .int .i64 0, .slice none 0 0] 30)
                have hsb5 : V2.heap.size < (V2.alloc (.cells #[.int .i64 0, .int .i64 0, .slice none 0 0] 30)).heap.size := by simp
                have hwb5 := HB.size
                have hXob5 := hX2
                have T6 := T6.below hbe
                have hbX := blk_below hbX hX2 hbe
                replace hX2 := Nat.lt_of_lt_of_le hX2 hbe.size
                have TA := TA.below hbe
                have HB := HB.trans (hbe.mono HB.size)
                have hss := hbe.size
                refine hK.out _ _ TA (fun _ => ?_)
                clear hK hbe
                generalize V2.alloc (.cells #[.int .i64 0, .int .i64 0, .slice none 0 0] 30) = V3 at *
                generalize V2.heap.size = b5 at *
                try simp only [Act.put, List.setIfInBounds_toArray, List.set_cons_zero, List.set_cons_succ]
                refine wpAnyH_ready (rs := [5]) (by kernel_rfl) (by simp) ?_
                refine AllReadyH.cons rfl (fun K hK => ?_) AllReadyH.nil
                rw [if_pos (by rfl)]
                go_simp
                have hsq := square_any (.slice A l.length c) (.slice zp zl zc) (.slice pL ss.length kL) l n 9 V3 (HM1.out.below HB) hn1 hn8 (by omega)
                rw [show ((9 : Nat) : Int) = 9 from rfl] at hsq
                refine hsq.mono ?_
                clear hsq
                rintro e V4 ⟨v, ns, rfl, ⟨Y, hY1, hY2, rfl, hbY, hlY⟩, hbe⟩
                have T5 := T5.below hbe
                have T6 := T6.below hbe
                have hbX := blk_below hbX hX2 hbe
                replace hX2 := Nat.lt_of_lt_of_le hX2 hbe.size
                have TA := TA.below hbe
                have HB := HB.trans (hbe.mono HB.size)
                have hss := hbe.size
                refine hK.out _ _ TA (fun _ => ?_)
                clear hK hbe
                unfold matV
                try simp only [Act.put, List.setIfInBounds_toArray, List.set_cons_zero, List.set_cons_succ]
                obtain ⟨u0, u1, u2, u3, u4, u5⟩ := T5
                have TQ : Three V4 b5 _ _ _ := ⟨u0, u1, u2, u3, u4, u5⟩
                refine wpAnyH_ready (rs := [8]) (by kernel_rfl) (by simp) ?_
                refine AllReadyH.cons rfl (fun K hK => ?_) AllReadyH.nil
                rw [if_pos (by rfl)]
                go_simp
                clear u0 u1 u2 u3 u4 u5
                have T5 := three_put TQ (.int .i64 (n : Int)) (.int .i64 (n : Int)) (.slice (some ⟨X, 0, none⟩) (n * n) (n * n))
                have T6 := three_cell (three_cell (three_cell T6 (d := ⟨b5, 0, none⟩) (u := .int .i64 (n : Int)) (by dsimp only; omega)) (d := ⟨b5, 1, none⟩) (u := .int .i64 (n : Int)) (by dsimp only; omega)) (d := ⟨b5, 2, none⟩) (u := .slice (some ⟨X, 0, none⟩) (n * n) (n * n)) (by dsimp only; omega)
                have TA := three_cell (three_cell (three_cell TA (d := ⟨b5, 0, none⟩) (u := .int .i64 (n : Int)) (by dsimp only; omega)) (d := ⟨b5, 1, none⟩) (u := .int .i64 (n : Int)) (by dsimp only; omega)) (d := ⟨b5, 2, none⟩) (u := .slice (some ⟨X, 0, none⟩) (n * n) (n * n)) (by dsimp only; omega)
                have hbX := three_apart (b := b5) (x := .int .i64 (n : Int)) (y := .int .i64 (n : Int)) (z := .slice (some ⟨X, 0, none⟩) (n * n) (n * n)) hbX (by omega)
                have hX2 : X < (((V4.setCell ⟨b5, 0, none⟩ (.int .i64 (n : Int))).setCell ⟨b5, 1, none⟩ (.int .i64 (n : Int))).setCell ⟨b5, 2, none⟩ (.slice (some ⟨X, 0, none⟩) (n * n) (n * n))).heap.size := by simp only [World.size_setCell]; exact hX2
                have hbY := three_apart (b := b5) (x := .int .i64 (n : Int)) (y := .int .i64 (n : Int)) (z := .slice (some ⟨X, 0, none⟩) (n * n) (n * n)) hbY (by omega)
                have hY2 : Y < (((V4.setCell ⟨b5, 0, none⟩ (.int .i64 (n : Int))).setCell ⟨b5, 1, none⟩ (.int .i64 (n : Int))).setCell ⟨b5, 2, none⟩ (.slice (some ⟨X, 0, none⟩) (n * n) (n * n))).heap.size := by simp only [World.size_setCell]; exact hY2
                have HB := ((HB.setCell (p := ⟨b5, 0, none⟩) (by dsimp only; omega) (.int .i64 (n : Int))).setCell (p := ⟨b5, 1, none⟩) (by dsimp only; omega) (.int .i64 (n : Int))).setCell (p := ⟨b5, 2, none⟩) (by dsimp only; omega) (.slice (some ⟨X, 0, none⟩) (n * n) (n * n))
                have hss : V4.heap.size ≤ (((V4.setCell ⟨b5, 0, none⟩ (.int .i64 (n : Int))).setCell ⟨b5, 1, none⟩ (.int .i64 (n : Int))).setCell ⟨b5, 2, none⟩ (.slice (some ⟨X, 0, none⟩) (n * n) (n * n))).heap.size := by simp only [World.size_setCell]; exact Nat.le_refl _
                refine hK.out _ _ TA (fun _ => ?_)
                clear hK TQ
                generalize (((V4.setCell ⟨b5, 0, none⟩ (.int .i64 (n : Int))).setCell ⟨b5, 1, none⟩ (.int .i64 (n : Int))).setCell ⟨b5, 2, none⟩ (.slice (some ⟨X, 0, none⟩) (n * n) (n * n))) = V5 at *
                try simp only [Act.put, List.setIfInBounds_toArray, List.set_cons_zero, List.set_cons_succ]
                obtain ⟨u0, u1, u2, u3, u4, u5⟩ := T6
                have TQ : Three V5 b6 _ _ _ := ⟨u0, u1, u2, u3, u4, u5⟩
                refine wpAnyH_ready (rs := [9]) (by kernel_rfl) (by simp) ?_
                refine AllReadyH.cons rfl (fun K hK => ?_) AllReadyH.nil
                rw [if_pos (by rfl)]
                go_simp
                clear u0 u1 u2 u3 u4 u5
                have T6 := three_put TQ (.int .i64 (n : Int)) (.int .i64 (n : Int)) (.slice (some ⟨Y, 0, none⟩) (n * n) (n * n))
                have T5 := three_cell (three_cell (three_cell T5 (d := ⟨b6, 0, none⟩) (u := .int .i64 (n : Int)) (by dsimp only; omega)) (d := ⟨b6, 1, none⟩) (u := .int .i64 (n : Int)) (by dsimp only; omega)) (d := ⟨b6, 2, none⟩) (u := .slice (some ⟨Y, 0, none⟩) (n * n) (n * n)) (by dsimp only; omega)
                have TA := three_cell (three_cell (three_cell TA (d := ⟨b6, 0, none⟩) (u := .int .i64 (n : Int)) (by dsimp only; omega)) (d := ⟨b6, 1, none⟩) (u := .int .i64 (n : Int)) (by dsimp only; omega)) (d := ⟨b6, 2, none⟩) (u := .slice (some ⟨Y, 0, none⟩) (n * n) (n * n)) (by dsimp only; omega)
                have hbX := three_apart (b := b6) (x := .int .i64 (n : Int)) (y := .int .i64 (n : Int)) (z := .slice (some ⟨Y, 0, none⟩) (n * n) (n * n)) hbX (by omega)
                have hX2 : X < (((V5.setCell ⟨b6, 0, none⟩ (.int .i64 (n : Int))).setCell ⟨b6, 1, none⟩ (.int .i64 (n : Int))).setCell ⟨b6, 2, none⟩ (.slice (some ⟨Y, 0, none⟩) (n * n) (n * n))).heap.size := by simp only [World.size_setCell]; exact hX2
                have hbY := three_apart (b := b6) (x := .int .i64 (n : Int)) (y := .int .i64 (n : Int)) (z := .slice (some ⟨Y, 0, none⟩) (n * n) (n * n)) hbY (by omega)
                have hY2 : Y < (((V5.setCell ⟨b6, 0, none⟩ (.int .i64 (n : Int))).setCell ⟨b6, 1, none⟩ (.int .i64 (n : Int))).setCell ⟨b6, 2, none⟩ (.slice (some ⟨Y, 0, none⟩) (n * n) (n * n))).heap.size := by simp only [World.size_setCell]; exact hY2
                have HB := ((HB.setCell (p := ⟨b6, 0, none⟩) (by dsimp only; omega) (.int .i64 (n : Int))).setCell (p := ⟨b6, 1, none⟩) (by dsimp only; omega) (.int .i64 (n : Int))).setCell (p := ⟨b6, 2, none⟩) (by dsimp only; omega) (.slice (some ⟨Y, 0, none⟩) (n * n) (n * n))
                have hss : V5.heap.size ≤ (((V5.setCell ⟨b6, 0, none⟩ (.int .i64 (n : Int))).setCell ⟨b6, 1, none⟩ (.int .i64 (n : Int))).setCell ⟨b6, 2, none⟩ (.slice (some ⟨Y, 0, none⟩) (n * n) (n * n))).heap.size := by simp only [World.size_setCell]; exact Nat.le_refl _
                refine hK.out _ _ TA (fun _ => ?_)
                clear hK TQ
                generalize (((V5.setCell ⟨b6, 0, none⟩ (.int .i64 (n : Int))).setCell ⟨b6, 1, none⟩ (.int .i64 (n : Int))).setCell ⟨b6, 2, none⟩ (.slice (some ⟨Y, 0, none⟩) (n * n) (n * n))) = V6 at *
                try simp only [Act.put, List.setIfInBounds_toArray, List.set_cons_zero, List.set_cons_succ]
                refine wpAnyH_done (by kernel_rfl) ?_ _
                go_wp2_with fail
                go_meet
                exact ⟨b5, b6, X, Y, ms, ns, rfl, rfl, ⟨T5, T6, hbX, hbY, hlX, hlY, hX2, hY2, by omega, by omega, by omega, by omega, by omega, by omega, by omega, HB⟩⟩
            · rw [if_pos (by rfl)]
              go_simp
              have T5 := Three.new V1 (.int .i64 0) (.int .i64 0) (.slice none 0 0) 30
              have hbe := (Below.refl V1.heap.size V1).alloc (Nat.le_refl _) (.cells #[.int .i64 0, .int .i64 0, .slice none 0 0] 30)
              have hsb5 : V1.heap.size < (V1.alloc (.cells #[.int .i64 0, .int .i64 0, .slice none 0 0] 30)).heap.size := by simp
              have hwb5 := HB.size
              have T6 := T6.below hbe
              have TA := TA.below hbe
              have HB := HB.trans (hbe.mono HB.size)
              have hss := hbe.size
              refine hK.out _ _ TA (fun _ => ?_)
              clear hK hbe
              generalize V1.alloc (.cells #[.int .i64 0, .int .i64 0, .slice none 0 0] 30) = V2 at *
              generalize V1.heap.size = b5 at *
              try simp only [Act.put, List.setIfInBounds_toArray, List.set_cons_zero, List.set_cons_succ]
              refine wpAnyH_ready (rs := [2]) (by kernel_rfl) (by simp) ?_
              refine AllReadyH.cons rfl (fun K hK => ?_) AllReadyH.nil
              rw [if_pos (by rfl)]
              go_simp
              have hsq := square_any (.slice A l.length c) (.slice zp zl zc) (.slice pL ss.length kL) l n 5 V2 (HM1.out.below HB) hn1 hn8 (by omega)
              rw [show ((5 : Nat) : Int) = 5 from rfl] at hsq
              refine hsq.mono ?_
              clear hsq
              rintro e V3 ⟨v, ms, rfl, ⟨X, hX1, hX2, rfl, hbX, hlX⟩, hbe⟩
              have T5 := T5.below hbe
              have T6 := T6.below hbe
              have TA := TA.below hbe
              have HB := HB.trans (hbe.mono HB.size)
              have hss := hbe.size
              refine hK.out _ _ TA (fun _ => ?_)
              clear hK hbe
              unfold matV
              try simp only [Act.put, List.setIfInBounds_toArray, List.set_cons_zero, List.set_cons_succ]
              refine wpAnyH_ready (rs := [5]) (by kernel_rfl) (by simp) ?_
              refine AllReadyH.cons rfl (fun K hK => ?_) AllReadyH.nil
              rw [if_pos (by rfl)]
              go_simp
              have hsq := square_any (.slice A l.length c) (.slice zp zl zc) (.slice pL ss.length kL) l n 9 V3 (HM1.out.below HB) hn1 hn8 (by omega)
              rw [show ((9 : Nat) : Int) = 9 from rfl] at hsq
              refine hsq.mono ?_
              clear hsq
              rintro e V4 ⟨v, ns, rfl, ⟨Y, hY1, hY2, rfl, hbY, hlY⟩, hbe⟩
              have T5 := T5.below hbe
              have T6 := T6.below hbe
              have hbX := blk_below hbX hX2 hbe
              replace hX2 := Nat.lt_of_lt_of_le hX2 hbe.size
              have TA := TA.below hbe
              have HB := HB.trans (hbe.mono HB.size)
              have hss := hbe.size
              refine hK.out _ _ TA (fun _ => ?_)
              clear hK hbe
              unfold matV
              try simp only [Act.put, List.setIfInBounds_toArray, List.set_cons_zero, List.set_cons_succ]
              obtain ⟨u0, u1, u2, u3, u4, u5⟩ := T5
              have TQ : Three V4 b5 _ _ _ := ⟨u0, u1, u2, u3, u4, u5⟩
              refine wpAnyH_ready (rs := [8]) (by kernel_rfl) (by simp) ?_
              refine AllReadyH.cons rfl (fun K hK => ?_) AllReadyH.nil
              rw [if_pos (by rfl)]
              go_simp
              clear u0 u1 u2 u3 u4 u5
              have T5 := three_put TQ (.int .i64 (n : Int)) (.int .i64 (n : Int)) (.slice (some ⟨X, 0, none⟩) (n * n) (n * n))
              have T6 := three_cell (three_cell (three_cell T6 (d := ⟨b5, 0, none⟩) (u := .int .i64 (n : Int)) (by dsimp only; omega)) (d := ⟨b5, 1, none⟩) (u := .int .i64 (n : Int)) (by dsimp only; omega)) (d := ⟨b5, 2, none⟩) (u := .slice (some ⟨X, 0, none⟩) (n * n) (n * n)) (by dsimp only; omega)
              have TA := three_cell (three_cell (three_cell TA (d := ⟨b5, 0, none⟩) (u := .int .i64 (n : Int)) (by dsimp only; omega)) (d := ⟨b5, 1, none⟩) (u := .int .i64 (n : Int)) (by dsimp only; omega)) (d := ⟨b5, 2, none⟩) (u := .slice (some ⟨X, 0, none⟩) (n * n) (n * n)) (by dsimp only; omega)
              have hbX := three_apart (b := b5) (x := .int .i64 (n : Int)) (y := .int .i64 (n : Int)) (z := .slice (some ⟨X, 0, none⟩) (n * n) (n * n)) hbX (by omega)
              have hX2 : X < (((V4.setCell ⟨b5, 0, none⟩ (.int .i64 (n : Int))).setCell ⟨b5, 1, none⟩ (.int .i64 (n : Int))).setCell ⟨b5, 2, none⟩ (.slice (some ⟨X, 0, none⟩) (n * n) (n * n))).heap.size := by simp only [World.size_setCell]; exact hX2
              have hbY := three_apart (b := b5) (x := .int .i64 (n : Int)) (y := .int .i64 (n : Int)) (z := .slice (some ⟨X, 0, none⟩) (n * n) (n * n)) hbY (by omega)
              have hY2 : Y < (((V4.setCell ⟨b5, 0, none⟩ (.int .i64 (n : Int))).setCell ⟨b5, 1, none⟩ (.int .i64 (n : Int))).setCell ⟨b5, 2, none⟩ (.slice (some ⟨X, 0, none⟩) (n * n) (n * n))).heap.size := by simp only [World.size_setCell]; exact hY2
              have HB := ((HB.setCell (p := ⟨b5, 0, none⟩) (by dsimp only; omega) (.int .i64 (n : Int))).setCell (p := ⟨b5, 1, none⟩) (by dsimp only; omega) (.int .i64 (n : Int))).setCell (p := ⟨b5, 2, none⟩) (by dsimp only; omega) (.slice (some ⟨X, 0, none⟩) (n * n) (n * n))
              have hss : V4.heap.size ≤ (((V4.setCell ⟨b5, 0, none⟩ (.int .i64 (n : Int))).setCell ⟨b5, 1, none⟩ (.int .i64 (n : Int))).setCell ⟨b5, 2, none⟩ (.slice (some ⟨X, 0, none⟩) (n * n) (n * n))).heap.size := by simp only [World.size_setCell]; exact Nat.le_refl _
              refine hK.out _ _ TA (fun _ => ?_)
              clear hK TQ
              generalize (((V4.setCell ⟨b5, 0, none⟩ (.int .i64 (n : Int))).setCell ⟨b5, 1, none⟩ (.int .i64 (n : Int))).setCell ⟨b5, 2, none⟩ (.slice (some ⟨X, 0, none⟩) (n * n) (n * n))) = V5 at *
              try simp only [Act.put, List.setIfInBounds_toArray, List.set_cons_zero, List.set_cons_succ]
              obtain ⟨u0, u1, u2, u3, u4, u5⟩ := T6
              have TQ : Three V5 b6 _ _ _ := ⟨u0, u1, u2, u3, u4, u5⟩
              refine wpAnyH_ready (rs := [9]) (by kernel_rfl) (by simp) ?_
              refine AllReadyH.cons rfl (fun K hK => ?_) AllReadyH.nil
              rw [if_pos (by rfl)]
              go_simp
              clear u0 u1 u2 u3 u4 u5
              have T6 := three_put TQ (.int .i64 (n : Int)) (.int .i64 (n : Int)) (.slice (some ⟨Y, 0, none⟩) (n * n) (n * n))
              have T5 := three_cell (three_cell (three_cell T5 (d := ⟨b6, 0, none⟩) (u := .int .i64 (n : Int)) (by dsimp only; omega)) (d := ⟨b6, 1, none⟩) (u := .int .i64 (n : Int)) (by dsimp only; omega)) (d := ⟨b6, 2, none⟩) (u := .slice (some ⟨Y, 0, none⟩) (n * n) (n * n)) (by dsimp only; omega)
              have TA := three_cell (three_cell (three_cell TA (d := ⟨b6, 0, none⟩) (u := .int .i64 (n : Int)) (by dsimp only; omega)) (d := ⟨b6, 1, none⟩) (u := .int .i64 (n : Int)) (by dsimp only; omega)) (d := ⟨b6, 2, none⟩) (u := .slice (some ⟨Y, 0, none⟩) (n * n) (n * n)) (by dsimp only; omega)
              have hbX := three_apart (b := b6) (x := .int .i64 (n : Int)) (y := .int .i64 (n : Int)) (z := .slice (some ⟨Y, 0, none⟩) (n * n) (n * n)) hbX (by omega)
              have hX2 : X < (((V5.setCell ⟨b6, 0, none⟩ (.int .i64 (n : Int))).setCell ⟨b6, 1, none⟩ (.int .i64 (n : Int))).setCell ⟨b6, 2, none⟩ (.slice (some ⟨Y, 0, none⟩) (n * n) (n * n))).heap.size := by simp only [World.size_setCell]; exact hX2
              have hbY := three_apart (b := b6) (x := .int .i64 (n : Int)) (y := .int .i64 (n : Int)) (z := .slice (some ⟨Y, 0, none⟩) (n * n) (n * n)) hbY (by omega)
              have hY2 : Y < (((V5.setCell ⟨b6, 0, none⟩ (.int .i64 (n : Int))).setCell ⟨b6, 1, none⟩ (.int .i64 (n : Int))).setCell ⟨b6, 2, none⟩ (.slice (some ⟨Y, 0, none⟩) (n * n) (n * n))).heap.size := by simp only [World.size_setCell]; exact hY2
              have HB := ((HB.setCell (p := ⟨b6, 0, none⟩) (by dsimp only; omega) (.int .i64 (n : Int))).setCell (p := ⟨b6, 1, none⟩) (by dsimp only; omega) (.int .i64 (n : Int))).setCell (p := ⟨b6, 2, none⟩) (by dsimp only; omega) (.slice (some ⟨Y, 0, none⟩) (n * n) (n * n))
              have hss : V5.heap.size ≤ (((V5.setCell ⟨b6, 0, none⟩ (.int .i64 (n : Int))).setCell ⟨b6, 1, none⟩ (.int .i64 (n : Int))).setCell ⟨b6, 2, none⟩ (.slice (some ⟨Y, 0, none⟩) (n * n) (n * n))).heap.size := by simp only [World.size_setCell]; exact Nat.le_refl _
              refine hK.out _ _ TA (fun _ => ?_)
              clear hK TQ
              generalize (((V5.setCell ⟨b6, 0, none⟩ (.int .i64 (n : Int))).setCell ⟨b6, 1, none⟩ (.int .i64 (n : Int))).setCell ⟨b6, 2, none⟩ (.slice (some ⟨Y, 0, none⟩) (n * n) (n * n))) = V6 at *
              try simp only [Act.put, List.setIfInBounds_toArray, List.set_cons_zero, List.set_cons_succ]
              refine wpAnyH_done (by kernel_rfl) ?_ _
              go_wp2_with fail
              go_meet
              exact ⟨b5, b6, X, Y, ms, ns, rfl, rfl, ⟨T5, T6, hbX, hbY, hlX, hlY, hX2, hY2, by omega, by omega, by omega, by omega, by omega, by omega, by omega, HB⟩⟩
        case rest =>
          obtain ⟨b5, b6, X, Y, ms, ns, rfl, rfl, H2⟩ := hcut
          have HT := Lib.hid H2
          obtain ⟨i0, hi, hz0, hz1, hz2⟩ := info_parts infoStr6
          obtain ⟨q, hq⟩ : ∃ q, q = n * 3 := ⟨_, rfl⟩
          have pq : (n : Int) * 3 = (q : Int) := by rw [hq]; simp
          have hq256 : q < 256 := by omega
          have hq8 : IntKind.u8.wrap (q : Int) = (q : Int) := by rw [IntKind.wrap_u8]; omega
          clear hq
          obtain ⟨c8, hc8, c8lt⟩ := u8_some (ss.length : Int)
          have TAc := Lib.hid (TA1.out.below H2.be)
          clear H2
          go_wp2_with fail
          go_loopw [6, 7] (fun lv iv wx => ∃ (i : Nat) (L : List ByteArray) (v : Value), v = lv ∧ iv = .int .i64 i ∧ i ≤ n ∧ wx.ownsRow wc.heap.size 9 1 v i (L.map Value.string) ∧ Hid (L.length = i) ∧ Hid (∀ s ∈ L, s.size = 3) ∧ Hid (Below wc.heap.size wc wx)) (fun _ iv _ => n - (intOf iv).toNat)
          case atStart => exact ⟨0, [], _, rfl, rfl, by omega, World.ownsRow_nil _ _ _ _, rfl, Lib.hid (by simp), Lib.hid (Below.refl _ _)⟩
          case round =>
            obtain ⟨i, L, v, rfl, rfl, hin, hown, HLi, HL3, HBx⟩ := hrel
            obtain ⟨a0, a1, a2, _, _, _⟩ := TAc.out.below HBx.out
            by_cases hlt : i < n
            · have hi8 : IntKind.u8.wrap (i : Int) = (i : Int) := by rw [IntKind.wrap_u8]; omega
              obtain ⟨s, hs3, hcv⟩ := conv3 wr i q c8 (by omega) (by omega) c8lt
              have HS3 := Lib.hid hs3
              have hwr1 := HBx.out.alloc HBx.out.size (.cells #[.int .u8 (i : Int), .int .u8 (q : Int), .int .u8 (c8 : Int)] 5)
              have hwcs := HBx.out.size
              clear hs3
              go_wp2_with (first | (at_builtin; refine wpList_append_own _ rfl _ _ 24 rfl wc.heap.size 9 i0 (.string ByteArray.empty) 1 16 Try.underlying24 hi hz0 hz1 hz2 rfl (by decide) _ _ _ rfl ((hown.alloc (.cells #[.int .u8 (i : Int), .int .u8 (q : Int), .int .u8 (c8 : Int)] 5)).alloc _) ⟨wr.heap.size + 1, 0, none⟩ 1 1 [.string s] rfl rfl ?c1 ?c2 ?c3 ?c4 ?c5 ?_))
              case c1 => have hcn := cell_one_new' (wr.alloc (.cells #[.int .u8 (i : Int), .int .u8 (q : Int), .int .u8 (c8 : Int)] 5)) (.string s) 9; rw [World.size_alloc] at hcn; exact hcn
              case c2 => intro u hu; simp at hu; subst hu; rfl
              case c3 => unfold maxLen; omega
              case c4 => omega
              case c5 => simp; omega
              all_goals
                intro v' w4 hown' hgrow _
                have hbx := append_below hwr1 (hown.alloc _) hgrow
                clear hown hgrow hwr1 hcv a0 a1 a2
                go_wp2_with fail
                go_roundw
                case rel => exact ⟨i + 1, L ++ [s], _, rfl, by go_num, by omega, by rw [List.map_append]; exact hown', by rw [Hid, List.length_append, HLi.out]; rfl, Lib.hid (by intro x hx; rcases List.mem_append.1 hx with h | h; exact HL3.out x h; simp at h; subst h; exact HS3.out), Lib.hid hbx⟩
                case measure => simp [intOf]; omega
            · have hin2 : n = i := by omega
              subst hin2
              clear a0 a1 a2 hlt hin hq8 hc8
              have hx := HT.out.hx
              have hy := HT.out.hy
              have hbe := HBx.out
              have T5 := Lib.hid (HT.out.t5.below (hbe.mono (by omega)))
              have T6 := Lib.hid (HT.out.t6.below (hbe.mono (by omega)))
              have hvX : BytesV wr (.slice (some ⟨X, 0, none⟩) ms.length (n * n)) ms := (BytesV.of_blk (c := n * n) HT.out.x hx).below hbe
              have hvY : BytesV wr (.slice (some ⟨Y, 0, none⟩) ns.length (n * n)) ns := (BytesV.of_blk (c := n * n) HT.out.y hy).below hbe
              have HVX := Lib.hid hvX
              have HVY := Lib.hid hvY
              have HLX := Lib.hid HT.out.lx
              have HLY := Lib.hid HT.out.ly
              have HB2 := Lib.hid (cum2 HT.out.be hbe)
              have HL : Hid (Strs6 wr v L) := by
                have := RowIs.of_own hown
                rw [← HLi.out] at this
                exact this
              have hnn : n * n ≤ 5 * 5 := Nat.mul_le_mul hn5 hn5
              clear hx hy hbe hown HBx HT TAc hvX hvY
              obtain ⟨x0, x1, x2, _, _, _⟩ := T5.out
              obtain ⟨y0, y1, y2, _, _, _⟩ := T6.out
              go_wp2_with fail
              have HC := mul_yes n n n X 0 (n * n) Y 0 (n * n) ms ns wr HVX.out HVY.out HLX.out HLY.out hn1 (by omega) hn1 (by omega) hn1 (by omega) (by rw [HLX.out]; exact Nat.le_refl _) (by rw [HLY.out]; exact Nat.le_refl _) (by omega) (by omega)
              rw [HLX.out, HLY.out] at HC
              unfold matV at HC
              refine HC.mono ?_
              rintro e V1 ⟨v1, rfl, ⟨Z, hZ1, hZ2, rfl, hblkZ, hlenZ⟩, hb1⟩
              clear HC x0 x1 x2 y0 y1 y2
              have HPB : Hid (∀ x ∈ timesL ms ns n n n, x < 256) := timesL_all3 HVX.out.2
              have HAT := Lib.hid (apply_times HVX.out.2 HVY.out.2 L n n n 3)
              have HPL : Hid ((timesL ms ns n n n).length = n * n) := hlenZ
              generalize timesL ms ns n n n = P at *
              obtain ⟨o1, ho1⟩ : ∃ o, o = (Obj.cells #[.int .i64 (n : Int), .int .i64 (n : Int), (.slice (some ⟨Z, 0, none⟩) (n * n) (n * n))] 30) := ⟨_, rfl⟩
              have t1 := Three.new V1 (.int .i64 (n : Int)) (.int .i64 (n : Int)) (.slice (some ⟨Z, 0, none⟩) (n * n) (n * n)) 30
              rw [← ho1] at t1
              have hal := (Below.refl V1.heap.size V1).alloc (Nat.le_refl _) o1
              have HVZ : Hid (BytesV (V1.alloc o1) (.slice (some ⟨Z, 0, none⟩) P.length (n * n)) P) := (BytesV.of_blk (c := n * n) hblkZ hZ2).below hal
              have T5b := Lib.hid ((T5.out.below hb1).below hal)
              have T6b := Lib.hid ((T6.out.below hb1).below hal)
              have T8b := Lib.hid t1
              have HVXb := Lib.hid ((HVX.out.below hb1).below hal)
              have HVYb := Lib.hid ((HVY.out.below hb1).below hal)
              have HLb := Lib.hid ((HL.out.below hb1).below hal)
              have HBb := Lib.hid (cum2 (cum2 HB2.out hb1) hal)
              obtain ⟨z0, z1, z2, _, _, _⟩ := t1
              rw [ho1] at z0 z1 z2
              clear hal hb1 hblkZ hZ1 hZ2 hlenZ T5 T6 HVX HVY HL HB2
              unfold matV
              go_upto_region 13 with fail
              rw [← ho1]
              clear z0 z1 z2 ho1
              generalize V1.alloc o1 = U1 at *
              generalize V1.heap.size = c1 at *
              obtain ⟨z0, z1, z2, _, _, _⟩ := T8b.out
              go_wp2_with fail
              have HC := apply_yes n 3 Z 0 (n * n) v P L U1 HVZ.out HLb.out (by rw [HPL.out, HLi.out]) HL3.out (by omega) hn1 (by omega) (by rw [HLi.out]; exact hn1) (by rw [HLi.out]; omega) (by rw [HPL.out]; exact Nat.le_refl _) (by omega)
              rw [HPL.out, HLi.out] at HC
              unfold matV at HC
              refine HC.mono ?_
              rintro e U2 ⟨r1, rfl, hown1, hb2⟩
              have HR1 := Lib.hid (RowIs.of_own hown1)
              have T5c := Lib.hid (T5b.out.below hb2)
              have T6c := Lib.hid (T6b.out.below hb2)
              have HVXc := Lib.hid (HVXb.out.below hb2)
              have HVYc := Lib.hid (HVYb.out.below hb2)
              have HLc := Lib.hid (HLb.out.below hb2)
              have HBc := Lib.hid (cum2 HBb.out hb2)
              clear HC hown1 hb2 T5b T6b T8b HVXb HVYb HLb HBb HVZ z0 z1 z2
              obtain ⟨y0, y1, y2, _, _, _⟩ := T6c.out
              go_wp2_with fail
              have HC := apply_yes n 3 Y 0 (n * n) v ns L U2 HVYc.out HLc.out (by rw [HLY.out, HLi.out]) HL3.out (by omega) hn1 (by omega) (by rw [HLi.out]; exact hn1) (by rw [HLi.out]; omega) (by rw [HLY.out]; exact Nat.le_refl _) (by omega)
              rw [HLY.out, HLi.out] at HC
              unfold matV at HC
              refine HC.mono ?_
              rintro e U3 ⟨r2, rfl, hown2, hb3⟩
              have HR1d := Lib.hid (HR1.out.below hb3)
              have T5d := Lib.hid (T5c.out.below hb3)
              have HVXd := Lib.hid (HVXc.out.below hb3)
              have HBd := Lib.hid (cum2 HBc.out hb3)
              have hS2 : Strs6 U3 r2 (applyL ns L n n 3) := by
                have := RowIs.of_own hown2
                rw [← applyL_length ns L n n 3] at this
                rw [applyL_length] at this
                unfold Strs6
                rw [applyL_length]
                exact this
              have HS2 := Lib.hid hS2
              have HL2n := Lib.hid (applyL_length ns L n n 3)
              have HSZ2 : Hid (∀ s ∈ applyL ns L n n 3, s.size = 3) := applyL_sizes
              clear HC hown2 hS2 hb3 T5c T6c HVXc HVYc HLc HBc HR1 y0 y1 y2
              generalize applyL ns L n n 3 = L2 at *
              obtain ⟨x0, x1, x2, _, _, _⟩ := T5d.out
              go_wp2_with fail
              have HC := apply_yes n 3 X 0 (n * n) r2 ms L2 U3 HVXd.out HS2.out (by rw [HLX.out, HL2n.out]) HSZ2.out (by omega) hn1 (by omega) (by rw [HL2n.out]; exact hn1) (by rw [HL2n.out]; omega) (by rw [HLX.out]; exact Nat.le_refl _) (by omega)
              rw [HLX.out, HL2n.out] at HC
              unfold matV at HC
              refine HC.mono ?_
              rintro e U4 ⟨r3, rfl, hown3, hb4⟩
              rw [← HAT.out] at hown3
              have HR1e := Lib.hid (HR1d.out.below hb4)
              have HR3 := Lib.hid (RowIs.of_own hown3)
              have HBe := Lib.hid (cum2 HBd.out hb4)
              have HQL := Lib.hid (applyL_length P L n n 3)
              clear HC hown3 hb4 T5d HVXd HBd HR1d x0 x1 x2
              generalize applyL P L n n 3 = Q at *
              have hs1 : Strs6 U4 r1 Q := by unfold Strs6; rw [HQL.out]; exact HR1e.out
              have hs3 : Strs6 U4 r3 Q := by unfold Strs6; rw [HQL.out]; exact HR3.out
              have HEQ := Lib.hid (eqStrs6_yes r1 r3 Q U4 hs1 hs3 (by rw [HQL.out]; omega))
              obtain ⟨Ar1, kr1, er1⟩ := hs1.shape
              rw [HQL.out] at er1
              subst er1
              clear hs1 hs3
              go_wp2_with (first | (go_at_call 13; refine (num3_any _ _).mono ?_; rintro e wn ⟨rfl, rfl⟩))
              refine HEQ.out.mono ?_
              rintro e U5 ⟨rfl, hb5⟩
              have HBf := Lib.hid (HBe.out.trans (hb5.mono HBe.out.size))
              clear hb5 HEQ
              go_wp2_with fail
              go_roundw
              case rel => exact ⟨n + 1, by go_num, by omega, by omega, HBf⟩
              case measure => simp [intOf]; omega
      · have hnd : decide ((n : Int) ≤ 5) = false := by simp; omega
        have HB2 := Lib.hid (HB1.out.trans (HB.out.mono HB1.out.size))
        go_wp2_with fail
        refine (wakes3_any _).mono ?_
        rintro e w5 ⟨rfl, hb5⟩
        have hfin := HB2.out.trans (hb5.mono HB2.out.size)
        clear hb5
        go_wp2_with fail
        go_ret
        exact ⟨rfl, hfin⟩
  · go_wp2_with fail
    go_ret
    exact ⟨rfl, HB1.out⟩
end Go.Proofs.Ytibinkppbdeofaa
