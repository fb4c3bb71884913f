/- MatrixRanks: the law's walk. -/
import Derived.Test.YtibinkppbdeofaaSqA
import Derived.Test.YtibinkppbdeofaaRkC
import Derived.Test.YtibinkppbdeofaaMatX
import Derived.OrdersHeld
import Derived.Deep.RegionHeld
namespace Go.Proofs.Ytibinkppbdeofaa
open Go.ChangeShapes Go.WideShapes Go.ChangeAt Go.RowKit Go.Joins Go.Shelf
set_option linter.unusedVariables false
set_option linter.unusedSimpArgs false

theorem few_some (z : Int) (n : Nat) (h1 : 1 ≤ n) (h2 : n ≤ 8) : ∃ f : Nat, wrap64 (1 + withinI z (n : Int)) = (f : Int) ∧ 1 ≤ f ∧ f ≤ n := by
  have := within_bd z (n : Int) (by omega) (by omega)
  refine ⟨(1 + withinI z (n : Int)).toNat, ?_, by omega, by omega⟩
  rw [IntWalk.wrap64_in _ (by omega)]; omega
theorem timesL_ent {ms bs : List Nat} {ra ca cb i j : Nat} (hi : i < ra) (hj : j < cb) : ent cb (timesL ms bs ra ca cb) i j = dot ca (ent ca ms i) (fun k => ent cb bs k j) := by
  have hp : i * cb + j < ra * cb := by have := row_fits (c := cb) hi; omega
  have hd : (i * cb + j) / cb = i := by rw [Nat.mul_comm, Nat.mul_add_div (by omega), Nat.div_eq_of_lt hj, Nat.add_zero]
  have hm : (i * cb + j) % cb = j := by rw [Nat.mul_comm, Nat.mul_add_mod, Nat.mod_eq_of_lt hj]
  have e : (timesL ms bs ra ca cb).getD (i * cb + j) 0 = dotK ms bs ca cb ((i * cb + j) / cb) ((i * cb + j) % cb) ca := by
    simp [timesL, List.getD, hp]
  rw [ent, e, hd, hm]; rfl
theorem timesL_all {ms bs : List Nat} {ra ca cb : Nat} (h : ∀ x ∈ ms, x < 256) : ∀ x ∈ timesL ms bs ra ca cb, x < 256 := by
  intro x hx
  obtain ⟨p, _, rfl⟩ := List.mem_map.1 hx
  exact dotK_lt h _ _ _ _ _
/-- The first bytes of a row. -/
theorem bytesV_take {w : World} {X k c : Nat} {ms : List Nat} (h : BytesBlk w X ms) (hX : X < w.heap.size) (hk : k ≤ ms.length) : BytesV w (.slice (some ⟨X, 0, none⟩) k c) (ms.take k) := by
  have hb : BytesBlk w X (ms.take k) := fun i hi => by
    rw [List.length_take] at hi
    have e : (ms.take k).getD i 0 = ms.getD i 0 := by simp [List.getD, List.getElem?_take, show i < k by omega]
    rw [e]; exact h i (by omega)
  have := BytesV.of_blk (c := c) hb hX
  rw [List.length_take, Nat.min_eq_left hk] at this
  exact this

theorem three_set0 {w : World} {B : Nat} {a b c : Value} (h : Three w B a b c) (u : Value) : Three (w.setCell ⟨B, 0, none⟩ u) B u b c :=
  ⟨World.cell?_setCell_same' _ _ _ (by rw [h.c0]; rfl), by rw [World.cell?_setCell_other _ _ _ _ (by simp)]; exact h.c1, by rw [World.cell?_setCell_other _ _ _ _ (by simp)]; exact h.c2, by rw [World.frozen?_setCell]; exact h.f0, by rw [World.frozen?_setCell]; exact h.f1, by rw [World.frozen?_setCell]; exact h.f2⟩
theorem three_set1 {w : World} {B : Nat} {a b c : Value} (h : Three w B a b c) (u : Value) : Three (w.setCell ⟨B, 1, none⟩ u) B a u c :=
  ⟨by rw [World.cell?_setCell_other _ _ _ _ (by simp)]; exact h.c0, World.cell?_setCell_same' _ _ _ (by rw [h.c1]; rfl), by rw [World.cell?_setCell_other _ _ _ _ (by simp)]; exact h.c2, by rw [World.frozen?_setCell]; exact h.f0, by rw [World.frozen?_setCell]; exact h.f1, by rw [World.frozen?_setCell]; exact h.f2⟩
theorem three_set2 {w : World} {B : Nat} {a b c : Value} (h : Three w B a b c) (u : Value) : Three (w.setCell ⟨B, 2, none⟩ u) B a b u :=
  ⟨by rw [World.cell?_setCell_other _ _ _ _ (by simp)]; exact h.c0, by rw [World.cell?_setCell_other _ _ _ _ (by simp)]; exact h.c1, World.cell?_setCell_same' _ _ _ (by rw [h.c2]; rfl), by rw [World.frozen?_setCell]; exact h.f0, by rw [World.frozen?_setCell]; exact h.f1, by rw [World.frozen?_setCell]; exact h.f2⟩

/-- Two matrices in two boxes. -/
structure TwoM (w1 wx : World) (n b5 b6 X Y : Nat) (ms ns : List Nat) : Prop where
  t5 : Three wx b5 (.int .i64 (n : Int)) (.int .i64 (n : Int)) (.slice (some ⟨X, 0, none⟩) (n * n) (n * n))
  t6 : Three wx b6 (.int .i64 (n : Int)) (.int .i64 (n : Int)) (.slice (some ⟨Y, 0, none⟩) (n * n) (n * n))
  x : BytesBlk wx X ms
  y : BytesBlk wx Y ns
  lx : ms.length = n * n
  ly : ns.length = n * n
  hx : X < wx.heap.size
  hy : Y < wx.heap.size
  d0 : b5 ≠ b6
  d1 : b5 ≠ X
  d2 : b5 ≠ Y
  d3 : b6 ≠ X
  d4 : b6 ≠ Y
  l5 : w1.heap.size ≤ b5
  l6 : w1.heap.size ≤ b6
  be : Below w1.heap.size w1 wx

set_option maxRecDepth 100000 in
set_option maxHeartbeats 8000000 in
theorem matrixRanks_walk (vM vN vL : Value) (l : List M3) (zs : List Int) (ss : List ByteArray) (w : World) (hM : MatsIn w vM l) (hN : NumsIn w vN zs) (hL : TextsIn w vL ss) :
    Calls Try.prog 4 #[.agg #[vM, vN, vL]] w fun e w' => e = .returned (.bool true) ∧ Below w.heap.size w w' := by
  have tA := Three.new w vM vN vL 26
  have hbe := (Below.refl w.heap.size w).alloc (Nat.le_refl _) (.cells #[vM, vN, vL] 26)
  have TA := Lib.hid tA
  have HBE := Lib.hid hbe
  have HM := Lib.hid (hM.below hbe)
  have HHV := heavy3_weak vM vN vL l zs ss (w.alloc (.cells #[vM, vN, vL] 26)) (hM.below hbe) (by
    refine ⟨hN.1, ?_⟩
    rcases hN.2 with h | ⟨b, o, c, e, h0, hm, hb, hc⟩
    · exact Or.inl h
    · exact Or.inr ⟨b, o, c, e, h0, hm, Nat.lt_of_lt_of_le hb hbe.size, fun i hi => below_celllt (hc i hi) hb ((Below.refl w.heap.size w).alloc (Nat.le_refl _) _)⟩) (textsIn_below hL hbe)
  have HHX := Lib.hid HHV
  obtain ⟨zp, zc, zl, rfl⟩ : ∃ p c n, vN = .slice p n c := by
    rcases hN.2 with ⟨_, p, c, rfl⟩ | ⟨b, o, c, rfl, _⟩
    · exact ⟨_, _, _, rfl⟩
    · exact ⟨_, _, _, rfl⟩
  obtain ⟨A, c, rfl, hll, _⟩ := hM
  obtain ⟨pL, kL, rfl, _⟩ := hL
  obtain ⟨a0, a1, a2, _, _, _⟩ := tA
  clear hbe hN HHV
  go_enter Try.func4, Try.ntmps4
  go_wp2_with fail
  clear a0 a1 a2
  generalize w.alloc (.cells #[.slice A l.length c, .slice zp zl zc, .slice pL ss.length kL] 26) = W0 at *
  refine HHX.out.mono ?_
  rintro e w1 ⟨⟨bo, rfl⟩, hb1⟩
  have TA1 := Lib.hid (TA.out.below hb1)
  have HM1 := Lib.hid (HM.out.below hb1)
  have HB1 := Lib.hid (HBE.out.trans (hb1.mono HBE.out.size))
  clear hb1 TA HM HHX
  cases bo
  · go_wp2_with fail
    go_loopw [3] (fun nn wr => ∃ n : Nat, nn = .int .i64 n ∧ 1 ≤ n ∧ n ≤ 9 ∧ Hid (Below w1.heap.size w1 wr)) (fun nn _ => 9 - (intOf nn).toNat)
    case atStart => exact ⟨1, rfl, by omega, by omega, Lib.hid (Below.refl _ _)⟩
    case round =>
      obtain ⟨n, rfl, hn1, hn9, HB⟩ := hrel
      by_cases hn8 : n ≤ 8
      · have hnd : decide ((n : Int) ≤ 8) = true := by simp; omega
        obtain ⟨a0, a1, a2, _, _, _⟩ := TA1.out.below HB.out
        have n1 : (0 : Int) < (n : Int) := by omega
        go_upto_region 7 with (first | (go_at_call 16; refine (within_any _ _ _ n1 (by omega)).mono ?_; rintro e wn ⟨rfl, rfl⟩))
        clear a0 a1 a2
        obtain ⟨f, hf, hf1, hf2⟩ := few_some (wrap64 ((zl : Int) + (n : Int))) n hn1 hn8
        rw [hf]
        clear hf
        go_cut [5, 6] from 24 to 6 (fun p5 p6 wx => ∃ b5 b6 X Y ms ns, p5 = .pointer (some ⟨b5, 0, none⟩) ∧ p6 = .pointer (some ⟨b6, 0, none⟩) ∧ TwoM w1 wx n b5 b6 X Y ms ns)
        case first =>
          refine wp_region_held (S := fun W' => Three W' w.heap.size (.slice A l.length c) (.slice zp zl zc) (.slice pL ss.length kL)) (by kernel_rfl) ?_
          change wpAnyH _ _ _ _ _ 10 _ _ wr.drew
          have TA := (TA1.out.below HB.out).drew
          have HB := HB.out.drew
          have hwb := cell_block TA1.out.c0
          dsimp only at hwb
          generalize wr.drew = V0 at *
          refine wpAnyH_take (i := 0) (v := .agg #[.slice A l.length c, .slice zp zl zc, .slice pL ss.length kL]) rfl (by kernel_rfl) (by kernel_rfl) (by kernel_rfl) (fun _ _ _ h => h) (Or.inl ⟨by rfl, fun W' hW' => ?_⟩) TA ?_
          · obtain ⟨x0, x1, x2, _, _, _⟩ := hW'
            go_simp
            try rfl
          try simp only [Act.put, List.setIfInBounds_toArray, List.set_cons_zero, List.set_cons_succ]
          refine wpAnyH_take (i := 1) (v := .int .i64 (n : Int)) rfl (by kernel_rfl) (by kernel_rfl) (by kernel_rfl) (fun _ _ _ h => h) (Or.inl ⟨by rfl, fun W' hW' => ?_⟩) TA ?_
          · obtain ⟨x0, x1, x2, _, _, _⟩ := hW'
            go_simp
            try rfl
          try simp only [Act.put, List.setIfInBounds_toArray, List.set_cons_zero, List.set_cons_succ]
          refine wpAnyH_take (i := 3) (v := .agg #[.slice A l.length c, .slice zp zl zc, .slice pL ss.length kL]) rfl (by kernel_rfl) (by kernel_rfl) (by kernel_rfl) (fun _ _ _ h => h) (Or.inl ⟨by rfl, fun W' hW' => ?_⟩) TA ?_
          · obtain ⟨x0, x1, x2, _, _, _⟩ := hW'
            go_simp
            try rfl
          try simp only [Act.put, List.setIfInBounds_toArray, List.set_cons_zero, List.set_cons_succ]
          refine wpAnyH_take (i := 4) (v := .int .i64 (n : Int)) rfl (by kernel_rfl) (by kernel_rfl) (by kernel_rfl) (fun _ _ _ h => h) (Or.inl ⟨by rfl, fun W' hW' => ?_⟩) TA ?_
          · obtain ⟨x0, x1, x2, _, _, _⟩ := hW'
            go_simp
            try rfl
          try simp only [Act.put, List.setIfInBounds_toArray, List.set_cons_zero, List.set_cons_succ]
          refine wpAnyH_ready (rs := [2, 6, 7]) (by kernel_rfl) (by simp) ?_
          refine AllReadyH.cons rfl (fun K hK => ?_) (AllReadyH.cons rfl (fun K hK => ?_) (AllReadyH.cons rfl (fun K hK => ?_) AllReadyH.nil))
          · rw [if_pos (by rfl)]
            go_simp
            have hsq := square_any (.slice A l.length c) (.slice zp zl zc) (.slice pL ss.length kL) l n 2 V0 (HM1.out.below HB) hn1 hn8 (by omega)
            rw [show ((2 : Nat) : Int) = 2 from rfl] at hsq
            refine hsq.mono ?_
            clear hsq
            rintro e V1 ⟨v, ms, rfl, ⟨X, hX1, hX2, rfl, hbX, hlX⟩, hbe⟩
            have TA := TA.below hbe
            have HB := HB.trans (hbe.mono HB.size)
            have hss := hbe.size
            refine hK.out _ _ TA (fun _ => ?_)
            clear hK hbe
            unfold matV
            try simp only [Act.put, List.setIfInBounds_toArray, List.set_cons_zero, List.set_cons_succ]
            refine wpAnyH_ready (rs := [5, 6, 7]) (by kernel_rfl) (by simp) ?_
            refine AllReadyH.cons rfl (fun K hK => ?_) (AllReadyH.cons rfl (fun K hK => ?_) (AllReadyH.cons rfl (fun K hK => ?_) AllReadyH.nil))
            · rw [if_pos (by rfl)]
              go_simp
              have hsq := square_any (.slice A l.length c) (.slice zp zl zc) (.slice pL ss.length kL) l n 3 V1 (HM1.out.below HB) hn1 hn8 (by omega)
              rw [show ((3 : Nat) : Int) = 3 from rfl] at hsq
              refine hsq.mono ?_
              clear hsq
              rintro e V2 ⟨v, ns, rfl, ⟨Y, hY1, hY2, rfl, hbY, hlY⟩, hbe⟩
              have hbX := blk_below hbX hX2 hbe
              replace hX2 := Nat.lt_of_lt_of_le hX2 hbe.size
              have TA := TA.below hbe
              have HB := HB.trans (hbe.mono HB.size)
              have hss := hbe.size
              refine hK.out _ _ TA (fun _ => ?_)
              clear hK hbe
              unfold matV
              try simp only [Act.put, List.setIfInBounds_toArray, List.set_cons_zero, List.set_cons_succ]
              refine wpAnyH_ready (rs := [6, 7]) (by kernel_rfl) (by simp) ?_
              refine AllReadyH.cons rfl (fun K hK => ?_) (AllReadyH.cons rfl (fun K hK => ?_) AllReadyH.nil)
              · rw [if_pos (by rfl)]
                go_simp
                have T5 := Three.new V2 (.int .i64 0) (.int .i64 0) (.slice none 0 0) 30
                have hbe := (Below.refl V2.heap.size V2).alloc (Nat.le_refl _) (.cells #[.int .i64 0, .int .i64 0, .slice none 0 0] 30)
                have hsb5 : V2.heap.size < (V2.alloc (.cells #[.int .i64 0, .int .i64 0, .slice none 0 0] 30)).heap.size := by simp
                have hwb5 := HB.size
                have hXob5 := hX2
                have hYob5 := hY2
                have hbX := blk_below hbX hX2 hbe
                replace hX2 := Nat.lt_of_lt_of_le hX2 hbe.size
                have hbY := blk_below hbY hY2 hbe
                replace hY2 := Nat.lt_of_lt_of_le hY2 hbe.size
                have TA := TA.below hbe
                have HB := HB.trans (hbe.mono HB.size)
                have hss := hbe.size
                refine hK.out _ _ TA (fun _ => ?_)
                clear hK hbe
                generalize V2.alloc (.cells #[.int .i64 0, .int .i64 0, .slice none 0 0] 30) = V3 at *
                generalize V2.heap.size = b5 at *
                try simp only [Act.put, List.setIfInBounds_toArray, List.set_cons_zero, List.set_cons_succ]
                refine wpAnyH_ready (rs := [7]) (by kernel_rfl) (by simp) ?_
                refine AllReadyH.cons rfl (fun K hK => ?_) AllReadyH.nil
                rw [if_pos (by rfl)]
                go_simp
                have T6 := Three.new V3 (.int .i64 0) (.int .i64 0) (.slice none 0 0) 30
                have hbe := (Below.refl V3.heap.size V3).alloc (Nat.le_refl _) (.cells #[.int .i64 0, .int .i64 0, .slice none 0 0] 30)
                have hsb6 : V3.heap.size < (V3.alloc (.cells #[.int .i64 0, .int .i64 0, .slice none 0 0] 30)).heap.size := by simp
                have hwb6 := HB.size
                have hXob6 := hX2
                have hYob6 := hY2
                have T5 := T5.below hbe
                have hbX := blk_below hbX hX2 hbe
                replace hX2 := Nat.lt_of_lt_of_le hX2 hbe.size
                have hbY := blk_below hbY hY2 hbe
                replace hY2 := Nat.lt_of_lt_of_le hY2 hbe.size
                have TA := TA.below hbe
                have HB := HB.trans (hbe.mono HB.size)
                have hss := hbe.size
                refine hK.out _ _ TA (fun _ => ?_)
                clear hK hbe
                generalize V3.alloc (.cells #[.int .i64 0, .int .i64 0, .slice none 0 0] 30) = V4 at *
                generalize V3.heap.size = b6 at *
                try simp only [Act.put, List.setIfInBounds_toArray, List.set_cons_zero, List.set_cons_succ]
                obtain ⟨u0, u1, u2, u3, u4, u5⟩ := T5
                have TQ : Three V4 b5 _ _ _ := ⟨u0, u1, u2, u3, u4, u5⟩
                refine wpAnyH_ready (rs := [8]) (by kernel_rfl) (by simp) ?_
                refine AllReadyH.cons rfl (fun K hK => ?_) AllReadyH.nil
                rw [if_pos (by rfl)]
                go_simp
                clear u0 u1 u2 u3 u4 u5
                have T5 := three_put TQ (.int .i64 (n : Int)) (.int .i64 (n : Int)) (.slice (some ⟨X, 0, none⟩) (n * n) (n * n))
                have T6 := three_cell (three_cell (three_cell T6 (d := ⟨b5, 0, none⟩) (u := .int .i64 (n : Int)) (by dsimp only; omega)) (d := ⟨b5, 1, none⟩) (u := .int .i64 (n : Int)) (by dsimp only; omega)) (d := ⟨b5, 2, none⟩) (u := .slice (some ⟨X, 0, none⟩) (n * n) (n * n)) (by dsimp only; omega)
                have TA := three_cell (three_cell (three_cell TA (d := ⟨b5, 0, none⟩) (u := .int .i64 (n : Int)) (by dsimp only; omega)) (d := ⟨b5, 1, none⟩) (u := .int .i64 (n : Int)) (by dsimp only; omega)) (d := ⟨b5, 2, none⟩) (u := .slice (some ⟨X, 0, none⟩) (n * n) (n * n)) (by dsimp only; omega)
                have hbX := three_apart (b := b5) (x := .int .i64 (n : Int)) (y := .int .i64 (n : Int)) (z := .slice (some ⟨X, 0, none⟩) (n * n) (n * n)) hbX (by omega)
                have hX2 : X < (((V4.setCell ⟨b5, 0, none⟩ (.int .i64 (n : Int))).setCell ⟨b5, 1, none⟩ (.int .i64 (n : Int))).setCell ⟨b5, 2, none⟩ (.slice (some ⟨X, 0, none⟩) (n * n) (n * n))).heap.size := by simp only [World.size_setCell]; exact hX2
                have hbY := three_apart (b := b5) (x := .int .i64 (n : Int)) (y := .int .i64 (n : Int)) (z := .slice (some ⟨X, 0, none⟩) (n * n) (n * n)) hbY (by omega)
                have hY2 : Y < (((V4.setCell ⟨b5, 0, none⟩ (.int .i64 (n : Int))).setCell ⟨b5, 1, none⟩ (.int .i64 (n : Int))).setCell ⟨b5, 2, none⟩ (.slice (some ⟨X, 0, none⟩) (n * n) (n * n))).heap.size := by simp only [World.size_setCell]; exact hY2
                have HB := ((HB.setCell (p := ⟨b5, 0, none⟩) (by dsimp only; omega) (.int .i64 (n : Int))).setCell (p := ⟨b5, 1, none⟩) (by dsimp only; omega) (.int .i64 (n : Int))).setCell (p := ⟨b5, 2, none⟩) (by dsimp only; omega) (.slice (some ⟨X, 0, none⟩) (n * n) (n * n))
                have hss : V4.heap.size ≤ (((V4.setCell ⟨b5, 0, none⟩ (.int .i64 (n : Int))).setCell ⟨b5, 1, none⟩ (.int .i64 (n : Int))).setCell ⟨b5, 2, none⟩ (.slice (some ⟨X, 0, none⟩) (n * n) (n * n))).heap.size := by simp only [World.size_setCell]; exact Nat.le_refl _
                refine hK.out _ _ TA (fun _ => ?_)
                clear hK TQ
                generalize (((V4.setCell ⟨b5, 0, none⟩ (.int .i64 (n : Int))).setCell ⟨b5, 1, none⟩ (.int .i64 (n : Int))).setCell ⟨b5, 2, none⟩ (.slice (some ⟨X, 0, none⟩) (n * n) (n * n))) = V5 at *
                try simp only [Act.put, List.setIfInBounds_toArray, List.set_cons_zero, List.set_cons_succ]
                obtain ⟨u0, u1, u2, u3, u4, u5⟩ := T6
                have TQ : Three V5 b6 _ _ _ := ⟨u0, u1, u2, u3, u4, u5⟩
                refine wpAnyH_ready (rs := [9]) (by kernel_rfl) (by simp) ?_
                refine AllReadyH.cons rfl (fun K hK => ?_) AllReadyH.nil
                rw [if_pos (by rfl)]
                go_simp
                clear u0 u1 u2 u3 u4 u5
                have T6 := three_put TQ (.int .i64 (n : Int)) (.int .i64 (n : Int)) (.slice (some ⟨Y, 0, none⟩) (n * n) (n * n))
                have T5 := three_cell (three_cell (three_cell T5 (d := ⟨b6, 0, none⟩) (u := .int .i64 (n : Int)) (by dsimp only; omega)) (d := ⟨b6, 1, none⟩) (u := .int .i64 (n : Int)) (by dsimp only; omega)) (d := ⟨b6, 2, none⟩) (u := .slice (some ⟨Y, 0, none⟩) (n * n) (n * n)) (by dsimp only; omega)
                have TA := three_cell (three_cell (three_cell TA (d := ⟨b6, 0, none⟩) (u := .int .i64 (n : Int)) (by dsimp only; omega)) (d := ⟨b6, 1, none⟩) (u := .int .i64 (n : Int)) (by dsimp only; omega)) (d := ⟨b6, 2, none⟩) (u := .slice (some ⟨Y, 0, none⟩) (n * n) (n * n)) (by dsimp only; omega)
                have hbX := three_apart (b := b6) (x := .int .i64 (n : Int)) (y := .int .i64 (n : Int)) (z := .slice (some ⟨Y, 0, none⟩) (n * n) (n * n)) hbX (by omega)
                have hX2 : X < (((V5.setCell ⟨b6, 0, none⟩ (.int .i64 (n : Int))).setCell ⟨b6, 1, none⟩ (.int .i64 (n : Int))).setCell ⟨b6, 2, none⟩ (.slice (some ⟨Y, 0, none⟩) (n * n) (n * n))).heap.size := by simp only [World.size_setCell]; exact hX2
                have hbY := three_apart (b := b6) (x := .int .i64 (n : Int)) (y := .int .i64 (n : Int)) (z := .slice (some ⟨Y, 0, none⟩) (n * n) (n * n)) hbY (by omega)
                have hY2 : Y < (((V5.setCell ⟨b6, 0, none⟩ (.int .i64 (n : Int))).setCell ⟨b6, 1, none⟩ (.int .i64 (n : Int))).setCell ⟨b6, 2, none⟩ (.slice (some ⟨Y, 0, none⟩) (n * n) (n * n))).heap.size := by simp only [World.size_setCell]; exact hY2
                have HB := ((HB.setCell (p := ⟨b6, 0, none⟩) (by dsimp only; omega) (.int .i64 (n : Int))).setCell (p := ⟨b6, 1, none⟩) (by dsimp only; omega) (.int .i64 (n : Int))).setCell (p := ⟨b6, 2, none⟩) (by dsimp only; omega) (.slice (some ⟨Y, 0, none⟩) (n * n) (n * n))
                have hss : V5.heap.size ≤ (((V5.setCell ⟨b6, 0, none⟩ (.int .i64 (n : Int))).setCell ⟨b6, 1, none⟩ (.int .i64 (n : Int))).setCell ⟨b6, 2, none⟩ (.slice (some ⟨Y, 0, none⟩) (n * n) (n * n))).heap.size := by simp only [World.size_setCell]; exact Nat.le_refl _
                refine hK.out _ _ TA (fun _ => ?_)
                clear hK TQ
                generalize (((V5.setCell ⟨b6, 0, none⟩ (.int .i64 (n : Int))).setCell ⟨b6, 1, none⟩ (.int .i64 (n : Int))).setCell ⟨b6, 2, none⟩ (.slice (some ⟨Y, 0, none⟩) (n * n) (n * n))) = V6 at *
                try simp only [Act.put, List.setIfInBounds_toArray, List.set_cons_zero, List.set_cons_succ]
                refine wpAnyH_done (by kernel_rfl) ?_ _
                go_wp2_with fail
                go_meet
                exact ⟨b5, b6, X, Y, ms, ns, rfl, rfl, ⟨T5, T6, hbX, hbY, hlX, hlY, hX2, hY2, by omega, by omega, by omega, by omega, by omega, by omega, by omega, HB⟩⟩
              · rw [if_pos (by rfl)]
                go_simp
                have T6 := Three.new V2 (.int .i64 0) (.int .i64 0) (.slice none 0 0) 30
                have hbe := (Below.refl V2.heap.size V2).alloc (Nat.le_refl _) (.cells #[.int .i64 0, .int .i64 0, .slice none 0 0] 30)
                have hsb6 : V2.heap.size < (V2.alloc (.cells #[.int .i64 0, .int .i64 0, .slice none 0 0] 30)).heap.size := by simp
                have hwb6 := HB.size
                have hXob6 := hX2
                have hYob6 := hY2
                have hbX := blk_below hbX hX2 hbe
                replace hX2 := Nat.lt_of_lt_of_le hX2 hbe.size
                have hbY := blk_below hbY hY2 hbe
                replace hY2 := Nat.lt_of_lt_of_le hY2 hbe.size
                have TA := TA.below hbe
                have HB := HB.trans (hbe.mono HB.size)
                have hss := hbe.size
                refine hK.out _ _ TA (fun _ => ?_)
                clear hK hbe
                generalize V2.alloc (.cells #[.int .i64 0, .int .i64 0, .slice none 0 0] 30) = V3 at *
                generalize V2.heap.size = b6 at *
                try simp only [Act.put, List.setIfInBounds_toArray, List.set_cons_zero, List.set_cons_succ]
                refine wpAnyH_ready (rs := [6]) (by kernel_rfl) (by simp) ?_
                refine AllReadyH.cons rfl (fun K hK => ?_) AllReadyH.nil
                rw [if_pos (by rfl)]
                go_simp
                have T5 := Three.new V3 (.int .i64 0) (.int .i64 0) (.slice none 0 0) 30
                have hbe := (Below.refl V3.heap.size V3).alloc (Nat.le_refl _) (.cells #[.int .i64 0, .int .i64 0, .slice none 0 0] 30)
                have hsb5 : V3.heap.size < (V3.alloc (.cells #[.int .i64 0, .int .i64 0, .slice none 0 0] 30)).heap.size := by simp
                have hwb5 := HB.size
                have hXob5 := hX2
                have hYob5 := hY2
                have T6 := T6.below hbe
                have hbX := blk_below hbX hX2 hbe
                replace hX2 := Nat.lt_of_lt_of_le hX2 hbe.size
                have hbY := blk_below hbY hY2 hbe
                replace hY2 := Nat.lt_of_lt_of_le hY2 hbe.size
                have TA := TA.below hbe
                have HB := HB.trans (hbe.mono HB.size)
                have hss := hbe.size
                refine hK.out _ _ TA (fun _ => ?_)
                clear hK hbe
                generalize V3.alloc (.cells #[.int .i64 0, .int .i64 0, .slice none 0 0] 30) = V4 at *
                generalize V3.heap.size = b5 at *
                try simp only [Act.put, List.setIfInBounds_toArray, List.set_cons_zero, List.set_cons_succ]
                obtain ⟨u0, u1, u2, u3, u4, u5⟩ := T5
                have TQ : Three V4 b5 _ _ _ := ⟨u0, u1, u2, u3, u4, u5⟩
                refine wpAnyH_ready (rs := [8]) (by kernel_rfl) (by simp) ?_
                refine AllReadyH.cons rfl (fun K hK => ?_) AllReadyH.nil
                rw [if_pos (by rfl)]
                go_simp
                clear u0 u1 u2 u3 u4 u5
                have T5 := three_put TQ (.int .i64 (n : Int)) (.int .i64 (n : Int)) (.slice (some ⟨X, 0, none⟩) (n * n) (n * n))
                have T6 := three_cell (three_cell (three_cell T6 (d := ⟨b5, 0, none⟩) (u := .int .i64 (n : Int)) (by dsimp only; omega)) (d := ⟨b5, 1, none⟩) (u := .int .i64 (n : Int)) (by dsimp only; omega)) (d := ⟨b5, 2, none⟩) (u := .slice (some ⟨X, 0, none⟩) (n * n) (n * n)) (by dsimp only; omega)
                have TA := three_cell (three_cell (three_cell TA (d := ⟨b5, 0, none⟩) (u := .int .i64 (n : Int)) (by dsimp only; omega)) (d := ⟨b5, 1, none⟩) (u := .int .i64 (n : Int)) (by dsimp only; omega)) (d := ⟨b5, 2, none⟩) (u := .slice (some ⟨X, 0, none⟩) (n * n) (n * n)) (by dsimp only; omega)
                have hbX := three_apart (b := b5) (x := .int .i64 (n : Int)) (y := .int .i64 (n : Int)) (z := .slice (some ⟨X, 0, none⟩) (n * n) (n * n)) hbX (by omega)
                have hX2 : X < (((V4.setCell ⟨b5, 0, none⟩ (.int .i64 (n : Int))).setCell ⟨b5, 1, none⟩ (.int .i64 (n : Int))).setCell ⟨b5, 2, none⟩ (.slice (some ⟨X, 0, none⟩) (n * n) (n * n))).heap.size := by simp only [World.size_setCell]; exact hX2
                have hbY := three_apart (b := b5) (x := .int .i64 (n : Int)) (y := .int .i64 (n : Int)) (z := .slice (some ⟨X, 0, none⟩) (n * n) (n * n)) hbY (by omega)
                have hY2 : Y < (((V4.setCell ⟨b5, 0, none⟩ (.int .i64 (n : Int))).setCell ⟨b5, 1, none⟩ (.int .i64 (n : Int))).setCell ⟨b5, 2, none⟩ (.slice (some ⟨X, 0, none⟩) (n * n) (n * n))).heap.size := by simp only [World.size_setCell]; exact hY2
                have HB := ((HB.setCell (p := ⟨b5, 0, none⟩) (by dsimp only; omega) (.int .i64 (n : Int))).setCell (p := ⟨b5, 1, none⟩) (by dsimp only; omega) (.int .i64 (n : Int))).setCell (p := ⟨b5, 2, none⟩) (by dsimp only; omega) (.slice (some ⟨X, 0, none⟩) (n * n) (n * n))
                have hss : V4.heap.size ≤ (((V4.setCell ⟨b5, 0, none⟩ (.int .i64 (n : Int))).setCell ⟨b5, 1, none⟩ (.int .i64 (n : Int))).setCell ⟨b5, 2, none⟩ (.slice (some ⟨X, 0, none⟩) (n * n) (n * n))).heap.size := by simp only [World.size_setCell]; exact Nat.le_refl _
                refine hK.out _ _ TA (fun _ => ?_)
                clear hK TQ
                generalize (((V4.setCell ⟨b5, 0, none⟩ (.int .i64 (n : Int))).setCell ⟨b5, 1, none⟩ (.int .i64 (n : Int))).setCell ⟨b5, 2, none⟩ (.slice (some ⟨X, 0, none⟩) (n * n) (n * n))) = V5 at *
                try simp only [Act.put, List.setIfInBounds_toArray, List.set_cons_zero, List.set_cons_succ]
                obtain ⟨u0, u1, u2, u3, u4, u5⟩ := T6
                have TQ : Three V5 b6 _ _ _ := ⟨u0, u1, u2, u3, u4, u5⟩
                refine wpAnyH_ready (rs := [9]) (by kernel_rfl) (by simp) ?_
                refine AllReadyH.cons rfl (fun K hK => ?_) AllReadyH.nil
                rw [if_pos (by rfl)]
                go_simp
                clear u0 u1 u2 u3 u4 u5
                have T6 := three_put TQ (.int .i64 (n : Int)) (.int .i64 (n : Int)) (.slice (some ⟨Y, 0, none⟩) (n * n) (n * n))
                have T5 := three_cell (three_cell (three_cell T5 (d := ⟨b6, 0, none⟩) (u := .int .i64 (n : Int)) (by dsimp only; omega)) (d := ⟨b6, 1, none⟩) (u := .int .i64 (n : Int)) (by dsimp only; omega)) (d := ⟨b6, 2, none⟩) (u := .slice (some ⟨Y, 0, none⟩) (n * n) (n * n)) (by dsimp only; omega)
                have TA := three_cell (three_cell (three_cell TA (d := ⟨b6, 0, none⟩) (u := .int .i64 (n : Int)) (by dsimp only; omega)) (d := ⟨b6, 1, none⟩) (u := .int .i64 (n : Int)) (by dsimp only; omega)) (d := ⟨b6, 2, none⟩) (u := .slice (some ⟨Y, 0, none⟩) (n * n) (n * n)) (by dsimp only; omega)
                have hbX := three_apart (b := b6) (x := .int .i64 (n : Int)) (y := .int .i64 (n : Int)) (z := .slice (some ⟨Y, 0, none⟩) (n * n) (n * n)) hbX (by omega)
                have hX2 : X < (((V5.setCell ⟨b6, 0, none⟩ (.int .i64 (n : Int))).setCell ⟨b6, 1, none⟩ (.int .i64 (n : Int))).setCell ⟨b6, 2, none⟩ (.slice (some ⟨Y, 0, none⟩) (n * n) (n * n))).heap.size := by simp only [World.size_setCell]; exact hX2
                have hbY := three_apart (b := b6) (x := .int .i64 (n : Int)) (y := .int .i64 (n : Int)) (z := .slice (some ⟨Y, 0, none⟩) (n * n) (n * n)) hbY (by omega)
                have hY2 : Y < (((V5.setCell ⟨b6, 0, none⟩ (.int .i64 (n : Int))).setCell ⟨b6, 1, none⟩ (.int .i64 (n : Int))).setCell ⟨b6, 2, none⟩ (.slice (some ⟨Y, 0, none⟩) (n * n) (n * n))).heap.size := by simp only [World.size_setCell]; exact hY2
                have HB := ((HB.setCell (p := ⟨b6, 0, none⟩) (by dsimp only; omega) (.int .i64 (n : Int))).setCell (p := ⟨b6, 1, none⟩) (by dsimp only; omega) (.int .i64 (n : Int))).setCell (p := ⟨b6, 2, none⟩) (by dsimp only; omega) (.slice (some ⟨Y, 0, none⟩) (n * n) (n * n))
                have hss : V5.heap.size ≤ (((V5.setCell ⟨b6, 0, none⟩ (.int .i64 (n : Int))).setCell ⟨b6, 1, none⟩ (.int .i64 (n : Int))).setCell ⟨b6, 2, none⟩ (.slice (some ⟨Y, 0, none⟩) (n * n) (n * n))).heap.size := by simp only [World.size_setCell]; exact Nat.le_refl _
                refine hK.out _ _ TA (fun _ => ?_)
                clear hK TQ
                generalize (((V5.setCell ⟨b6, 0, none⟩ (.int .i64 (n : Int))).setCell ⟨b6, 1, none⟩ (.int .i64 (n : Int))).setCell ⟨b6, 2, none⟩ (.slice (some ⟨Y, 0, none⟩) (n * n) (n * n))) = V6 at *
                try simp only [Act.put, List.setIfInBounds_toArray, List.set_cons_zero, List.set_cons_succ]
                refine wpAnyH_done (by kernel_rfl) ?_ _
                go_wp2_with fail
                go_meet
                exact ⟨b5, b6, X, Y, ms, ns, rfl, rfl, ⟨T5, T6, hbX, hbY, hlX, hlY, hX2, hY2, by omega, by omega, by omega, by omega, by omega, by omega, by omega, HB⟩⟩
            · rw [if_pos (by rfl)]
              go_simp
              have T5 := Three.new V1 (.int .i64 0) (.int .i64 0) (.slice none 0 0) 30
              have hbe := (Below.refl V1.heap.size V1).alloc (Nat.le_refl _) (.cells #[.int .i64 0, .int .i64 0, .slice none 0 0] 30)
              have hsb5 : V1.heap.size < (V1.alloc (.cells #[.int .i64 0, .int .i64 0, .slice none 0 0] 30)).heap.size := by simp
              have hwb5 := HB.size
              have hXob5 := hX2
              have hbX := blk_below hbX hX2 hbe
              replace hX2 := Nat.lt_of_lt_of_le hX2 hbe.size
              have TA := TA.below hbe
              have HB := HB.trans (hbe.mono HB.size)
              have hss := hbe.size
              refine hK.out _ _ TA (fun _ => ?_)
              clear hK hbe
              generalize V1.alloc (.cells #[.int .i64 0, .int .i64 0, .slice none 0 0] 30) = V2 at *
              generalize V1.heap.size = b5 at *
              try simp only [Act.put, List.setIfInBounds_toArray, List.set_cons_zero, List.set_cons_succ]
              refine wpAnyH_ready (rs := [5, 7]) (by kernel_rfl) (by simp) ?_
              refine AllReadyH.cons rfl (fun K hK => ?_) (AllReadyH.cons rfl (fun K hK => ?_) AllReadyH.nil)
              · rw [if_pos (by rfl)]
                go_simp
                have hsq := square_any (.slice A l.length c) (.slice zp zl zc) (.slice pL ss.length kL) l n 3 V2 (HM1.out.below HB) hn1 hn8 (by omega)
                rw [show ((3 : Nat) : Int) = 3 from rfl] at hsq
                refine hsq.mono ?_
                clear hsq
                rintro e V3 ⟨v, ns, rfl, ⟨Y, hY1, hY2, rfl, hbY, hlY⟩, hbe⟩
                have T5 := T5.below hbe
                have hbX := blk_below hbX hX2 hbe
                replace hX2 := Nat.lt_of_lt_of_le hX2 hbe.size
                have TA := TA.below hbe
                have HB := HB.trans (hbe.mono HB.size)
                have hss := hbe.size
                refine hK.out _ _ TA (fun _ => ?_)
                clear hK hbe
                unfold matV
                try simp only [Act.put, List.setIfInBounds_toArray, List.set_cons_zero, List.set_cons_succ]
                refine wpAnyH_ready (rs := [7]) (by kernel_rfl) (by simp) ?_
                refine AllReadyH.cons rfl (fun K hK => ?_) AllReadyH.nil
                rw [if_pos (by rfl)]
                go_simp
                have T6 := Three.new V3 (.int .i64 0) (.int .i64 0) (.slice none 0 0) 30
                have hbe := (Below.refl V3.heap.size V3).alloc (Nat.le_refl _) (.cells #[.int .i64 0, .int .i64 0, .slice none 0 0] 30)
                have hsb6 : V3.heap.size < (V3.alloc (.cells #[.int .i64 0, .int .i64 0, .slice none 0 0] 30)).heap.size := by simp
                have hwb6 := HB.size
                have hXob6 := hX2
                have hYob6 := hY2
                have T5 := T5.below hbe
                have hbX := blk_below hbX hX2 hbe
                replace hX2 := Nat.lt_of_lt_of_le hX2 hbe.size
                have hbY := blk_below hbY hY2 hbe
                replace hY2 := Nat.lt_of_lt_of_le hY2 hbe.size
                have TA := TA.below hbe
                have HB := HB.trans (hbe.mono HB.size)
                have hss := hbe.size
                refine hK.out _ _ TA (fun _ => ?_)
                clear hK hbe
                generalize V3.alloc (.cells #[.int .i64 0, .int .i64 0, .slice none 0 0] 30) = V4 at *
                generalize V3.heap.size = b6 at *
                try simp only [Act.put, List.setIfInBounds_toArray, List.set_cons_zero, List.set_cons_succ]
                obtain ⟨u0, u1, u2, u3, u4, u5⟩ := T5
                have TQ : Three V4 b5 _ _ _ := ⟨u0, u1, u2, u3, u4, u5⟩
                refine wpAnyH_ready (rs := [8]) (by kernel_rfl) (by simp) ?_
                refine AllReadyH.cons rfl (fun K hK => ?_) AllReadyH.nil
                rw [if_pos (by rfl)]
                go_simp
                clear u0 u1 u2 u3 u4 u5
                have T5 := three_put TQ (.int .i64 (n : Int)) (.int .i64 (n : Int)) (.slice (some ⟨X, 0, none⟩) (n * n) (n * n))
                have T6 := three_cell (three_cell (three_cell T6 (d := ⟨b5, 0, none⟩) (u := .int .i64 (n : Int)) (by dsimp only; omega)) (d := ⟨b5, 1, none⟩) (u := .int .i64 (n : Int)) (by dsimp only; omega)) (d := ⟨b5, 2, none⟩) (u := .slice (some ⟨X, 0, none⟩) (n * n) (n * n)) (by dsimp only; omega)
                have TA := three_cell (three_cell (three_cell TA (d := ⟨b5, 0, none⟩) (u := .int .i64 (n : Int)) (by dsimp only; omega)) (d := ⟨b5, 1, none⟩) (u := .int .i64 (n : Int)) (by dsimp only; omega)) (d := ⟨b5, 2, none⟩) (u := .slice (some ⟨X, 0, none⟩) (n * n) (n * n)) (by dsimp only; omega)
                have hbX := three_apart (b := b5) (x := .int .i64 (n : Int)) (y := .int .i64 (n : Int)) (z := .slice (some ⟨X, 0, none⟩) (n * n) (n * n)) hbX (by omega)
                have hX2 : X < (((V4.setCell ⟨b5, 0, none⟩ (.int .i64 (n : Int))).setCell ⟨b5, 1, none⟩ (.int .i64 (n : Int))).setCell ⟨b5, 2, none⟩ (.slice (some ⟨X, 0, none⟩) (n * n) (n * n))).heap.size := by simp only [World.size_setCell]; exact hX2
                have hbY := three_apart (b := b5) (x := .int .i64 (n : Int)) (y := .int .i64 (n : Int)) (z := .slice (some ⟨X, 0, none⟩) (n * n) (n * n)) hbY (by omega)
                have hY2 : Y < (((V4.setCell ⟨b5, 0, none⟩ (.int .i64 (n : Int))).setCell ⟨b5, 1, none⟩ (.int .i64 (n : Int))).setCell ⟨b5, 2, none⟩ (.slice (some ⟨X, 0, none⟩) (n * n) (n * n))).heap.size := by simp only [World.size_setCell]; exact hY2
                have HB := ((HB.setCell (p := ⟨b5, 0, none⟩) (by dsimp only; omega) (.int .i64 (n : Int))).setCell (p := ⟨b5, 1, none⟩) (by dsimp only; omega) (.int .i64 (n : Int))).setCell (p := ⟨b5, 2, none⟩) (by dsimp only; omega) (.slice (some ⟨X, 0, none⟩) (n * n) (n * n))
                have hss : V4.heap.size ≤ (((V4.setCell ⟨b5, 0, none⟩ (.int .i64 (n : Int))).setCell ⟨b5, 1, none⟩ (.int .i64 (n : Int))).setCell ⟨b5, 2, none⟩ (.slice (some ⟨X, 0, none⟩) (n * n) (n * n))).heap.size := by simp only [World.size_setCell]; exact Nat.le_refl _
                refine hK.out _ _ TA (fun _ => ?_)
                clear hK TQ
                generalize (((V4.setCell ⟨b5, 0, none⟩ (.int .i64 (n : Int))).setCell ⟨b5, 1, none⟩ (.int .i64 (n : Int))).setCell ⟨b5, 2, none⟩ (.slice (some ⟨X, 0, none⟩) (n * n) (n * n))) = V5 at *
                try simp only [Act.put, List.setIfInBounds_toArray, List.set_cons_zero, List.set_cons_succ]
                obtain ⟨u0, u1, u2, u3, u4, u5⟩ := T6
                have TQ : Three V5 b6 _ _ _ := ⟨u0, u1, u2, u3, u4, u5⟩
                refine wpAnyH_ready (rs := [9]) (by kernel_rfl) (by simp) ?_
                refine AllReadyH.cons rfl (fun K hK => ?_) AllReadyH.nil
                rw [if_pos (by rfl)]
                go_simp
                clear u0 u1 u2 u3 u4 u5
                have T6 := three_put TQ (.int .i64 (n : Int)) (.int .i64 (n : Int)) (.slice (some ⟨Y, 0, none⟩) (n * n) (n * n))
                have T5 := three_cell (three_cell (three_cell T5 (d := ⟨b6, 0, none⟩) (u := .int .i64 (n : Int)) (by dsimp only; omega)) (d := ⟨b6, 1, none⟩) (u := .int .i64 (n : Int)) (by dsimp only; omega)) (d := ⟨b6, 2, none⟩) (u := .slice (some ⟨Y, 0, none⟩) (n * n) (n * n)) (by dsimp only; omega)
                have TA := three_cell (three_cell (three_cell TA (d := ⟨b6, 0, none⟩) (u := .int .i64 (n : Int)) (by dsimp only; omega)) (d := ⟨b6, 1, none⟩) (u := .int .i64 (n : Int)) (by dsimp only; omega)) (d := ⟨b6, 2, none⟩) (u := .slice (some ⟨Y, 0, none⟩) (n * n) (n * n)) (by dsimp only; omega)
                have hbX := three_apart (b := b6) (x := .int .i64 (n : Int)) (y := .int .i64 (n : Int)) (z := .slice (some ⟨Y, 0, none⟩) (n * n) (n * n)) hbX (by omega)
                have hX2 : X < (((V5.setCell ⟨b6, 0, none⟩ (.int .i64 (n : Int))).setCell ⟨b6, 1, none⟩ (.int .i64 (n : Int))).setCell ⟨b6, 2, none⟩ (.slice (some ⟨Y, 0, none⟩) (n * n) (n * n))).heap.size := by simp only [World.size_setCell]; exact hX2
                have hbY := three_apart (b := b6) (x := .int .i64 (n : Int)) (y := .int .i64 (n : Int)) (z := .slice (some ⟨Y, 0, none⟩) (n * n) (n * n)) hbY (by omega)
                have hY2 : Y < (((V5.setCell ⟨b6, 0, none⟩ (.int .i64 (n : Int))).setCell ⟨b6, 1, none⟩ (.int .i64 (n : Int))).setCell ⟨b6, 2, none⟩ (.slice (some ⟨Y, 0, none⟩) (n * n) (n * n))).heap.size := by simp only [World.size_setCell]; exact hY2
                have HB := ((HB.setCell (p := ⟨b6, 0, none⟩) (by dsimp only; omega) (.int .i64 (n : Int))).setCell (p := ⟨b6, 1, none⟩) (by dsimp only; omega) (.int .i64 (n : Int))).setCell (p := ⟨b6, 2, none⟩) (by dsimp only; omega) (.slice (some ⟨Y, 0, none⟩) (n * n) (n * n))
                have hss : V5.heap.size ≤ (((V5.setCell ⟨b6, 0, none⟩ (.int .i64 (n : Int))).setCell ⟨b6, 1, none⟩ (.int .i64 (n : Int))).setCell ⟨b6, 2, none⟩ (.slice (some ⟨Y, 0, none⟩) (n * n) (n * n))).heap.size := by simp only [World.size_setCell]; exact Nat.le_refl _
                refine hK.out _ _ TA (fun _ => ?_)
                clear hK TQ
                generalize (((V5.setCell ⟨b6, 0, none⟩ (.int .i64 (n : Int))).setCell ⟨b6, 1, none⟩ (.int .i64 (n : Int))).setCell ⟨b6, 2, none⟩ (.slice (some ⟨Y, 0, none⟩) (n * n) (n * n))) = V6 at *
                try simp only [Act.put, List.setIfInBounds_toArray, List.set_cons_zero, List.set_cons_succ]
                refine wpAnyH_done (by kernel_rfl) ?_ _
                go_wp2_with fail
                go_meet
                exact ⟨b5, b6, X, Y, ms, ns, rfl, rfl, ⟨T5, T6, hbX, hbY, hlX, hlY, hX2, hY2, by omega, by omega, by omega, by omega, by omega, by omega, by omega, HB⟩⟩
              · rw [if_pos (by rfl)]
                go_simp
                have T6 := Three.new V2 (.int .i64 0) (.int .i64 0) (.slice none 0 0) 30
                have hbe := (Below.refl V2.heap.size V2).alloc (Nat.le_refl _) (.cells #[.int .i64 0, .int .i64 0, .slice none 0 0] 30)
                have hsb6 : V2.heap.size < (V2.alloc (.cells #[.int .i64 0, .int .i64 0, .slice none 0 0] 30)).heap.size := by simp
                have hwb6 := HB.size
                have hXob6 := hX2
                have T5 := T5.below hbe
                have hbX := blk_below hbX hX2 hbe
                replace hX2 := Nat.lt_of_lt_of_le hX2 hbe.size
                have TA := TA.below hbe
                have HB := HB.trans (hbe.mono HB.size)
                have hss := hbe.size
                refine hK.out _ _ TA (fun _ => ?_)
                clear hK hbe
                generalize V2.alloc (.cells #[.int .i64 0, .int .i64 0, .slice none 0 0] 30) = V3 at *
                generalize V2.heap.size = b6 at *
                try simp only [Act.put, List.setIfInBounds_toArray, List.set_cons_zero, List.set_cons_succ]
                refine wpAnyH_ready (rs := [5]) (by kernel_rfl) (by simp) ?_
                refine AllReadyH.cons rfl (fun K hK => ?_) AllReadyH.nil
                rw [if_pos (by rfl)]
                go_simp
                have hsq := square_any (.slice A l.length c) (.slice zp zl zc) (.slice pL ss.length kL) l n 3 V3 (HM1.out.below HB) hn1 hn8 (by omega)
                rw [show ((3 : Nat) : Int) = 3 from rfl] at hsq
                refine hsq.mono ?_
                clear hsq
                rintro e V4 ⟨v, ns, rfl, ⟨Y, hY1, hY2, rfl, hbY, hlY⟩, hbe⟩
                have T5 := T5.below hbe
                have T6 := T6.below hbe
                have hbX := blk_below hbX hX2 hbe
                replace hX2 := Nat.lt_of_lt_of_le hX2 hbe.size
                have TA := TA.below hbe
                have HB := HB.trans (hbe.mono HB.size)
                have hss := hbe.size
                refine hK.out _ _ TA (fun _ => ?_)
                clear hK hbe
                unfold matV
                try simp only [Act.put, List.setIfInBounds_toArray, List.set_cons_zero, List.set_cons_succ]
                obtain ⟨u0, u1, u2, u3, u4, u5⟩ := T5
                have TQ : Three V4 b5 _ _ _ := ⟨u0, u1, u2, u3, u4, u5⟩
                refine wpAnyH_ready (rs := [8]) (by kernel_rfl) (by simp) ?_
                refine AllReadyH.cons rfl (fun K hK => ?_) AllReadyH.nil
                rw [if_pos (by rfl)]
                go_simp
                clear u0 u1 u2 u3 u4 u5
                have T5 := three_put TQ (.int .i64 (n : Int)) (.int .i64 (n : Int)) (.slice (some ⟨X, 0, none⟩) (n * n) (n * n))
                have T6 := three_cell (three_cell (three_cell T6 (d := ⟨b5, 0, none⟩) (u := .int .i64 (n : Int)) (by dsimp only; omega)) (d := ⟨b5, 1, none⟩) (u := .int .i64 (n : Int)) (by dsimp only; omega)) (d := ⟨b5, 2, none⟩) (u := .slice (some ⟨X, 0, none⟩) (n * n) (n * n)) (by dsimp only; omega)
                have TA := three_cell (three_cell (three_cell TA (d := ⟨b5, 0, none⟩) (u := .int .i64 (n : Int)) (by dsimp only; omega)) (d := ⟨b5, 1, none⟩) (u := .int .i64 (n : Int)) (by dsimp only; omega)) (d := ⟨b5, 2, none⟩) (u := .slice (some ⟨X, 0, none⟩) (n * n) (n * n)) (by dsimp only; omega)
                have hbX := three_apart (b := b5) (x := .int .i64 (n : Int)) (y := .int .i64 (n : Int)) (z := .slice (some ⟨X, 0, none⟩) (n * n) (n * n)) hbX (by omega)
                have hX2 : X < (((V4.setCell ⟨b5, 0, none⟩ (.int .i64 (n : Int))).setCell ⟨b5, 1, none⟩ (.int .i64 (n : Int))).setCell ⟨b5, 2, none⟩ (.slice (some ⟨X, 0, none⟩) (n * n) (n * n))).heap.size := by simp only [World.size_setCell]; exact hX2
                have hbY := three_apart (b := b5) (x := .int .i64 (n : Int)) (y := .int .i64 (n : Int)) (z := .slice (some ⟨X, 0, none⟩) (n * n) (n * n)) hbY (by omega)
                have hY2 : Y < (((V4.setCell ⟨b5, 0, none⟩ (.int .i64 (n : Int))).setCell ⟨b5, 1, none⟩ (.int .i64 (n : Int))).setCell ⟨b5, 2, none⟩ (.slice (some ⟨X, 0, none⟩) (n * n) (n * n))).heap.size := by simp only [World.size_setCell]; exact hY2
                have HB := ((HB.setCell (p := ⟨b5, 0, none⟩) (by dsimp only; omega) (.int .i64 (n : Int))).setCell (p := ⟨b5, 1, none⟩) (by dsimp only; omega) (.int .i64 (n : Int))).setCell (p := ⟨b5, 2, none⟩) (by dsimp only; omega) (.slice (some ⟨X, 0, none⟩) (n * n) (n * n))
                have hss : V4.heap.size ≤ (((V4.setCell ⟨b5, 0, none⟩ (.int .i64 (n : Int))).setCell ⟨b5, 1, none⟩ (.int .i64 (n : Int))).setCell ⟨b5, 2, none⟩ (.slice (some ⟨X, 0, none⟩) (n * n) (n * n))).heap.size := by simp only [World.size_setCell]; exact Nat.le_refl _
                refine hK.out _ _ TA (fun _ => ?_)
                clear hK TQ
                generalize (((V4.setCell ⟨b5, 0, none⟩ (.int .i64 (n : Int))).setCell ⟨b5, 1, none⟩ (.int .i64 (n : Int))).setCell ⟨b5, 2, none⟩ (.slice (some ⟨X, 0, none⟩) (n * n) (n * n))) = V5 at *
                try simp only [Act.put, List.setIfInBounds_toArray, List.set_cons_zero, List.set_cons_succ]
                obtain ⟨u0, u1, u2, u3, u4, u5⟩ := T6
                have TQ : Three V5 b6 _ _ _ := ⟨u0, u1, u2, u3, u4, u5⟩
                refine wpAnyH_ready (rs := [9]) (by kernel_rfl) (by simp) ?_
                refine AllReadyH.cons rfl (fun K hK => ?_) AllReadyH.nil
                rw [if_pos (by rfl)]
                go_simp
                clear u0 u1 u2 u3 u4 u5
                have T6 := three_put TQ (.int .i64 (n : Int)) (.int .i64 (n : Int)) (.slice (some ⟨Y, 0, none⟩) (n * n) (n * n))
                have T5 := three_cell (three_cell (three_cell T5 (d := ⟨b6, 0, none⟩) (u := .int .i64 (n : Int)) (by dsimp only; omega)) (d := ⟨b6, 1, none⟩) (u := .int .i64 (n : Int)) (by dsimp only; omega)) (d := ⟨b6, 2, none⟩) (u := .slice (some ⟨Y, 0, none⟩) (n * n) (n * n)) (by dsimp only; omega)
                have TA := three_cell (three_cell (three_cell TA (d := ⟨b6, 0, none⟩) (u := .int .i64 (n : Int)) (by dsimp only; omega)) (d := ⟨b6, 1, none⟩) (u := .int .i64 (n : Int)) (by dsimp only; omega)) (d := ⟨b6, 2, none⟩) (u := .slice (some ⟨Y, 0, none⟩) (n * n) (n * n)) (by dsimp only; omega)
                have hbX := three_apart (b := b6) (x := .int .i64 (n : Int)) (y := .int .i64 (n : Int)) (z := .slice (some ⟨Y, 0, none⟩) (n * n) (n * n)) hbX (by omega)
                have hX2 : X < (((V5.setCell ⟨b6, 0, none⟩ (.int .i64 (n : Int))).setCell ⟨b6, 1, none⟩ (.int .i64 (n : Int))).setCell ⟨b6, 2, none⟩ (.slice (some ⟨Y, 0, none⟩) (n * n) (n * n))).heap.size := by simp only [World.size_setCell]; exact hX2
                have hbY := three_apart (b := b6) (x := .int .i64 (n : Int)) (y := .int .i64 (n : Int)) (z := .slice (some ⟨Y, 0, none⟩) (n * n) (n * n)) hbY (by omega)
                have hY2 : Y < (((V5.setCell ⟨b6, 0, none⟩ (.int .i64 (n : Int))).setCell ⟨b6, 1, none⟩ (.int .i64 (n : Int))).setCell ⟨b6, 2, none⟩ (.slice (some ⟨Y, 0, none⟩) (n * n) (n * n))).heap.size := by simp only [World.size_setCell]; exact hY2
                have HB := ((HB.setCell (p := ⟨b6, 0, none⟩) (by dsimp only; omega) (.int .i64 (n : Int))).setCell (p := ⟨b6, 1, none⟩) (by dsimp only; omega) (.int .i64 (n : Int))).setCell (p := ⟨b6, 2, none⟩) (by dsimp only; omega) (.slice (some ⟨Y, 0, none⟩) (n * n) (n * n))
                have hss : V5.heap.size ≤ (((V5.setCell ⟨b6, 0, none⟩ (.int .i64 (n : Int))).setCell ⟨b6, 1, none⟩ (.int .i64 (n : Int))).setCell ⟨b6, 2, none⟩ (.slice (some ⟨Y, 0, none⟩) (n * n) (n * n))).heap.size := by simp only [World.size_setCell]; exact Nat.le_refl _
                refine hK.out _ _ TA (fun _ => ?_)
                clear hK TQ
                generalize (((V5.setCell ⟨b6, 0, none⟩ (.int .i64 (n : Int))).setCell ⟨b6, 1, none⟩ (.int .i64 (n : Int))).setCell ⟨b6, 2, none⟩ (.slice (some ⟨Y, 0, none⟩) (n * n) (n * n))) = V6 at *
                try simp only [Act.put, List.setIfInBounds_toArray, List.set_cons_zero, List.set_cons_succ]
                refine wpAnyH_done (by kernel_rfl) ?_ _
                go_wp2_with fail
                go_meet
                exact ⟨b5, b6, X, Y, ms, ns, rfl, rfl, ⟨T5, T6, hbX, hbY, hlX, hlY, hX2, hY2, by omega, by omega, by omega, by omega, by omega, by omega, by omega, HB⟩⟩
            · rw [if_pos (by rfl)]
              go_simp
              have T6 := Three.new V1 (.int .i64 0) (.int .i64 0) (.slice none 0 0) 30
              have hbe := (Below.refl V1.heap.size V1).alloc (Nat.le_refl _) (.cells #[.int .i64 0, .int .i64 0, .slice none 0 0] 30)
              have hsb6 : V1.heap.size < (V1.alloc (.cells #[.int .i64 0, .int .i64 0, .slice none 0 0] 30)).heap.size := by simp
              have hwb6 := HB.size
              have hXob6 := hX2
              have hbX := blk_below hbX hX2 hbe
              replace hX2 := Nat.lt_of_lt_of_le hX2 hbe.size
              have TA := TA.below hbe
              have HB := HB.trans (hbe.mono HB.size)
              have hss := hbe.size
              refine hK.out _ _ TA (fun _ => ?_)
              clear hK hbe
              generalize V1.alloc (.cells #[.int .i64 0, .int .i64 0, .slice none 0 0] 30) = V2 at *
              generalize V1.heap.size = b6 at *
              try simp only [Act.put, List.setIfInBounds_toArray, List.set_cons_zero, List.set_cons_succ]
              refine wpAnyH_ready (rs := [5, 6]) (by kernel_rfl) (by simp) ?_
              refine AllReadyH.cons rfl (fun K hK => ?_) (AllReadyH.cons rfl (fun K hK => ?_) AllReadyH.nil)
              · rw [if_pos (by rfl)]
                go_simp
                have hsq := square_any (.slice A l.length c) (.slice zp zl zc) (.slice pL ss.length kL) l n 3 V2 (HM1.out.below HB) hn1 hn8 (by omega)
                rw [show ((3 : Nat) : Int) = 3 from rfl] at hsq
                refine hsq.mono ?_
                clear hsq
                rintro e V3 ⟨v, ns, rfl, ⟨Y, hY1, hY2, rfl, hbY, hlY⟩, hbe⟩
                have T6 := T6.below hbe
                have hbX := blk_below hbX hX2 hbe
                replace hX2 := Nat.lt_of_lt_of_le hX2 hbe.size
                have TA := TA.below hbe
                have HB := HB.trans (hbe.mono HB.size)
                have hss := hbe.size
                refine hK.out _ _ TA (fun _ => ?_)
                clear hK hbe
                unfold matV
                try simp only [Act.put, List.setIfInBounds_toArray, List.set_cons_zero, List.set_cons_succ]
                refine wpAnyH_ready (rs := [6]) (by kernel_rfl) (by simp) ?_
                refine AllReadyH.cons rfl (fun K hK => ?_) AllReadyH.nil
                rw [if_pos (by rfl)]
                go_simp
                have T5 := Three.new V3 (.int .i64 0) (.int .i64 0) (.slice none 0 0) 30
                have hbe := (Below.refl V3.heap.size V3).alloc (Nat.le_refl _) (.cells #[.int .i64 0, .int .i64 0, .slice none 0 0] 30)
                have hsb5 : V3.heap.size < (V3.alloc (.cells #[.int .i64 0, .int .i64 0, .slice none 0 0] 30)).heap.size := by simp
                have hwb5 := HB.size
                have hXob5 := hX2
                have hYob5 := hY2
                have T6 := T6.below hbe
                have hbX := blk_below hbX hX2 hbe
                replace hX2 := Nat.lt_of_lt_of_le hX2 hbe.size
                have hbY := blk_below hbY hY2 hbe
                replace hY2 := Nat.lt_of_lt_of_le hY2 hbe.size
                have TA := TA.below hbe
                have HB := HB.trans (hbe.mono HB.size)
                have hss := hbe.size
                refine hK.out _ _ TA (fun _ => ?_)
                clear hK hbe
                generalize V3.alloc (.cells #[.int .i64 0, .int .i64 0, .slice none 0 0] 30) = V4 at *
                generalize V3.heap.size = b5 at *
                try simp only [Act.put, List.setIfInBounds_toArray, List.set_cons_zero, List.set_cons_succ]
                obtain ⟨u0, u1, u2, u3, u4, u5⟩ := T5
                have TQ : Three V4 b5 _ _ _ := ⟨u0, u1, u2, u3, u4, u5⟩
                refine wpAnyH_ready (rs := [8]) (by kernel_rfl) (by simp) ?_
                refine AllReadyH.cons rfl (fun K hK => ?_) AllReadyH.nil
                rw [if_pos (by rfl)]
                go_simp
                clear u0 u1 u2 u3 u4 u5
                have T5 := three_put TQ (.int .i64 (n : Int)) (.int .i64 (n : Int)) (.slice (some ⟨X, 0, none⟩) (n * n) (n * n))
                have T6 := three_cell (three_cell (three_cell T6 (d := ⟨b5, 0, none⟩) (u := .int .i64 (n : Int)) (by dsimp only; omega)) (d := ⟨b5, 1, none⟩) (u := .int .i64 (n : Int)) (by dsimp only; omega)) (d := ⟨b5, 2, none⟩) (u := .slice (some ⟨X, 0, none⟩) (n * n) (n * n)) (by dsimp only; omega)
                have TA := three_cell (three_cell (three_cell TA (d := ⟨b5, 0, none⟩) (u := .int .i64 (n : Int)) (by dsimp only; omega)) (d := ⟨b5, 1, none⟩) (u := .int .i64 (n : Int)) (by dsimp only; omega)) (d := ⟨b5, 2, none⟩) (u := .slice (some ⟨X, 0, none⟩) (n * n) (n * n)) (by dsimp only; omega)
                have hbX := three_apart (b := b5) (x := .int .i64 (n : Int)) (y := .int .i64 (n : Int)) (z := .slice (some ⟨X, 0, none⟩) (n * n) (n * n)) hbX (by omega)
                have hX2 : X < (((V4.setCell ⟨b5, 0, none⟩ (.int .i64 (n : Int))).setCell ⟨b5, 1, none⟩ (.int .i64 (n : Int))).setCell ⟨b5, 2, none⟩ (.slice (some ⟨X, 0, none⟩) (n * n) (n * n))).heap.size := by simp only [World.size_setCell]; exact hX2
                have hbY := three_apart (b := b5) (x := .int .i64 (n : Int)) (y := .int .i64 (n : Int)) (z := .slice (some ⟨X, 0, none⟩) (n * n) (n * n)) hbY (by omega)
                have hY2 : Y < (((V4.setCell ⟨b5, 0, none⟩ (.int .i64 (n : Int))).setCell ⟨b5, 1, none⟩ (.int .i64 (n : Int))).setCell ⟨b5, 2, none⟩ (.slice (some ⟨X, 0, none⟩) (n * n) (n * n))).heap.size := by simp only [World.size_setCell]; exact hY2
                have HB := ((HB.setCell (p := ⟨b5, 0, none⟩) (by dsimp only; omega) (.int .i64 (n : Int))).setCell (p := ⟨b5, 1, none⟩) (by dsimp only; omega) (.int .i64 (n : Int))).setCell (p := ⟨b5, 2, none⟩) (by dsimp only; omega) (.slice (some ⟨X, 0, none⟩) (n * n) (n * n))
                have hss : V4.heap.size ≤ (((V4.setCell ⟨b5, 0, none⟩ (.int .i64 (n : Int))).setCell ⟨b5, 1, none⟩ (.int .i64 (n : Int))).setCell ⟨b5, 2, none⟩ (.slice (some ⟨X, 0, none⟩) (n * n) (n * n))).heap.size := by simp only [World.size_setCell]; exact Nat.le_refl _
                refine hK.out _ _ TA (fun _ => ?_)
                clear hK TQ
                generalize (((V4.setCell ⟨b5, 0, none⟩ (.int .i64 (n : Int))).setCell ⟨b5, 1, none⟩ (.int .i64 (n : Int))).setCell ⟨b5, 2, none⟩ (.slice (some ⟨X, 0, none⟩) (n * n) (n * n))) = V5 at *
                try simp only [Act.put, List.setIfInBounds_toArray, List.set_cons_zero, List.set_cons_succ]
                obtain ⟨u0, u1, u2, u3, u4, u5⟩ := T6
                have TQ : Three V5 b6 _ _ _ := ⟨u0, u1, u2, u3, u4, u5⟩
                refine wpAnyH_ready (rs := [9]) (by kernel_rfl) (by simp) ?_
                refine AllReadyH.cons rfl (fun K hK => ?_) AllReadyH.nil
                rw [if_pos (by rfl)]
                go_simp
                clear u0 u1 u2 u3 u4 u5
                have T6 := three_put TQ (.int .i64 (n : Int)) (.int .i64 (n : Int)) (.slice (some ⟨Y, 0, none⟩) (n * n) (n * n))
                have T5 := three_cell (three_cell (three_cell T5 (d := ⟨b6, 0, none⟩) (u := .int .i64 (n : Int)) (by dsimp only; omega)) (d := ⟨b6, 1, none⟩) (u := .int .i64 (n : Int)) (by dsimp only; omega)) (d := ⟨b6, 2, none⟩) (u := .slice (some ⟨Y, 0, none⟩) (n * n) (n * n)) (by dsimp only; omega)
                have TA := three_cell (three_cell (three_cell TA (d := ⟨b6, 0, none⟩) (u := .int .i64 (n : Int)) (by dsimp only; omega)) (d := ⟨b6, 1, none⟩) (u := .int .i64 (n : Int)) (by dsimp only; omega)) (d := ⟨b6, 2, none⟩) (u := .slice (some ⟨Y, 0, none⟩) (n * n) (n * n)) (by dsimp only; omega)
                have hbX := three_apart (b := b6) (x := .int .i64 (n : Int)) (y := .int .i64 (n : Int)) (z := .slice (some ⟨Y, 0, none⟩) (n * n) (n * n)) hbX (by omega)
                have hX2 : X < (((V5.setCell ⟨b6, 0, none⟩ (.int .i64 (n : Int))).setCell ⟨b6, 1, none⟩ (.int .i64 (n : Int))).setCell ⟨b6, 2, none⟩ (.slice (some ⟨Y, 0, none⟩) (n * n) (n * n))).heap.size := by simp only [World.size_setCell]; exact hX2
                have hbY := three_apart (b := b6) (x := .int .i64 (n : Int)) (y := .int .i64 (n : Int)) (z := .slice (some ⟨Y, 0, none⟩) (n * n) (n * n)) hbY (by omega)
                have hY2 : Y < (((V5.setCell ⟨b6, 0, none⟩ (.int .i64 (n : Int))).setCell ⟨b6, 1, none⟩ (.int .i64 (n : Int))).setCell ⟨b6, 2, none⟩ (.slice (some ⟨Y, 0, none⟩) (n * n) (n * n))).heap.size := by simp only [World.size_setCell]; exact hY2
                have HB := ((HB.setCell (p := ⟨b6, 0, none⟩) (by dsimp only; omega) (.int .i64 (n : Int))).setCell (p := ⟨b6, 1, none⟩) (by dsimp only; omega) (.int .i64 (n : Int))).setCell (p := ⟨b6, 2, none⟩) (by dsimp only; omega) (.slice (some ⟨Y, 0, none⟩) (n * n) (n * n))
                have hss : V5.heap.size ≤ (((V5.setCell ⟨b6, 0, none⟩ (.int .i64 (n : Int))).setCell ⟨b6, 1, none⟩ (.int .i64 (n : Int))).setCell ⟨b6, 2, none⟩ (.slice (some ⟨Y, 0, none⟩) (n * n) (n * n))).heap.size := by simp only [World.size_setCell]; exact Nat.le_refl _
                refine hK.out _ _ TA (fun _ => ?_)
                clear hK TQ
                generalize (((V5.setCell ⟨b6, 0, none⟩ (.int .i64 (n : Int))).setCell ⟨b6, 1, none⟩ (.int .i64 (n : Int))).setCell ⟨b6, 2, none⟩ (.slice (some ⟨Y, 0, none⟩) (n * n) (n * n))) = V6 at *
                try simp only [Act.put, List.setIfInBounds_toArray, List.set_cons_zero, List.set_cons_succ]
                refine wpAnyH_done (by kernel_rfl) ?_ _
                go_wp2_with fail
                go_meet
                exact ⟨b5, b6, X, Y, ms, ns, rfl, rfl, ⟨T5, T6, hbX, hbY, hlX, hlY, hX2, hY2, by omega, by omega, by omega, by omega, by omega, by omega, by omega, HB⟩⟩
              · rw [if_pos (by rfl)]
                go_simp
                have T5 := Three.new V2 (.int .i64 0) (.int .i64 0) (.slice none 0 0) 30
                have hbe := (Below.refl V2.heap.size V2).alloc (Nat.le_refl _) (.cells #[.int .i64 0, .int .i64 0, .slice none 0 0] 30)
                have hsb5 : V2.heap.size < (V2.alloc (.cells #[.int .i64 0, .int .i64 0, .slice none 0 0] 30)).heap.size := by simp
                have hwb5 := HB.size
                have hXob5 := hX2
                have T6 := T6.below hbe
                have hbX := blk_below hbX hX2 hbe
                replace hX2 := Nat.lt_of_lt_of_le hX2 hbe.size
                have TA := TA.below hbe
                have HB := HB.trans (hbe.mono HB.size)
                have hss := hbe.size
                refine hK.out _ _ TA (fun _ => ?_)
                clear hK hbe
                generalize V2.alloc (.cells #[.int .i64 0, .int .i64 0, .slice none 0 0] 30) = V3 at *
                generalize V2.heap.size = b5 at *
                try simp only [Act.put, List.setIfInBounds_toArray, List.set_cons_zero, List.set_cons_succ]
                refine wpAnyH_ready (rs := [5]) (by kernel_rfl) (by simp) ?_
                refine AllReadyH.cons rfl (fun K hK => ?_) AllReadyH.nil
                rw [if_pos (by rfl)]
                go_simp
                have hsq := square_any (.slice A l.length c) (.slice zp zl zc) (.slice pL ss.length kL) l n 3 V3 (HM1.out.below HB) hn1 hn8 (by omega)
                rw [show ((3 : Nat) : Int) = 3 from rfl] at hsq
                refine hsq.mono ?_
                clear hsq
                rintro e V4 ⟨v, ns, rfl, ⟨Y, hY1, hY2, rfl, hbY, hlY⟩, hbe⟩
                have T5 := T5.below hbe
                have T6 := T6.below hbe
                have hbX := blk_below hbX hX2 hbe
                replace hX2 := Nat.lt_of_lt_of_le hX2 hbe.size
                have TA := TA.below hbe
                have HB := HB.trans (hbe.mono HB.size)
                have hss := hbe.size
                refine hK.out _ _ TA (fun _ => ?_)
                clear hK hbe
                unfold matV
                try simp only [Act.put, List.setIfInBounds_toArray, List.set_cons_zero, List.set_cons_succ]
                obtain ⟨u0, u1, u2, u3, u4, u5⟩ := T5
                have TQ : Three V4 b5 _ _ _ := ⟨u0, u1, u2, u3, u4, u5⟩
                refine wpAnyH_ready (rs := [8]) (by kernel_rfl) (by simp) ?_
                refine AllReadyH.cons rfl (fun K hK => ?_) AllReadyH.nil
                rw [if_pos (by rfl)]
                go_simp
                clear u0 u1 u2 u3 u4 u5
                have T5 := three_put TQ (.int .i64 (n : Int)) (.int .i64 (n : Int)) (.slice (some ⟨X, 0, none⟩) (n * n) (n * n))
                have T6 := three_cell (three_cell (three_cell T6 (d := ⟨b5, 0, none⟩) (u := .int .i64 (n : Int)) (by dsimp only; omega)) (d := ⟨b5, 1, none⟩) (u := .int .i64 (n : Int)) (by dsimp only; omega)) (d := ⟨b5, 2, none⟩) (u := .slice (some ⟨X, 0, none⟩) (n * n) (n * n)) (by dsimp only; omega)
                have TA := three_cell (three_cell (three_cell TA (d := ⟨b5, 0, none⟩) (u := .int .i64 (n : Int)) (by dsimp only; omega)) (d := ⟨b5, 1, none⟩) (u := .int .i64 (n : Int)) (by dsimp only; omega)) (d := ⟨b5, 2, none⟩) (u := .slice (some ⟨X, 0, none⟩) (n * n) (n * n)) (by dsimp only; omega)
                have hbX := three_apart (b := b5) (x := .int .i64 (n : Int)) (y := .int .i64 (n : Int)) (z := .slice (some ⟨X, 0, none⟩) (n * n) (n * n)) hbX (by omega)
                have hX2 : X < (((V4.setCell ⟨b5, 0, none⟩ (.int .i64 (n : Int))).setCell ⟨b5, 1, none⟩ (.int .i64 (n : Int))).setCell ⟨b5, 2, none⟩ (.slice (some ⟨X, 0, none⟩) (n * n) (n * n))).heap.size := by simp only [World.size_setCell]; exact hX2
                have hbY := three_apart (b := b5) (x := .int .i64 (n : Int)) (y := .int .i64 (n : Int)) (z := .slice (some ⟨X, 0, none⟩) (n * n) (n * n)) hbY (by omega)
                have hY2 : Y < (((V4.setCell ⟨b5, 0, none⟩ (.int .i64 (n : Int))).setCell ⟨b5, 1, none⟩ (.int .i64 (n : Int))).setCell ⟨b5, 2, none⟩ (.slice (some ⟨X, 0, none⟩) (n * n) (n * n))).heap.size := by simp only [World.size_setCell]; exact hY2
                have HB := ((HB.setCell (p := ⟨b5, 0, none⟩) (by dsimp only; omega) (.int .i64 (n : Int))).setCell (p := ⟨b5, 1, none⟩) (by dsimp only; omega) (.int .i64 (n : Int))).setCell (p := ⟨b5, 2, none⟩) (by dsimp only; omega) (.slice (some ⟨X, 0, none⟩) (n * n) (n * n))
                have hss : V4.heap.size ≤ (((V4.setCell ⟨b5, 0, none⟩ (.int .i64 (n : Int))).setCell ⟨b5, 1, none⟩ (.int .i64 (n : Int))).setCell ⟨b5, 2, none⟩ (.slice (some ⟨X, 0, none⟩) (n * n) (n * n))).heap.size := by simp only [World.size_setCell]; exact Nat.le_refl _
                refine hK.out _ _ TA (fun _ => ?_)
                clear hK TQ
                generalize (((V4.setCell ⟨b5, 0, none⟩ (.int .i64 (n : Int))).setCell ⟨b5, 1, none⟩ (.int .i64 (n : Int))).setCell ⟨b5, 2, none⟩ (.slice (some ⟨X, 0, none⟩) (n * n) (n * n))) = V5 at *
                try simp only [Act.put, List.setIfInBounds_toArray, List.set_cons_zero, List.set_cons_succ]
                obtain ⟨u0, u1, u2, u3, u4, u5⟩ := T6
                have TQ : Three V5 b6 _ _ _ := ⟨u0, u1, u2, u3, u4, u5⟩
                refine wpAnyH_ready (rs := [9]) (by kernel_rfl) (by simp) ?_
                refine AllReadyH.cons rfl (fun K hK => ?_) AllReadyH.nil
                rw [if_pos (by rfl)]
                go_simp
                clear u0 u1 u2 u3 u4 u5
                have T6 := three_put TQ (.int .i64 (n : Int)) (.int .i64 (n : Int)) (.slice (some ⟨Y, 0, none⟩) (n * n) (n * n))
                have T5 := three_cell (three_cell (three_cell T5 (d := ⟨b6, 0, none⟩) (u := .int .i64 (n : Int)) (by dsimp only; omega)) (d := ⟨b6, 1, none⟩) (u := .int .i64 (n : Int)) (by dsimp only; omega)) (d := ⟨b6, 2, none⟩) (u := .slice (some ⟨Y, 0, none⟩) (n * n) (n * n)) (by dsimp only; omega)
                have TA := three_cell (three_cell (three_cell TA (d := ⟨b6, 0, none⟩) (u := .int .i64 (n : Int)) (by dsimp only; omega)) (d := ⟨b6, 1, none⟩) (u := .int .i64 (n : Int)) (by dsimp only; omega)) (d := ⟨b6, 2, none⟩) (u := .slice (some ⟨Y, 0, none⟩) (n * n) (n * n)) (by dsimp only; omega)
                have hbX := three_apart (b := b6) (x := .int .i64 (n : Int)) (y := .int .i64 (n : Int)) (z := .slice (some ⟨Y, 0, none⟩) (n * n) (n * n)) hbX (by omega)
                have hX2 : X < (((V5.setCell ⟨b6, 0, none⟩ (.int .i64 (n : Int))).setCell ⟨b6, 1, none⟩ (.int .i64 (n : Int))).setCell ⟨b6, 2, none⟩ (.slice (some ⟨Y, 0, none⟩) (n * n) (n * n))).heap.size := by simp only [World.size_setCell]; exact hX2
                have hbY := three_apart (b := b6) (x := .int .i64 (n : Int)) (y := .int .i64 (n : Int)) (z := .slice (some ⟨Y, 0, none⟩) (n * n) (n * n)) hbY (by omega)
                have hY2 : Y < (((V5.setCell ⟨b6, 0, none⟩ (.int .i64 (n : Int))).setCell ⟨b6, 1, none⟩ (.int .i64 (n : Int))).setCell ⟨b6, 2, none⟩ (.slice (some ⟨Y, 0, none⟩) (n * n) (n * n))).heap.size := by simp only [World.size_setCell]; exact hY2
                have HB := ((HB.setCell (p := ⟨b6, 0, none⟩) (by dsimp only; omega) (.int .i64 (n : Int))).setCell (p := ⟨b6, 1, none⟩) (by dsimp only; omega) (.int .i64 (n : Int))).setCell (p := ⟨b6, 2, none⟩) (by dsimp only; omega) (.slice (some ⟨Y, 0, none⟩) (n * n) (n * n))
                have hss : V5.heap.size ≤ (((V5.setCell ⟨b6, 0, none⟩ (.int .i64 (n : Int))).setCell ⟨b6, 1, none⟩ (.int .i64 (n : Int))).setCell ⟨b6, 2, none⟩ (.slice (some ⟨Y, 0, none⟩) (n * n) (n * n))).heap.size := by simp only [World.size_setCell]; exact Nat.le_refl _
                refine hK.out _ _ TA (fun _ => ?_)
                clear hK TQ
                generalize (((V5.setCell ⟨b6, 0, none⟩ (.int .i64 (n : Int))).setCell ⟨b6, 1, none⟩ (.int .i64 (n : Int))).setCell ⟨b6, 2, none⟩ (.slice (some ⟨Y, 0, none⟩) (n * n) (n * n))) = V6 at *
                try simp only [Act.put, List.setIfInBounds_toArray, List.set_cons_zero, List.set_cons_succ]
                refine wpAnyH_done (by kernel_rfl) ?_ _
                go_wp2_with fail
                go_meet
                exact ⟨b5, b6, X, Y, ms, ns, rfl, rfl, ⟨T5, T6, hbX, hbY, hlX, hlY, hX2, hY2, by omega, by omega, by omega, by omega, by omega, by omega, by omega, HB⟩⟩
          · rw [if_pos (by rfl)]
            go_simp
            have T5 := Three.new V0 (.int .i64 0) (.int .i64 0) (.slice none 0 0) 30
            have hbe := (Below.refl V0.heap.size V0).alloc (Nat.le_refl _) (.cells #[.int .i64 0, .int .i64 0, .slice none 0 0] 30)
            have hsb5 : V0.heap.size < (V0.alloc (.cells #[.int .i64 0, .int .i64 0, .slice none 0 0] 30)).heap.size := by simp
            have hwb5 := HB.size
            have TA := TA.below hbe
            have HB := HB.trans (hbe.mono HB.size)
            have hss := hbe.size
            refine hK.out _ _ TA (fun _ => ?_)
            clear hK hbe
            generalize V0.alloc (.cells #[.int .i64 0, .int .i64 0, .slice none 0 0] 30) = V1 at *
            generalize V0.heap.size = b5 at *
            try simp only [Act.put, List.setIfInBounds_toArray, List.set_cons_zero, List.set_cons_succ]
            refine wpAnyH_ready (rs := [2, 7]) (by kernel_rfl) (by simp) ?_
            refine AllReadyH.cons rfl (fun K hK => ?_) (AllReadyH.cons rfl (fun K hK => ?_) AllReadyH.nil)
            · rw [if_pos (by rfl)]
              go_simp
              have hsq := square_any (.slice A l.length c) (.slice zp zl zc) (.slice pL ss.length kL) l n 2 V1 (HM1.out.below HB) hn1 hn8 (by omega)
              rw [show ((2 : Nat) : Int) = 2 from rfl] at hsq
              refine hsq.mono ?_
              clear hsq
              rintro e V2 ⟨v, ms, rfl, ⟨X, hX1, hX2, rfl, hbX, hlX⟩, hbe⟩
              have T5 := T5.below hbe
              have TA := TA.below hbe
              have HB := HB.trans (hbe.mono HB.size)
              have hss := hbe.size
              refine hK.out _ _ TA (fun _ => ?_)
              clear hK hbe
              unfold matV
              try simp only [Act.put, List.setIfInBounds_toArray, List.set_cons_zero, List.set_cons_succ]
              refine wpAnyH_ready (rs := [5, 7]) (by kernel_rfl) (by simp) ?_
              refine AllReadyH.cons rfl (fun K hK => ?_) (AllReadyH.cons rfl (fun K hK => ?_) AllReadyH.nil)
              · rw [if_pos (by rfl)]
                go_simp
                have hsq := square_any (.slice A l.length c) (.slice zp zl zc) (.slice pL ss.length kL) l n 3 V2 (HM1.out.below HB) hn1 hn8 (by omega)
                rw [show ((3 : Nat) : Int) = 3 from rfl] at hsq
                refine hsq.mono ?_
                clear hsq
                rintro e V3 ⟨v, ns, rfl, ⟨Y, hY1, hY2, rfl, hbY, hlY⟩, hbe⟩
                have T5 := T5.below hbe
                have hbX := blk_below hbX hX2 hbe
                replace hX2 := Nat.lt_of_lt_of_le hX2 hbe.size
                have TA := TA.below hbe
                have HB := HB.trans (hbe.mono HB.size)
                have hss := hbe.size
                refine hK.out _ _ TA (fun _ => ?_)
                clear hK hbe
                unfold matV
                try simp only [Act.put, List.setIfInBounds_toArray, List.set_cons_zero, List.set_cons_succ]
                refine wpAnyH_ready (rs := [7]) (by kernel_rfl) (by simp) ?_
                refine AllReadyH.cons rfl (fun K hK => ?_) AllReadyH.nil
                rw [if_pos (by rfl)]
                go_simp
                have T6 := Three.new V3 (.int .i64 0) (.int .i64 0) (.slice none 0 0) 30
                have hbe := (Below.refl V3.heap.size V3).alloc (Nat.le_refl _) (.cells #[.int .i64 0, .int .i64 0, .slice none 0 0] 30)
                have hsb6 : V3.heap.size < (V3.alloc (.cells #[.int .i64 0, .int .i64 0, .slice none 0 0] 30)).heap.size := by simp
                have hwb6 := HB.size
                have hXob6 := hX2
                have hYob6 := hY2
                have T5 := T5.below hbe
                have hbX := blk_below hbX hX2 hbe
                replace hX2 := Nat.lt_of_lt_of_le hX2 hbe.size
                have hbY := blk_below hbY hY2 hbe
                replace hY2 := Nat.lt_of_lt_of_le hY2 hbe.size
                have TA := TA.below hbe
                have HB := HB.trans (hbe.mono HB.size)
                have hss := hbe.size
                refine hK.out _ _ TA (fun _ => ?_)
                clear hK hbe
                generalize V3.alloc (.cells #[.int .i64 0, .int .i64 0, .slice none 0 0] 30) = V4 at *
                generalize V3.heap.size = b6 at *
                try simp only [Act.put, List.setIfInBounds_toArray, List.set_cons_zero, List.set_cons_succ]
                obtain ⟨u0, u1, u2, u3, u4, u5⟩ := T5
                have TQ : Three V4 b5 _ _ _ := ⟨u0, u1, u2, u3, u4, u5⟩
                refine wpAnyH_ready (rs := [8]) (by kernel_rfl) (by simp) ?_
                refine AllReadyH.cons rfl (fun K hK => ?_) AllReadyH.nil
                rw [if_pos (by rfl)]
                go_simp
                clear u0 u1 u2 u3 u4 u5
                have T5 := three_put TQ (.int .i64 (n : Int)) (.int .i64 (n : Int)) (.slice (some ⟨X, 0, none⟩) (n * n) (n * n))
                have T6 := three_cell (three_cell (three_cell T6 (d := ⟨b5, 0, none⟩) (u := .int .i64 (n : Int)) (by dsimp only; omega)) (d := ⟨b5, 1, none⟩) (u := .int .i64 (n : Int)) (by dsimp only; omega)) (d := ⟨b5, 2, none⟩) (u := .slice (some ⟨X, 0, none⟩) (n * n) (n * n)) (by dsimp only; omega)
                have TA := three_cell (three_cell (three_cell TA (d := ⟨b5, 0, none⟩) (u := .int .i64 (n : Int)) (by dsimp only; omega)) (d := ⟨b5, 1, none⟩) (u := .int .i64 (n : Int)) (by dsimp only; omega)) (d := ⟨b5, 2, none⟩) (u := .slice (some ⟨X, 0, none⟩) (n * n) (n * n)) (by dsimp only; omega)
                have hbX := three_apart (b := b5) (x := .int .i64 (n : Int)) (y := .int .i64 (n : Int)) (z := .slice (some ⟨X, 0, none⟩) (n * n) (n * n)) hbX (by omega)
                have hX2 : X < (((V4.setCell ⟨b5, 0, none⟩ (.int .i64 (n : Int))).setCell ⟨b5, 1, none⟩ (.int .i64 (n : Int))).setCell ⟨b5, 2, none⟩ (.slice (some ⟨X, 0, none⟩) (n * n) (n * n))).heap.size := by simp only [World.size_setCell]; exact hX2
                have hbY := three_apart (b := b5) (x := .int .i64 (n : Int)) (y := .int .i64 (n : Int)) (z := .slice (some ⟨X, 0, none⟩) (n * n) (n * n)) hbY (by omega)
                have hY2 : Y < (((V4.setCell ⟨b5, 0, none⟩ (.int .i64 (n : Int))).setCell ⟨b5, 1, none⟩ (.int .i64 (n : Int))).setCell ⟨b5, 2, none⟩ (.slice (some ⟨X, 0, none⟩) (n * n) (n * n))).heap.size := by simp only [World.size_setCell]; exact hY2
                have HB := ((HB.setCell (p := ⟨b5, 0, none⟩) (by dsimp only; omega) (.int .i64 (n : Int))).setCell (p := ⟨b5, 1, none⟩) (by dsimp only; omega) (.int .i64 (n : Int))).setCell (p := ⟨b5, 2, none⟩) (by dsimp only; omega) (.slice (some ⟨X, 0, none⟩) (n * n) (n * n))
                have hss : V4.heap.size ≤ (((V4.setCell ⟨b5, 0, none⟩ (.int .i64 (n : Int))).setCell ⟨b5, 1, none⟩ (.int .i64 (n : Int))).setCell ⟨b5, 2, none⟩ (.slice (some ⟨X, 0, none⟩) (n * n) (n * n))).heap.size := by simp only [World.size_setCell]; exact Nat.le_refl _
                refine hK.out _ _ TA (fun _ => ?_)
                clear hK TQ
                generalize (((V4.setCell ⟨b5, 0, none⟩ (.int .i64 (n : Int))).setCell ⟨b5, 1, none⟩ (.int .i64 (n : Int))).setCell ⟨b5, 2, none⟩ (.slice (some ⟨X, 0, none⟩) (n * n) (n * n))) = V5 at *
                try simp only [Act.put, List.setIfInBounds_toArray, List.set_cons_zero, List.set_cons_succ]
                obtain ⟨u0, u1, u2, u3, u4, u5⟩ := T6
                have TQ : Three V5 b6 _ _ _ := ⟨u0, u1, u2, u3, u4, u5⟩
                refine wpAnyH_ready (rs := [9]) (by kernel_rfl) (by simp) ?_
                refine AllReadyH.cons rfl (fun K hK => ?_) AllReadyH.nil
                rw [if_pos (by rfl)]
                go_simp
                clear u0 u1 u2 u3 u4 u5
                have T6 := three_put TQ (.int .i64 (n : Int)) (.int .i64 (n : Int)) (.slice (some ⟨Y, 0, none⟩) (n * n) (n * n))
                have T5 := three_cell (three_cell (three_cell T5 (d := ⟨b6, 0, none⟩) (u := .int .i64 (n : Int)) (by dsimp only; omega)) (d := ⟨b6, 1, none⟩) (u := .int .i64 (n : Int)) (by dsimp only; omega)) (d := ⟨b6, 2, none⟩) (u := .slice (some ⟨Y, 0, none⟩) (n * n) (n * n)) (by dsimp only; omega)
                have TA := three_cell (three_cell (three_cell TA (d := ⟨b6, 0, none⟩) (u := .int .i64 (n : Int)) (by dsimp only; omega)) (d := ⟨b6, 1, none⟩) (u := .int .i64 (n : Int)) (by dsimp only; omega)) (d := ⟨b6, 2, none⟩) (u := .slice (some ⟨Y, 0, none⟩) (n * n) (n * n)) (by dsimp only; omega)
                have hbX := three_apart (b := b6) (x := .int .i64 (n : Int)) (y := .int .i64 (n : Int)) (z := .slice (some ⟨Y, 0, none⟩) (n * n) (n * n)) hbX (by omega)
                have hX2 : X < (((V5.setCell ⟨b6, 0, none⟩ (.int .i64 (n : Int))).setCell ⟨b6, 1, none⟩ (.int .i64 (n : Int))).setCell ⟨b6, 2, none⟩ (.slice (some ⟨Y, 0, none⟩) (n * n) (n * n))).heap.size := by simp only [World.size_setCell]; exact hX2
                have hbY := three_apart (b := b6) (x := .int .i64 (n : Int)) (y := .int .i64 (n : Int)) (z := .slice (some ⟨Y, 0, none⟩) (n * n) (n * n)) hbY (by omega)
                have hY2 : Y < (((V5.setCell ⟨b6, 0, none⟩ (.int .i64 (n : Int))).setCell ⟨b6, 1, none⟩ (.int .i64 (n : Int))).setCell ⟨b6, 2, none⟩ (.slice (some ⟨Y, 0, none⟩) (n * n) (n * n))).heap.size := by simp only [World.size_setCell]; exact hY2
                have HB := ((HB.setCell (p := ⟨b6, 0, none⟩) (by dsimp only; omega) (.int .i64 (n : Int))).setCell (p := ⟨b6, 1, none⟩) (by dsimp only; omega) (.int .i64 (n : Int))).setCell (p := ⟨b6, 2, none⟩) (by dsimp only; omega) (.slice (some ⟨Y, 0, none⟩) (n * n) (n * n))
                have hss : V5.heap.size ≤ (((V5.setCell ⟨b6, 0, none⟩ (.int .i64 (n : Int))).setCell ⟨b6, 1, none⟩ (.int .i64 (n : Int))).setCell ⟨b6, 2, none⟩ (.slice (some ⟨Y, 0, none⟩) (n * n) (n * n))).heap.size := by simp only [World.size_setCell]; exact Nat.le_refl _
                refine hK.out _ _ TA (fun _ => ?_)
                clear hK TQ
                generalize (((V5.setCell ⟨b6, 0, none⟩ (.int .i64 (n : Int))).setCell ⟨b6, 1, none⟩ (.int .i64 (n : Int))).setCell ⟨b6, 2, none⟩ (.slice (some ⟨Y, 0, none⟩) (n * n) (n * n))) = V6 at *
                try simp only [Act.put, List.setIfInBounds_toArray, List.set_cons_zero, List.set_cons_succ]
                refine wpAnyH_done (by kernel_rfl) ?_ _
                go_wp2_with fail
                go_meet
                exact ⟨b5, b6, X, Y, ms, ns, rfl, rfl, ⟨T5, T6, hbX, hbY, hlX, hlY, hX2, hY2, by omega, by omega, by omega, by omega, by omega, by omega, by omega, HB⟩⟩
              · rw [if_pos (by rfl)]
                go_simp
                have T6 := Three.new V2 (.int .i64 0) (.int .i64 0) (.slice none 0 0) 30
                have hbe := (Below.refl V2.heap.size V2).alloc (Nat.le_refl _) (.cells #[.int .i64 0, .int .i64 0, .slice none 0 0] 30)
                have hsb6 : V2.heap.size < (V2.alloc (.cells #[.int .i64 0, .int .i64 0, .slice none 0 0] 30)).heap.size := by simp
                have hwb6 := HB.size
                have hXob6 := hX2
                have T5 := T5.below hbe
                have hbX := blk_below hbX hX2 hbe
                replace hX2 := Nat.lt_of_lt_of_le hX2 hbe.size
                have TA := TA.below hbe
                have HB := HB.trans (hbe.mono HB.size)
                have hss := hbe.size
                refine hK.out _ _ TA (fun _ => ?_)
                clear hK hbe
                generalize V2.alloc (.cells #[.int .i64 0, .int .i64 0, .slice none 0 0] 30) = V3 at *
                generalize V2.heap.size = b6 at *
                try simp only [Act.put, List.setIfInBounds_toArray, List.set_cons_zero, List.set_cons_succ]
                refine wpAnyH_ready (rs := [5]) (by kernel_rfl) (by simp) ?_
                refine AllReadyH.cons rfl (fun K hK => ?_) AllReadyH.nil
                rw [if_pos (by rfl)]
                go_simp
                have hsq := square_any (.slice A l.length c) (.slice zp zl zc) (.slice pL ss.length kL) l n 3 V3 (HM1.out.below HB) hn1 hn8 (by omega)
                rw [show ((3 : Nat) : Int) = 3 from rfl] at hsq
                refine hsq.mono ?_
                clear hsq
                rintro e V4 ⟨v, ns, rfl, ⟨Y, hY1, hY2, rfl, hbY, hlY⟩, hbe⟩
                have T5 := T5.below hbe
                have T6 := T6.below hbe
                have hbX := blk_below hbX hX2 hbe
                replace hX2 := Nat.lt_of_lt_of_le hX2 hbe.size
                have TA := TA.below hbe
                have HB := HB.trans (hbe.mono HB.size)
                have hss := hbe.size
                refine hK.out _ _ TA (fun _ => ?_)
                clear hK hbe
                unfold matV
                try simp only [Act.put, List.setIfInBounds_toArray, List.set_cons_zero, List.set_cons_succ]
                obtain ⟨u0, u1, u2, u3, u4, u5⟩ := T5
                have TQ : Three V4 b5 _ _ _ := ⟨u0, u1, u2, u3, u4, u5⟩
                refine wpAnyH_ready (rs := [8]) (by kernel_rfl) (by simp) ?_
                refine AllReadyH.cons rfl (fun K hK => ?_) AllReadyH.nil
                rw [if_pos (by rfl)]
                go_simp
                clear u0 u1 u2 u3 u4 u5
                have T5 := three_put TQ (.int .i64 (n : Int)) (.int .i64 (n : Int)) (.slice (some ⟨X, 0, none⟩) (n * n) (n * n))
                have T6 := three_cell (three_cell (three_cell T6 (d := ⟨b5, 0, none⟩) (u := .int .i64 (n : Int)) (by dsimp only; omega)) (d := ⟨b5, 1, none⟩) (u := .int .i64 (n : Int)) (by dsimp only; omega)) (d := ⟨b5, 2, none⟩) (u := .slice (some ⟨X, 0, none⟩) (n * n) (n * n)) (by dsimp only; omega)
                have TA := three_cell (three_cell (three_cell TA (d := ⟨b5, 0, none⟩) (u := .int .i64 (n : Int)) (by dsimp only; omega)) (d := ⟨b5, 1, none⟩) (u := .int .i64 (n : Int)) (by dsimp only; omega)) (d := ⟨b5, 2, none⟩) (u := .slice (some ⟨X, 0, none⟩) (n * n) (n * n)) (by dsimp only; omega)
                have hbX := three_apart (b := b5) (x := .int .i64 (n : Int)) (y := .int .i64 (n : Int)) (z := .slice (some ⟨X, 0, none⟩) (n * n) (n * n)) hbX (by omega)
                have hX2 : X < (((V4.setCell ⟨b5, 0, none⟩ (.int .i64 (n : Int))).setCell ⟨b5, 1, none⟩ (.int .i64 (n : Int))).setCell ⟨b5, 2, none⟩ (.slice (some ⟨X, 0, none⟩) (n * n) (n * n))).heap.size := by simp only [World.size_setCell]; exact hX2
                have hbY := three_apart (b := b5) (x := .int .i64 (n : Int)) (y := .int .i64 (n : Int)) (z := .slice (some ⟨X, 0, none⟩) (n * n) (n * n)) hbY (by omega)
                have hY2 : Y < (((V4.setCell ⟨b5, 0, none⟩ (.int .i64 (n : Int))).setCell ⟨b5, 1, none⟩ (.int .i64 (n : Int))).setCell ⟨b5, 2, none⟩ (.slice (some ⟨X, 0, none⟩) (n * n) (n * n))).heap.size := by simp only [World.size_setCell]; exact hY2
                have HB := ((HB.setCell (p := ⟨b5, 0, none⟩) (by dsimp only; omega) (.int .i64 (n : Int))).setCell (p := ⟨b5, 1, none⟩) (by dsimp only; omega) (.int .i64 (n : Int))).setCell (p := ⟨b5, 2, none⟩) (by dsimp only; omega) (.slice (some ⟨X, 0, none⟩) (n * n) (n * n))
                have hss : V4.heap.size ≤ (((V4.setCell ⟨b5, 0, none⟩ (.int .i64 (n : Int))).setCell ⟨b5, 1, none⟩ (.int .i64 (n : Int))).setCell ⟨b5, 2, none⟩ (.slice (some ⟨X, 0, none⟩) (n * n) (n * n))).heap.size := by simp only [World.size_setCell]; exact Nat.le_refl _
                refine hK.out _ _ TA (fun _ => ?_)
                clear hK TQ
                generalize (((V4.setCell ⟨b5, 0, none⟩ (.int .i64 (n : Int))).setCell ⟨b5, 1, none⟩ (.int .i64 (n : Int))).setCell ⟨b5, 2, none⟩ (.slice (some ⟨X, 0, none⟩) (n * n) (n * n))) = V5 at *
                try simp only [Act.put, List.setIfInBounds_toArray, List.set_cons_zero, List.set_cons_succ]
                obtain ⟨u0, u1, u2, u3, u4, u5⟩ := T6
                have TQ : Three V5 b6 _ _ _ := ⟨u0, u1, u2, u3, u4, u5⟩
                refine wpAnyH_ready (rs := [9]) (by kernel_rfl) (by simp) ?_
                refine AllReadyH.cons rfl (fun K hK => ?_) AllReadyH.nil
                rw [if_pos (by rfl)]
                go_simp
                clear u0 u1 u2 u3 u4 u5
                have T6 := three_put TQ (.int .i64 (n : Int)) (.int .i64 (n : Int)) (.slice (some ⟨Y, 0, none⟩) (n * n) (n * n))
                have T5 := three_cell (three_cell (three_cell T5 (d := ⟨b6, 0, none⟩) (u := .int .i64 (n : Int)) (by dsimp only; omega)) (d := ⟨b6, 1, none⟩) (u := .int .i64 (n : Int)) (by dsimp only; omega)) (d := ⟨b6, 2, none⟩) (u := .slice (some ⟨Y, 0, none⟩) (n * n) (n * n)) (by dsimp only; omega)
                have TA := three_cell (three_cell (three_cell TA (d := ⟨b6, 0, none⟩) (u := .int .i64 (n : Int)) (by dsimp only; omega)) (d := ⟨b6, 1, none⟩) (u := .int .i64 (n : Int)) (by dsimp only; omega)) (d := ⟨b6, 2, none⟩) (u := .slice (some ⟨Y, 0, none⟩) (n * n) (n * n)) (by dsimp only; omega)
                have hbX := three_apart (b := b6) (x := .int .i64 (n : Int)) (y := .int .i64 (n : Int)) (z := .slice (some ⟨Y, 0, none⟩) (n * n) (n * n)) hbX (by omega)
                have hX2 : X < (((V5.setCell ⟨b6, 0, none⟩ (.int .i64 (n : Int))).setCell ⟨b6, 1, none⟩ (.int .i64 (n : Int))).setCell ⟨b6, 2, none⟩ (.slice (some ⟨Y, 0, none⟩) (n * n) (n * n))).heap.size := by simp only [World.size_setCell]; exact hX2
                have hbY := three_apart (b := b6) (x := .int .i64 (n : Int)) (y := .int .i64 (n : Int)) (z := .slice (some ⟨Y, 0, none⟩) (n * n) (n * n)) hbY (by omega)
                have hY2 : Y < (((V5.setCell ⟨b6, 0, none⟩ (.int .i64 (n : Int))).setCell ⟨b6, 1, none⟩ (.int .i64 (n : Int))).setCell ⟨b6, 2, none⟩ (.slice (some ⟨Y, 0, none⟩) (n * n) (n * n))).heap.size := by simp only [World.size_setCell]; exact hY2
                have HB := ((HB.setCell (p := ⟨b6, 0, none⟩) (by dsimp only; omega) (.int .i64 (n : Int))).setCell (p := ⟨b6, 1, none⟩) (by dsimp only; omega) (.int .i64 (n : Int))).setCell (p := ⟨b6, 2, none⟩) (by dsimp only; omega) (.slice (some ⟨Y, 0, none⟩) (n * n) (n * n))
                have hss : V5.heap.size ≤ (((V5.setCell ⟨b6, 0, none⟩ (.int .i64 (n : Int))).setCell ⟨b6, 1, none⟩ (.int .i64 (n : Int))).setCell ⟨b6, 2, none⟩ (.slice (some ⟨Y, 0, none⟩) (n * n) (n * n))).heap.size := by simp only [World.size_setCell]; exact Nat.le_refl _
                refine hK.out _ _ TA (fun _ => ?_)
                clear hK TQ
                generalize (((V5.setCell ⟨b6, 0, none⟩ (.int .i64 (n : Int))).setCell ⟨b6, 1, none⟩ (.int .i64 (n : Int))).setCell ⟨b6, 2, none⟩ (.slice (some ⟨Y, 0, none⟩) (n * n) (n * n))) = V6 at *
                try simp only [Act.put, List.setIfInBounds_toArray, List.set_cons_zero, List.set_cons_succ]
                refine wpAnyH_done (by kernel_rfl) ?_ _
                go_wp2_with fail
                go_meet
                exact ⟨b5, b6, X, Y, ms, ns, rfl, rfl, ⟨T5, T6, hbX, hbY, hlX, hlY, hX2, hY2, by omega, by omega, by omega, by omega, by omega, by omega, by omega, HB⟩⟩
            · rw [if_pos (by rfl)]
              go_simp
              have T6 := Three.new V1 (.int .i64 0) (.int .i64 0) (.slice none 0 0) 30
              have hbe := (Below.refl V1.heap.size V1).alloc (Nat.le_refl _) (.cells #[.int .i64 0, .int .i64 0, .slice none 0 0] 30)
              have hsb6 : V1.heap.size < (V1.alloc (.cells #[.int .i64 0, .int .i64 0, .slice none 0 0] 30)).heap.size := by simp
              have hwb6 := HB.size
              have T5 := T5.below hbe
              have TA := TA.below hbe
              have HB := HB.trans (hbe.mono HB.size)
              have hss := hbe.size
              refine hK.out _ _ TA (fun _ => ?_)
              clear hK hbe
              generalize V1.alloc (.cells #[.int .i64 0, .int .i64 0, .slice none 0 0] 30) = V2 at *
              generalize V1.heap.size = b6 at *
              try simp only [Act.put, List.setIfInBounds_toArray, List.set_cons_zero, List.set_cons_succ]
              refine wpAnyH_ready (rs := [2]) (by kernel_rfl) (by simp) ?_
              refine AllReadyH.cons rfl (fun K hK => ?_) AllReadyH.nil
              rw [if_pos (by rfl)]
              go_simp
              have hsq := square_any (.slice A l.length c) (.slice zp zl zc) (.slice pL ss.length kL) l n 2 V2 (HM1.out.below HB) hn1 hn8 (by omega)
              rw [show ((2 : Nat) : Int) = 2 from rfl] at hsq
              refine hsq.mono ?_
              clear hsq
              rintro e V3 ⟨v, ms, rfl, ⟨X, hX1, hX2, rfl, hbX, hlX⟩, hbe⟩
              have T5 := T5.below hbe
              have T6 := T6.below hbe
              have TA := TA.below hbe
              have HB := HB.trans (hbe.mono HB.size)
              have hss := hbe.size
              refine hK.out _ _ TA (fun _ => ?_)
              clear hK hbe
              unfold matV
              try simp only [Act.put, List.setIfInBounds_toArray, List.set_cons_zero, List.set_cons_succ]
              refine wpAnyH_ready (rs := [5]) (by kernel_rfl) (by simp) ?_
              refine AllReadyH.cons rfl (fun K hK => ?_) AllReadyH.nil
              rw [if_pos (by rfl)]
              go_simp
              have hsq := square_any (.slice A l.length c) (.slice zp zl zc) (.slice pL ss.length kL) l n 3 V3 (HM1.out.below HB) hn1 hn8 (by omega)
              rw [show ((3 : Nat) : Int) = 3 from rfl] at hsq
              refine hsq.mono ?_
              clear hsq
              rintro e V4 ⟨v, ns, rfl, ⟨Y, hY1, hY2, rfl, hbY, hlY⟩, hbe⟩
              have T5 := T5.below hbe
              have T6 := T6.below hbe
              have hbX := blk_below hbX hX2 hbe
              replace hX2 := Nat.lt_of_lt_of_le hX2 hbe.size
              have TA := TA.below hbe
              have HB := HB.trans (hbe.mono HB.size)
              have hss := hbe.size
              refine hK.out _ _ TA (fun _ => ?_)
              clear hK hbe
              unfold matV
              try simp only [Act.put, List.setIfInBounds_toArray, List.set_cons_zero, List.set_cons_succ]
              obtain ⟨u0, u1, u2, u3, u4, u5⟩ := T5
              have TQ : Three V4 b5 _ _ _ := ⟨u0, u1, u2, u3, u4, u5⟩
              refine wpAnyH_ready (rs := [8]) (by kernel_rfl) (by simp) ?_
              refine AllReadyH.cons rfl (fun K hK => ?_) AllReadyH.nil
              rw [if_pos (by rfl)]
              go_simp
              clear u0 u1 u2 u3 u4 u5
              have T5 := three_put TQ (.int .i64 (n : Int)) (.int .i64 (n : Int)) (.slice (some ⟨X, 0, none⟩) (n * n) (n * n))
              have T6 := three_cell (three_cell (three_cell T6 (d := ⟨b5, 0, none⟩) (u := .int .i64 (n : Int)) (by dsimp only; omega)) (d := ⟨b5, 1, none⟩) (u := .int .i64 (n : Int)) (by dsimp only; omega)) (d := ⟨b5, 2, none⟩) (u := .slice (some ⟨X, 0, none⟩) (n * n) (n * n)) (by dsimp only; omega)
              have TA := three_cell (three_cell (three_cell TA (d := ⟨b5, 0, none⟩) (u := .int .i64 (n : Int)) (by dsimp only; omega)) (d := ⟨b5, 1, none⟩) (u := .int .i64 (n : Int)) (by dsimp only; omega)) (d := ⟨b5, 2, none⟩) (u := .slice (some ⟨X, 0, none⟩) (n * n) (n * n)) (by dsimp only; omega)
              have hbX := three_apart (b := b5) (x := .int .i64 (n : Int)) (y := .int .i64 (n : Int)) (z := .slice (some ⟨X, 0, none⟩) (n * n) (n * n)) hbX (by omega)
              have hX2 : X < (((V4.setCell ⟨b5, 0, none⟩ (.int .i64 (n : Int))).setCell ⟨b5, 1, none⟩ (.int .i64 (n : Int))).setCell ⟨b5, 2, none⟩ (.slice (some ⟨X, 0, none⟩) (n * n) (n * n))).heap.size := by simp only [World.size_setCell]; exact hX2
              have hbY := three_apart (b := b5) (x := .int .i64 (n : Int)) (y := .int .i64 (n : Int)) (z := .slice (some ⟨X, 0, none⟩) (n * n) (n * n)) hbY (by omega)
              have hY2 : Y < (((V4.setCell ⟨b5, 0, none⟩ (.int .i64 (n : Int))).setCell ⟨b5, 1, none⟩ (.int .i64 (n : Int))).setCell ⟨b5, 2, none⟩ (.slice (some ⟨X, 0, none⟩) (n * n) (n * n))).heap.size := by simp only [World.size_setCell]; exact hY2
              have HB := ((HB.setCell (p := ⟨b5, 0, none⟩) (by dsimp only; omega) (.int .i64 (n : Int))).setCell (p := ⟨b5, 1, none⟩) (by dsimp only; omega) (.int .i64 (n : Int))).setCell (p := ⟨b5, 2, none⟩) (by dsimp only; omega) (.slice (some ⟨X, 0, none⟩) (n * n) (n * n))
              have hss : V4.heap.size ≤ (((V4.setCell ⟨b5, 0, none⟩ (.int .i64 (n : Int))).setCell ⟨b5, 1, none⟩ (.int .i64 (n : Int))).setCell ⟨b5, 2, none⟩ (.slice (some ⟨X, 0, none⟩) (n * n) (n * n))).heap.size := by simp only [World.size_setCell]; exact Nat.le_refl _
              refine hK.out _ _ TA (fun _ => ?_)
              clear hK TQ
              generalize (((V4.setCell ⟨b5, 0, none⟩ (.int .i64 (n : Int))).setCell ⟨b5, 1, none⟩ (.int .i64 (n : Int))).setCell ⟨b5, 2, none⟩ (.slice (some ⟨X, 0, none⟩) (n * n) (n * n))) = V5 at *
              try simp only [Act.put, List.setIfInBounds_toArray, List.set_cons_zero, List.set_cons_succ]
              obtain ⟨u0, u1, u2, u3, u4, u5⟩ := T6
              have TQ : Three V5 b6 _ _ _ := ⟨u0, u1, u2, u3, u4, u5⟩
              refine wpAnyH_ready (rs := [9]) (by kernel_rfl) (by simp) ?_
              refine AllReadyH.cons rfl (fun K hK => ?_) AllReadyH.nil
              rw [if_pos (by rfl)]
              go_simp
              clear u0 u1 u2 u3 u4 u5
              have T6 := three_put TQ (.int .i64 (n : Int)) (.int .i64 (n : Int)) (.slice (some ⟨Y, 0, none⟩) (n * n) (n * n))
              have T5 := three_cell (three_cell (three_cell T5 (d := ⟨b6, 0, none⟩) (u := .int .i64 (n : Int)) (by dsimp only; omega)) (d := ⟨b6, 1, none⟩) (u := .int .i64 (n : Int)) (by dsimp only; omega)) (d := ⟨b6, 2, none⟩) (u := .slice (some ⟨Y, 0, none⟩) (n * n) (n * n)) (by dsimp only; omega)
              have TA := three_cell (three_cell (three_cell TA (d := ⟨b6, 0, none⟩) (u := .int .i64 (n : Int)) (by dsimp only; omega)) (d := ⟨b6, 1, none⟩) (u := .int .i64 (n : Int)) (by dsimp only; omega)) (d := ⟨b6, 2, none⟩) (u := .slice (some ⟨Y, 0, none⟩) (n * n) (n * n)) (by dsimp only; omega)
              have hbX := three_apart (b := b6) (x := .int .i64 (n : Int)) (y := .int .i64 (n : Int)) (z := .slice (some ⟨Y, 0, none⟩) (n * n) (n * n)) hbX (by omega)
              have hX2 : X < (((V5.setCell ⟨b6, 0, none⟩ (.int .i64 (n : Int))).setCell ⟨b6, 1, none⟩ (.int .i64 (n : Int))).setCell ⟨b6, 2, none⟩ (.slice (some ⟨Y, 0, none⟩) (n * n) (n * n))).heap.size := by simp only [World.size_setCell]; exact hX2
              have hbY := three_apart (b := b6) (x := .int .i64 (n : Int)) (y := .int .i64 (n : Int)) (z := .slice (some ⟨Y, 0, none⟩) (n * n) (n * n)) hbY (by omega)
              have hY2 : Y < (((V5.setCell ⟨b6, 0, none⟩ (.int .i64 (n : Int))).setCell ⟨b6, 1, none⟩ (.int .i64 (n : Int))).setCell ⟨b6, 2, none⟩ (.slice (some ⟨Y, 0, none⟩) (n * n) (n * n))).heap.size := by simp only [World.size_setCell]; exact hY2
              have HB := ((HB.setCell (p := ⟨b6, 0, none⟩) (by dsimp only; omega) (.int .i64 (n : Int))).setCell (p := ⟨b6, 1, none⟩) (by dsimp only; omega) (.int .i64 (n : Int))).setCell (p := ⟨b6, 2, none⟩) (by dsimp only; omega) (.slice (some ⟨Y, 0, none⟩) (n * n) (n * n))
              have hss : V5.heap.size ≤ (((V5.setCell ⟨b6, 0, none⟩ (.int .i64 (n : Int))).setCell ⟨b6, 1, none⟩ (.int .i64 (n : Int))).setCell ⟨b6, 2, none⟩ (.slice (some ⟨Y, 0, none⟩) (n * n) (n * n))).heap.size := by simp only [World.size_setCell]; exact Nat.le_refl _
              refine hK.out _ _ TA (fun _ => ?_)
              clear hK TQ
              generalize (((V5.setCell ⟨b6, 0, none⟩ (.int .i64 (n : Int))).setCell ⟨b6, 1, none⟩ (.int .i64 (n : Int))).setCell ⟨b6, 2, none⟩ (.slice (some ⟨Y, 0, none⟩) (n * n) (n * n))) = V6 at *
              try simp only [Act.put, List.setIfInBounds_toArray, List.set_cons_zero, List.set_cons_succ]
              refine wpAnyH_done (by kernel_rfl) ?_ _
              go_wp2_with fail
              go_meet
              exact ⟨b5, b6, X, Y, ms, ns, rfl, rfl, ⟨T5, T6, hbX, hbY, hlX, hlY, hX2, hY2, by omega, by omega, by omega, by omega, by omega, by omega, by omega, HB⟩⟩
          · rw [if_pos (by rfl)]
            go_simp
            have T6 := Three.new V0 (.int .i64 0) (.int .i64 0) (.slice none 0 0) 30
            have hbe := (Below.refl V0.heap.size V0).alloc (Nat.le_refl _) (.cells #[.int .i64 0, .int .i64 0, .slice none 0 0] 30)
            have hsb6 : V0.heap.size < (V0.alloc (.cells #[.int .i64 0, .int .i64 0, .slice none 0 0] 30)).heap.size := by simp
            have hwb6 := HB.size
            have TA := TA.below hbe
            have HB := HB.trans (hbe.mono HB.size)
            have hss := hbe.size
            refine hK.out _ _ TA (fun _ => ?_)
            clear hK hbe
            generalize V0.alloc (.cells #[.int .i64 0, .int .i64 0, .slice none 0 0] 30) = V1 at *
            generalize V0.heap.size = b6 at *
            try simp only [Act.put, List.setIfInBounds_toArray, List.set_cons_zero, List.set_cons_succ]
            refine wpAnyH_ready (rs := [2, 6]) (by kernel_rfl) (by simp) ?_
            refine AllReadyH.cons rfl (fun K hK => ?_) (AllReadyH.cons rfl (fun K hK => ?_) AllReadyH.nil)
            · rw [if_pos (by rfl)]
              go_simp
              have hsq := square_any (.slice A l.length c) (.slice zp zl zc) (.slice pL ss.length kL) l n 2 V1 (HM1.out.below HB) hn1 hn8 (by omega)
              rw [show ((2 : Nat) : Int) = 2 from rfl] at hsq
              refine hsq.mono ?_
              clear hsq
              rintro e V2 ⟨v, ms, rfl, ⟨X, hX1, hX2, rfl, hbX, hlX⟩, hbe⟩
              have T6 := T6.below hbe
              have TA := TA.below hbe
              have HB := HB.trans (hbe.mono HB.size)
              have hss := hbe.size
              refine hK.out _ _ TA (fun _ => ?_)
              clear hK hbe
              unfold matV
              try simp only [Act.put, List.setIfInBounds_toArray, List.set_cons_zero, List.set_cons_succ]
              refine wpAnyH_ready (rs := [5, 6]) (by kernel_rfl) (by simp) ?_
              refine AllReadyH.cons rfl (fun K hK => ?_) (AllReadyH.cons rfl (fun K hK => ?_) AllReadyH.nil)
              · rw [if_pos (by rfl)]
                go_simp
                have hsq := square_any (.slice A l.length c) (.slice zp zl zc) (.slice pL ss.length kL) l n 3 V2 (HM1.out.below HB) hn1 hn8 (by omega)
                rw [show ((3 : Nat) : Int) = 3 from rfl] at hsq
                refine hsq.mono ?_
                clear hsq
                rintro e V3 ⟨v, ns, rfl, ⟨Y, hY1, hY2, rfl, hbY, hlY⟩, hbe⟩
                have T6 := T6.below hbe
                have hbX := blk_below hbX hX2 hbe
                replace hX2 := Nat.lt_of_lt_of_le hX2 hbe.size
                have TA := TA.below hbe
                have HB := HB.trans (hbe.mono HB.size)
                have hss := hbe.size
                refine hK.out _ _ TA (fun _ => ?_)
                clear hK hbe
                unfold matV
                try simp only [Act.put, List.setIfInBounds_toArray, List.set_cons_zero, List.set_cons_succ]
                refine wpAnyH_ready (rs := [6]) (by kernel_rfl) (by simp) ?_
                refine AllReadyH.cons rfl (fun K hK => ?_) AllReadyH.nil
                rw [if_pos (by rfl)]
                go_simp
                have T5 := Three.new V3 (.int .i64 0) (.int .i64 0) (.slice none 0 0) 30
                have hbe := (Below.refl V3.heap.size V3).alloc (Nat.le_refl _) (.cells #[.int .i64 0, .int .i64 0, .slice none 0 0] 30)
                have hsb5 : V3.heap.size < (V3.alloc (.cells #[.int .i64 0, .int .i64 0, .slice none 0 0] 30)).heap.size := by simp
                have hwb5 := HB.size
                have hXob5 := hX2
                have hYob5 := hY2
                have T6 := T6.below hbe
                have hbX := blk_below hbX hX2 hbe
                replace hX2 := Nat.lt_of_lt_of_le hX2 hbe.size
                have hbY := blk_below hbY hY2 hbe
                replace hY2 := Nat.lt_of_lt_of_le hY2 hbe.size
                have TA := TA.below hbe
                have HB := HB.trans (hbe.mono HB.size)
                have hss := hbe.size
                refine hK.out _ _ TA (fun _ => ?_)
                clear hK hbe
                generalize V3.alloc (.cells #[.int .i64 0, .int .i64 0, .slice none 0 0] 30) = V4 at *
                generalize V3.heap.size = b5 at *
                try simp only [Act.put, List.setIfInBounds_toArray, List.set_cons_zero, List.set_cons_succ]
                obtain ⟨u0, u1, u2, u3, u4, u5⟩ := T5
                have TQ : Three V4 b5 _ _ _ := ⟨u0, u1, u2, u3, u4, u5⟩
                refine wpAnyH_ready (rs := [8]) (by kernel_rfl) (by simp) ?_
                refine AllReadyH.cons rfl (fun K hK => ?_) AllReadyH.nil
                rw [if_pos (by rfl)]
                go_simp
                clear u0 u1 u2 u3 u4 u5
                have T5 := three_put TQ (.int .i64 (n : Int)) (.int .i64 (n : Int)) (.slice (some ⟨X, 0, none⟩) (n * n) (n * n))
                have T6 := three_cell (three_cell (three_cell T6 (d := ⟨b5, 0, none⟩) (u := .int .i64 (n : Int)) (by dsimp only; omega)) (d := ⟨b5, 1, none⟩) (u := .int .i64 (n : Int)) (by dsimp only; omega)) (d := ⟨b5, 2, none⟩) (u := .slice (some ⟨X, 0, none⟩) (n * n) (n * n)) (by dsimp only; omega)
                have TA := three_cell (three_cell (three_cell TA (d := ⟨b5, 0, none⟩) (u := .int .i64 (n : Int)) (by dsimp only; omega)) (d := ⟨b5, 1, none⟩) (u := .int .i64 (n : Int)) (by dsimp only; omega)) (d := ⟨b5, 2, none⟩) (u := .slice (some ⟨X, 0, none⟩) (n * n) (n * n)) (by dsimp only; omega)
                have hbX := three_apart (b := b5) (x := .int .i64 (n : Int)) (y := .int .i64 (n : Int)) (z := .slice (some ⟨X, 0, none⟩) (n * n) (n * n)) hbX (by omega)
                have hX2 : X < (((V4.setCell ⟨b5, 0, none⟩ (.int .i64 (n : Int))).setCell ⟨b5, 1, none⟩ (.int .i64 (n : Int))).setCell ⟨b5, 2, none⟩ (.slice (some ⟨X, 0, none⟩) (n * n) (n * n))).heap.size := by simp only [World.size_setCell]; exact hX2
                have hbY := three_apart (b := b5) (x := .int .i64 (n : Int)) (y := .int .i64 (n : Int)) (z := .slice (some ⟨X, 0, none⟩) (n * n) (n * n)) hbY (by omega)
                have hY2 : Y < (((V4.setCell ⟨b5, 0, none⟩ (.int .i64 (n : Int))).setCell ⟨b5, 1, none⟩ (.int .i64 (n : Int))).setCell ⟨b5, 2, none⟩ (.slice (some ⟨X, 0, none⟩) (n * n) (n * n))).heap.size := by simp only [World.size_setCell]; exact hY2
                have HB := ((HB.setCell (p := ⟨b5, 0, none⟩) (by dsimp only; omega) (.int .i64 (n : Int))).setCell (p := ⟨b5, 1, none⟩) (by dsimp only; omega) (.int .i64 (n : Int))).setCell (p := ⟨b5, 2, none⟩) (by dsimp only; omega) (.slice (some ⟨X, 0, none⟩) (n * n) (n * n))
                have hss : V4.heap.size ≤ (((V4.setCell ⟨b5, 0, none⟩ (.int .i64 (n : Int))).setCell ⟨b5, 1, none⟩ (.int .i64 (n : Int))).setCell ⟨b5, 2, none⟩ (.slice (some ⟨X, 0, none⟩) (n * n) (n * n))).heap.size := by simp only [World.size_setCell]; exact Nat.le_refl _
                refine hK.out _ _ TA (fun _ => ?_)
                clear hK TQ
                generalize (((V4.setCell ⟨b5, 0, none⟩ (.int .i64 (n : Int))).setCell ⟨b5, 1, none⟩ (.int .i64 (n : Int))).setCell ⟨b5, 2, none⟩ (.slice (some ⟨X, 0, none⟩) (n * n) (n * n))) = V5 at *
                try simp only [Act.put, List.setIfInBounds_toArray, List.set_cons_zero, List.set_cons_succ]
                obtain ⟨u0, u1, u2, u3, u4, u5⟩ := T6
                have TQ : Three V5 b6 _ _ _ := ⟨u0, u1, u2, u3, u4, u5⟩
                refine wpAnyH_ready (rs := [9]) (by kernel_rfl) (by simp) ?_
                refine AllReadyH.cons rfl (fun K hK => ?_) AllReadyH.nil
                rw [if_pos (by rfl)]
                go_simp
                clear u0 u1 u2 u3 u4 u5
                have T6 := three_put TQ (.int .i64 (n : Int)) (.int .i64 (n : Int)) (.slice (some ⟨Y, 0, none⟩) (n * n) (n * n))
                have T5 := three_cell (three_cell (three_cell T5 (d := ⟨b6, 0, none⟩) (u := .int .i64 (n : Int)) (by dsimp only; omega)) (d := ⟨b6, 1, none⟩) (u := .int .i64 (n : Int)) (by dsimp only; omega)) (d := ⟨b6, 2, none⟩) (u := .slice (some ⟨Y, 0, none⟩) (n * n) (n * n)) (by dsimp only; omega)
                have TA := three_cell (three_cell (three_cell TA (d := ⟨b6, 0, none⟩) (u := .int .i64 (n : Int)) (by dsimp only; omega)) (d := ⟨b6, 1, none⟩) (u := .int .i64 (n : Int)) (by dsimp only; omega)) (d := ⟨b6, 2, none⟩) (u := .slice (some ⟨Y, 0, none⟩) (n * n) (n * n)) (by dsimp only; omega)
                have hbX := three_apart (b := b6) (x := .int .i64 (n : Int)) (y := .int .i64 (n : Int)) (z := .slice (some ⟨Y, 0, none⟩) (n * n) (n * n)) hbX (by omega)
                have hX2 : X < (((V5.setCell ⟨b6, 0, none⟩ (.int .i64 (n : Int))).setCell ⟨b6, 1, none⟩ (.int .i64 (n : Int))).setCell ⟨b6, 2, none⟩ (.slice (some ⟨Y, 0, none⟩) (n * n) (n * n))).heap.size := by simp only [World.size_setCell]; exact hX2
                have hbY := three_apart (b := b6) (x := .int .i64 (n : Int)) (y := .int .i64 (n : Int)) (z := .slice (some ⟨Y, 0, none⟩) (n * n) (n * n)) hbY (by omega)
                have hY2 : Y < (((V5.setCell ⟨b6, 0, none⟩ (.int .i64 (n : Int))).setCell ⟨b6, 1, none⟩ (.int .i64 (n : Int))).setCell ⟨b6, 2, none⟩ (.slice (some ⟨Y, 0, none⟩) (n * n) (n * n))).heap.size := by simp only [World.size_setCell]; exact hY2
                have HB := ((HB.setCell (p := ⟨b6, 0, none⟩) (by dsimp only; omega) (.int .i64 (n : Int))).setCell (p := ⟨b6, 1, none⟩) (by dsimp only; omega) (.int .i64 (n : Int))).setCell (p := ⟨b6, 2, none⟩) (by dsimp only; omega) (.slice (some ⟨Y, 0, none⟩) (n * n) (n * n))
                have hss : V5.heap.size ≤ (((V5.setCell ⟨b6, 0, none⟩ (.int .i64 (n : Int))).setCell ⟨b6, 1, none⟩ (.int .i64 (n : Int))).setCell ⟨b6, 2, none⟩ (.slice (some ⟨Y, 0, none⟩) (n * n) (n * n))).heap.size := by simp only [World.size_setCell]; exact Nat.le_refl _
                refine hK.out _ _ TA (fun _ => ?_)
                clear hK TQ
                generalize (((V5.setCell ⟨b6, 0, none⟩ (.int .i64 (n : Int))).setCell ⟨b6, 1, none⟩ (.int .i64 (n : Int))).setCell ⟨b6, 2, none⟩ (.slice (some ⟨Y, 0, none⟩) (n * n) (n * n))) = V6 at *
                try simp only [Act.put, List.setIfInBounds_toArray, List.set_cons_zero, List.set_cons_succ]
                refine wpAnyH_done (by kernel_rfl) ?_ _
                go_wp2_with fail
                go_meet
                exact ⟨b5, b6, X, Y, ms, ns, rfl, rfl, ⟨T5, T6, hbX, hbY, hlX, hlY, hX2, hY2, by omega, by omega, by omega, by omega, by omega, by omega, by omega, HB⟩⟩
              · rw [if_pos (by rfl)]
                go_simp
                have T5 := Three.new V2 (.int .i64 0) (.int .i64 0) (.slice none 0 0) 30
                have hbe := (Below.refl V2.heap.size V2).alloc (Nat.le_refl _) (.cells #[.int .i64 0, .int .i64 0, .slice none 0 0] 30)
                have hsb5 : V2.heap.size < (V2.alloc (.cells #[.int .i64 0, .int .i64 0, .slice none 0 0] 30)).heap.size := by simp
                have hwb5 := HB.size
                have hXob5 := hX2
                have T6 := T6.below hbe
                have hbX := blk_below hbX hX2 hbe
                replace hX2 := Nat.lt_of_lt_of_le hX2 hbe.size
                have TA := TA.below hbe
                have HB := HB.trans (hbe.mono HB.size)
                have hss := hbe.size
                refine hK.out _ _ TA (fun _ => ?_)
                clear hK hbe
                generalize V2.alloc (.cells #[.int .i64 0, .int .i64 0, .slice none 0 0] 30) = V3 at *
                generalize V2.heap.size = b5 at *
                try simp only [Act.put, List.setIfInBounds_toArray, List.set_cons_zero, List.set_cons_succ]
                refine wpAnyH_ready (rs := [5]) (by kernel_rfl) (by simp) ?_
                refine AllReadyH.cons rfl (fun K hK => ?_) AllReadyH.nil
                rw [if_pos (by rfl)]
                go_simp
                have hsq := square_any (.slice A l.length c) (.slice zp zl zc) (.slice pL ss.length kL) l n 3 V3 (HM1.out.below HB) hn1 hn8 (by omega)
                rw [show ((3 : Nat) : Int) = 3 from rfl] at hsq
                refine hsq.mono ?_
                clear hsq
                rintro e V4 ⟨v, ns, rfl, ⟨Y, hY1, hY2, rfl, hbY, hlY⟩, hbe⟩
                have T5 := T5.below hbe
                have T6 := T6.below hbe
                have hbX := blk_below hbX hX2 hbe
                replace hX2 := Nat.lt_of_lt_of_le hX2 hbe.size
                have TA := TA.below hbe
                have HB := HB.trans (hbe.mono HB.size)
                have hss := hbe.size
                refine hK.out _ _ TA (fun _ => ?_)
                clear hK hbe
                unfold matV
                try simp only [Act.put, List.setIfInBounds_toArray, List.set_cons_zero, List.set_cons_succ]
                obtain ⟨u0, u1, u2, u3, u4, u5⟩ := T5
                have TQ : Three V4 b5 _ _ _ := ⟨u0, u1, u2, u3, u4, u5⟩
                refine wpAnyH_ready (rs := [8]) (by kernel_rfl) (by simp) ?_
                refine AllReadyH.cons rfl (fun K hK => ?_) AllReadyH.nil
                rw [if_pos (by rfl)]
                go_simp
                clear u0 u1 u2 u3 u4 u5
                have T5 := three_put TQ (.int .i64 (n : Int)) (.int .i64 (n : Int)) (.slice (some ⟨X, 0, none⟩) (n * n) (n * n))
                have T6 := three_cell (three_cell (three_cell T6 (d := ⟨b5, 0, none⟩) (u := .int .i64 (n : Int)) (by dsimp only; omega)) (d := ⟨b5, 1, none⟩) (u := .int .i64 (n : Int)) (by dsimp only; omega)) (d := ⟨b5, 2, none⟩) (u := .slice (some ⟨X, 0, none⟩) (n * n) (n * n)) (by dsimp only; omega)
                have TA := three_cell (three_cell (three_cell TA (d := ⟨b5, 0, none⟩) (u := .int .i64 (n : Int)) (by dsimp only; omega)) (d := ⟨b5, 1, none⟩) (u := .int .i64 (n : Int)) (by dsimp only; omega)) (d := ⟨b5, 2, none⟩) (u := .slice (some ⟨X, 0, none⟩) (n * n) (n * n)) (by dsimp only; omega)
                have hbX := three_apart (b := b5) (x := .int .i64 (n : Int)) (y := .int .i64 (n : Int)) (z := .slice (some ⟨X, 0, none⟩) (n * n) (n * n)) hbX (by omega)
                have hX2 : X < (((V4.setCell ⟨b5, 0, none⟩ (.int .i64 (n : Int))).setCell ⟨b5, 1, none⟩ (.int .i64 (n : Int))).setCell ⟨b5, 2, none⟩ (.slice (some ⟨X, 0, none⟩) (n * n) (n * n))).heap.size := by simp only [World.size_setCell]; exact hX2
                have hbY := three_apart (b := b5) (x := .int .i64 (n : Int)) (y := .int .i64 (n : Int)) (z := .slice (some ⟨X, 0, none⟩) (n * n) (n * n)) hbY (by omega)
                have hY2 : Y < (((V4.setCell ⟨b5, 0, none⟩ (.int .i64 (n : Int))).setCell ⟨b5, 1, none⟩ (.int .i64 (n : Int))).setCell ⟨b5, 2, none⟩ (.slice (some ⟨X, 0, none⟩) (n * n) (n * n))).heap.size := by simp only [World.size_setCell]; exact hY2
                have HB := ((HB.setCell (p := ⟨b5, 0, none⟩) (by dsimp only; omega) (.int .i64 (n : Int))).setCell (p := ⟨b5, 1, none⟩) (by dsimp only; omega) (.int .i64 (n : Int))).setCell (p := ⟨b5, 2, none⟩) (by dsimp only; omega) (.slice (some ⟨X, 0, none⟩) (n * n) (n * n))
                have hss : V4.heap.size ≤ (((V4.setCell ⟨b5, 0, none⟩ (.int .i64 (n : Int))).setCell ⟨b5, 1, none⟩ (.int .i64 (n : Int))).setCell ⟨b5, 2, none⟩ (.slice (some ⟨X, 0, none⟩) (n * n) (n * n))).heap.size := by simp only [World.size_setCell]; exact Nat.le_refl _
                refine hK.out _ _ TA (fun _ => ?_)
                clear hK TQ
                generalize (((V4.setCell ⟨b5, 0, none⟩ (.int .i64 (n : Int))).setCell ⟨b5, 1, none⟩ (.int .i64 (n : Int))).setCell ⟨b5, 2, none⟩ (.slice (some ⟨X, 0, none⟩) (n * n) (n * n))) = V5 at *
                try simp only [Act.put, List.setIfInBounds_toArray, List.set_cons_zero, List.set_cons_succ]
                obtain ⟨u0, u1, u2, u3, u4, u5⟩ := T6
                have TQ : Three V5 b6 _ _ _ := ⟨u0, u1, u2, u3, u4, u5⟩
                refine wpAnyH_ready (rs := [9]) (by kernel_rfl) (by simp) ?_
                refine AllReadyH.cons rfl (fun K hK => ?_) AllReadyH.nil
                rw [if_pos (by rfl)]
                go_simp
                clear u0 u1 u2 u3 u4 u5
                have T6 := three_put TQ (.int .i64 (n : Int)) (.int .i64 (n : Int)) (.slice (some ⟨Y, 0, none⟩) (n * n) (n * n))
                have T5 := three_cell (three_cell (three_cell T5 (d := ⟨b6, 0, none⟩) (u := .int .i64 (n : Int)) (by dsimp only; omega)) (d := ⟨b6, 1, none⟩) (u := .int .i64 (n : Int)) (by dsimp only; omega)) (d := ⟨b6, 2, none⟩) (u := .slice (some ⟨Y, 0, none⟩) (n * n) (n * n)) (by dsimp only; omega)
                have TA := three_cell (three_cell (three_cell TA (d := ⟨b6, 0, none⟩) (u := .int .i64 (n : Int)) (by dsimp only; omega)) (d := ⟨b6, 1, none⟩) (u := .int .i64 (n : Int)) (by dsimp only; omega)) (d := ⟨b6, 2, none⟩) (u := .slice (some ⟨Y, 0, none⟩) (n * n) (n * n)) (by dsimp only; omega)
                have hbX := three_apart (b := b6) (x := .int .i64 (n : Int)) (y := .int .i64 (n : Int)) (z := .slice (some ⟨Y, 0, none⟩) (n * n) (n * n)) hbX (by omega)
                have hX2 : X < (((V5.setCell ⟨b6, 0, none⟩ (.int .i64 (n : Int))).setCell ⟨b6, 1, none⟩ (.int .i64 (n : Int))).setCell ⟨b6, 2, none⟩ (.slice (some ⟨Y, 0, none⟩) (n * n) (n * n))).heap.size := by simp only [World.size_setCell]; exact hX2
                have hbY := three_apart (b := b6) (x := .int .i64 (n : Int)) (y := .int .i64 (n : Int)) (z := .slice (some ⟨Y, 0, none⟩) (n * n) (n * n)) hbY (by omega)
                have hY2 : Y < (((V5.setCell ⟨b6, 0, none⟩ (.int .i64 (n : Int))).setCell ⟨b6, 1, none⟩ (.int .i64 (n : Int))).setCell ⟨b6, 2, none⟩ (.slice (some ⟨Y, 0, none⟩) (n * n) (n * n))).heap.size := by simp only [World.size_setCell]; exact hY2
                have HB := ((HB.setCell (p := ⟨b6, 0, none⟩) (by dsimp only; omega) (.int .i64 (n : Int))).setCell (p := ⟨b6, 1, none⟩) (by dsimp only; omega) (.int .i64 (n : Int))).setCell (p := ⟨b6, 2, none⟩) (by dsimp only; omega) (.slice (some ⟨Y, 0, none⟩) (n * n) (n * n))
                have hss : V5.heap.size ≤ (((V5.setCell ⟨b6, 0, none⟩ (.int .i64 (n : Int))).setCell ⟨b6, 1, none⟩ (.int .i64 (n : Int))).setCell ⟨b6, 2, none⟩ (.slice (some ⟨Y, 0, none⟩) (n * n) (n * n))).heap.size := by simp only [World.size_setCell]; exact Nat.le_refl _
                refine hK.out _ _ TA (fun _ => ?_)
                clear hK TQ
                generalize (((V5.setCell ⟨b6, 0, none⟩ (.int .i64 (n : Int))).setCell ⟨b6, 1, none⟩ (.int .i64 (n : Int))).setCell ⟨b6, 2, none⟩ (.slice (some ⟨Y, 0, none⟩) (n * n) (n * n))) = V6 at *
                try simp only [Act.put, List.setIfInBounds_toArray, List.set_cons_zero, List.set_cons_succ]
                refine wpAnyH_done (by kernel_rfl) ?_ _
                go_wp2_with fail
                go_meet
                exact ⟨b5, b6, X, Y, ms, ns, rfl, rfl, ⟨T5, T6, hbX, hbY, hlX, hlY, hX2, hY2, by omega, by omega, by omega, by omega, by omega, by omega, by omega, HB⟩⟩
            · rw [if_pos (by rfl)]
              go_simp
              have T5 := Three.new V1 (.int .i64 0) (.int .i64 0) (.slice none 0 0) 30
              have hbe := (Below.refl V1.heap.size V1).alloc (Nat.le_refl _) (.cells #[.int .i64 0, .int .i64 0, .slice none 0 0] 30)
              have hsb5 : V1.heap.size < (V1.alloc (.cells #[.int .i64 0, .int .i64 0, .slice none 0 0] 30)).heap.size := by simp
              have hwb5 := HB.size
              have T6 := T6.below hbe
              have TA := TA.below hbe
              have HB := HB.trans (hbe.mono HB.size)
              have hss := hbe.size
              refine hK.out _ _ TA (fun _ => ?_)
              clear hK hbe
              generalize V1.alloc (.cells #[.int .i64 0, .int .i64 0, .slice none 0 0] 30) = V2 at *
              generalize V1.heap.size = b5 at *
              try simp only [Act.put, List.setIfInBounds_toArray, List.set_cons_zero, List.set_cons_succ]
              refine wpAnyH_ready (rs := [2]) (by kernel_rfl) (by simp) ?_
              refine AllReadyH.cons rfl (fun K hK => ?_) AllReadyH.nil
              rw [if_pos (by rfl)]
              go_simp
              have hsq := square_any (.slice A l.length c) (.slice zp zl zc) (.slice pL ss.length kL) l n 2 V2 (HM1.out.below HB) hn1 hn8 (by omega)
              rw [show ((2 : Nat) : Int) = 2 from rfl] at hsq
              refine hsq.mono ?_
              clear hsq
              rintro e V3 ⟨v, ms, rfl, ⟨X, hX1, hX2, rfl, hbX, hlX⟩, hbe⟩
              have T5 := T5.below hbe
              have T6 := T6.below hbe
              have TA := TA.below hbe
              have HB := HB.trans (hbe.mono HB.size)
              have hss := hbe.size
              refine hK.out _ _ TA (fun _ => ?_)
              clear hK hbe
              unfold matV
              try simp only [Act.put, List.setIfInBounds_toArray, List.set_cons_zero, List.set_cons_succ]
              refine wpAnyH_ready (rs := [5]) (by kernel_rfl) (by simp) ?_
              refine AllReadyH.cons rfl (fun K hK => ?_) AllReadyH.nil
              rw [if_pos (by rfl)]
              go_simp
              have hsq := square_any (.slice A l.length c) (.slice zp zl zc) (.slice pL ss.length kL) l n 3 V3 (HM1.out.below HB) hn1 hn8 (by omega)
              rw [show ((3 : Nat) : Int) = 3 from rfl] at hsq
              refine hsq.mono ?_
              clear hsq
              rintro e V4 ⟨v, ns, rfl, ⟨Y, hY1, hY2, rfl, hbY, hlY⟩, hbe⟩
              have T5 := T5.below hbe
              have T6 := T6.below hbe
              have hbX := blk_below hbX hX2 hbe
              replace hX2 := Nat.lt_of_lt_of_le hX2 hbe.size
              have TA := TA.below hbe
              have HB := HB.trans (hbe.mono HB.size)
              have hss := hbe.size
              refine hK.out _ _ TA (fun _ => ?_)
              clear hK hbe
              unfold matV
              try simp only [Act.put, List.setIfInBounds_toArray, List.set_cons_zero, List.set_cons_succ]
              obtain ⟨u0, u1, u2, u3, u4, u5⟩ := T5
              have TQ : Three V4 b5 _ _ _ := ⟨u0, u1, u2, u3, u4, u5⟩
              refine wpAnyH_ready (rs := [8]) (by kernel_rfl) (by simp) ?_
              refine AllReadyH.cons rfl (fun K hK => ?_) AllReadyH.nil
              rw [if_pos (by rfl)]
              go_simp
              clear u0 u1 u2 u3 u4 u5
              have T5 := three_put TQ (.int .i64 (n : Int)) (.int .i64 (n : Int)) (.slice (some ⟨X, 0, none⟩) (n * n) (n * n))
              have T6 := three_cell (three_cell (three_cell T6 (d := ⟨b5, 0, none⟩) (u := .int .i64 (n : Int)) (by dsimp only; omega)) (d := ⟨b5, 1, none⟩) (u := .int .i64 (n : Int)) (by dsimp only; omega)) (d := ⟨b5, 2, none⟩) (u := .slice (some ⟨X, 0, none⟩) (n * n) (n * n)) (by dsimp only; omega)
              have TA := three_cell (three_cell (three_cell TA (d := ⟨b5, 0, none⟩) (u := .int .i64 (n : Int)) (by dsimp only; omega)) (d := ⟨b5, 1, none⟩) (u := .int .i64 (n : Int)) (by dsimp only; omega)) (d := ⟨b5, 2, none⟩) (u := .slice (some ⟨X, 0, none⟩) (n * n) (n * n)) (by dsimp only; omega)
              have hbX := three_apart (b := b5) (x := .int .i64 (n : Int)) (y := .int .i64 (n : Int)) (z := .slice (some ⟨X, 0, none⟩) (n * n) (n * n)) hbX (by omega)
              have hX2 : X < (((V4.setCell ⟨b5, 0, none⟩ (.int .i64 (n : Int))).setCell ⟨b5, 1, none⟩ (.int .i64 (n : Int))).setCell ⟨b5, 2, none⟩ (.slice (some ⟨X, 0, none⟩) (n * n) (n * n))).heap.size := by simp only [World.size_setCell]; exact hX2
              have hbY := three_apart (b := b5) (x := .int .i64 (n : Int)) (y := .int .i64 (n : Int)) (z := .slice (some ⟨X, 0, none⟩) (n * n) (n * n)) hbY (by omega)
              have hY2 : Y < (((V4.setCell ⟨b5, 0, none⟩ (.int .i64 (n : Int))).setCell ⟨b5, 1, none⟩ (.int .i64 (n : Int))).setCell ⟨b5, 2, none⟩ (.slice (some ⟨X, 0, none⟩) (n * n) (n * n))).heap.size := by simp only [World.size_setCell]; exact hY2
              have HB := ((HB.setCell (p := ⟨b5, 0, none⟩) (by dsimp only; omega) (.int .i64 (n : Int))).setCell (p := ⟨b5, 1, none⟩) (by dsimp only; omega) (.int .i64 (n : Int))).setCell (p := ⟨b5, 2, none⟩) (by dsimp only; omega) (.slice (some ⟨X, 0, none⟩) (n * n) (n * n))
              have hss : V4.heap.size ≤ (((V4.setCell ⟨b5, 0, none⟩ (.int .i64 (n : Int))).setCell ⟨b5, 1, none⟩ (.int .i64 (n : Int))).setCell ⟨b5, 2, none⟩ (.slice (some ⟨X, 0, none⟩) (n * n) (n * n))).heap.size := by simp only [World.size_setCell]; exact Nat.le_refl _
              refine hK.out _ _ TA (fun _ => ?_)
              clear hK TQ
              generalize (((V4.setCell ⟨b5, 0, none⟩ (.int .i64 (n : Int))).setCell ⟨b5, 1, none⟩ (.int .i64 (n : Int))).setCell ⟨b5, 2, none⟩ (.slice (some ⟨X, 0, none⟩) (n * n) (n * n))) = V5 at *
              try simp only [Act.put, List.setIfInBounds_toArray, List.set_cons_zero, List.set_cons_succ]
              obtain ⟨u0, u1, u2, u3, u4, u5⟩ := T6
              have TQ : Three V5 b6 _ _ _ := ⟨u0, u1, u2, u3, u4, u5⟩
              refine wpAnyH_ready (rs := [9]) (by kernel_rfl) (by simp) ?_
              refine AllReadyH.cons rfl (fun K hK => ?_) AllReadyH.nil
              rw [if_pos (by rfl)]
              go_simp
              clear u0 u1 u2 u3 u4 u5
              have T6 := three_put TQ (.int .i64 (n : Int)) (.int .i64 (n : Int)) (.slice (some ⟨Y, 0, none⟩) (n * n) (n * n))
              have T5 := three_cell (three_cell (three_cell T5 (d := ⟨b6, 0, none⟩) (u := .int .i64 (n : Int)) (by dsimp only; omega)) (d := ⟨b6, 1, none⟩) (u := .int .i64 (n : Int)) (by dsimp only; omega)) (d := ⟨b6, 2, none⟩) (u := .slice (some ⟨Y, 0, none⟩) (n * n) (n * n)) (by dsimp only; omega)
              have TA := three_cell (three_cell (three_cell TA (d := ⟨b6, 0, none⟩) (u := .int .i64 (n : Int)) (by dsimp only; omega)) (d := ⟨b6, 1, none⟩) (u := .int .i64 (n : Int)) (by dsimp only; omega)) (d := ⟨b6, 2, none⟩) (u := .slice (some ⟨Y, 0, none⟩) (n * n) (n * n)) (by dsimp only; omega)
              have hbX := three_apart (b := b6) (x := .int .i64 (n : Int)) (y := .int .i64 (n : Int)) (z := .slice (some ⟨Y, 0, none⟩) (n * n) (n * n)) hbX (by omega)
              have hX2 : X < (((V5.setCell ⟨b6, 0, none⟩ (.int .i64 (n : Int))).setCell ⟨b6, 1, none⟩ (.int .i64 (n : Int))).setCell ⟨b6, 2, none⟩ (.slice (some ⟨Y, 0, none⟩) (n * n) (n * n))).heap.size := by simp only [World.size_setCell]; exact hX2
              have hbY := three_apart (b := b6) (x := .int .i64 (n : Int)) (y := .int .i64 (n : Int)) (z := .slice (some ⟨Y, 0, none⟩) (n * n) (n * n)) hbY (by omega)
              have hY2 : Y < (((V5.setCell ⟨b6, 0, none⟩ (.int .i64 (n : Int))).setCell ⟨b6, 1, none⟩ (.int .i64 (n : Int))).setCell ⟨b6, 2, none⟩ (.slice (some ⟨Y, 0, none⟩) (n * n) (n * n))).heap.size := by simp only [World.size_setCell]; exact hY2
              have HB := ((HB.setCell (p := ⟨b6, 0, none⟩) (by dsimp only; omega) (.int .i64 (n : Int))).setCell (p := ⟨b6, 1, none⟩) (by dsimp only; omega) (.int .i64 (n : Int))).setCell (p := ⟨b6, 2, none⟩) (by dsimp only; omega) (.slice (some ⟨Y, 0, none⟩) (n * n) (n * n))
              have hss : V5.heap.size ≤ (((V5.setCell ⟨b6, 0, none⟩ (.int .i64 (n : Int))).setCell ⟨b6, 1, none⟩ (.int .i64 (n : Int))).setCell ⟨b6, 2, none⟩ (.slice (some ⟨Y, 0, none⟩) (n * n) (n * n))).heap.size := by simp only [World.size_setCell]; exact Nat.le_refl _
              refine hK.out _ _ TA (fun _ => ?_)
              clear hK TQ
              generalize (((V5.setCell ⟨b6, 0, none⟩ (.int .i64 (n : Int))).setCell ⟨b6, 1, none⟩ (.int .i64 (n : Int))).setCell ⟨b6, 2, none⟩ (.slice (some ⟨Y, 0, none⟩) (n * n) (n * n))) = V6 at *
              try simp only [Act.put, List.setIfInBounds_toArray, List.set_cons_zero, List.set_cons_succ]
              refine wpAnyH_done (by kernel_rfl) ?_ _
              go_wp2_with fail
              go_meet
              exact ⟨b5, b6, X, Y, ms, ns, rfl, rfl, ⟨T5, T6, hbX, hbY, hlX, hlY, hX2, hY2, by omega, by omega, by omega, by omega, by omega, by omega, by omega, HB⟩⟩
        case rest =>
          obtain ⟨b5, b6, X, Y, ms, ns, rfl, rfl, H2⟩ := hcut
          have HT := Lib.hid H2
          obtain ⟨⟨u0, u1, u2, u3, u4, u5⟩, ⟨v0, v1, v2, v3, v4, v5⟩, _, _, _, _, _, _, d0, _, _, _, _, _, _, _⟩ := H2
          obtain ⟨q, hq⟩ : ∃ q, q = n * f := ⟨_, rfl⟩
          have pq : (n : Int) * (f : Int) = (q : Int) := by rw [hq]; simp
          have pq2 : (f : Int) * (n : Int) = (q : Int) := by rw [hq, Nat.mul_comm]; simp
          have hqn : q ≤ n * n := by rw [hq]; exact Nat.mul_le_mul_left n hf2
          have hn64 : n * n ≤ 8 * 8 := Nat.mul_le_mul hn8 hn8
          have hq2 : (q : Int) ≤ ((n * n : Nat) : Int) := by omega
          have hq0 : (0 : Int) ≤ (q : Int) := by omega
          have wq : IntKind.i64.wrap (q : Int) = (q : Int) := IntWalk.i64_in _ (by omega)
          have HQ := Lib.hid hq
          clear hq
          go_upto_region 9 with (fail)
          go_region
          clear u0 u1 u2 u3 u4 u5 v0 v1 v2 v3 v4 v5
          have T5 := (three_cell (three_set2 (three_cell (three_set1 HT.out.t5 (.int .i64 (f : Int))) (d := ⟨b6, 0, none⟩) (u := .int .i64 (f : Int)) (fun e => d0 e.symm)) (.slice (some ⟨X, 0, none⟩) q (n * n))) (d := ⟨b6, 2, none⟩) (u := .slice (some ⟨Y, 0, none⟩) q (n * n)) (fun e => d0 e.symm)).drew
          have T6 := (three_set2 (three_cell (three_set0 (three_cell HT.out.t6 (d := ⟨b5, 1, none⟩) (u := .int .i64 (f : Int)) d0) (.int .i64 (f : Int))) (d := ⟨b5, 2, none⟩) (u := .slice (some ⟨X, 0, none⟩) q (n * n)) d0) (.slice (some ⟨Y, 0, none⟩) q (n * n))).drew
          have hbX := (blk_cell (blk_cell (blk_cell (blk_cell HT.out.x (d := ⟨b5, 1, none⟩) (u := .int .i64 (f : Int)) (by dsimp only; exact HT.out.d1)) (d := ⟨b6, 0, none⟩) (u := .int .i64 (f : Int)) (by dsimp only; exact HT.out.d3)) (d := ⟨b5, 2, none⟩) (u := .slice (some ⟨X, 0, none⟩) q (n * n)) (by dsimp only; exact HT.out.d1)) (d := ⟨b6, 2, none⟩) (u := .slice (some ⟨Y, 0, none⟩) q (n * n)) (by dsimp only; exact HT.out.d3)).drew
          have hbY := (blk_cell (blk_cell (blk_cell (blk_cell HT.out.y (d := ⟨b5, 1, none⟩) (u := .int .i64 (f : Int)) (by dsimp only; exact HT.out.d2)) (d := ⟨b6, 0, none⟩) (u := .int .i64 (f : Int)) (by dsimp only; exact HT.out.d4)) (d := ⟨b5, 2, none⟩) (u := .slice (some ⟨X, 0, none⟩) q (n * n)) (by dsimp only; exact HT.out.d2)) (d := ⟨b6, 2, none⟩) (u := .slice (some ⟨Y, 0, none⟩) q (n * n)) (by dsimp only; exact HT.out.d4)).drew
          have hBe := ((((HT.out.be.setCell (p := ⟨b5, 1, none⟩) HT.out.l5 (.int .i64 (f : Int))).setCell (p := ⟨b6, 0, none⟩) HT.out.l6 (.int .i64 (f : Int))).setCell (p := ⟨b5, 2, none⟩) HT.out.l5 (.slice (some ⟨X, 0, none⟩) q (n * n))).setCell (p := ⟨b6, 2, none⟩) HT.out.l6 (.slice (some ⟨Y, 0, none⟩) q (n * n))).drew
          have hsf : wc.heap.size ≤ ((((wc.setCell ⟨b5, 1, none⟩ (.int .i64 (f : Int))).setCell ⟨b6, 0, none⟩ (.int .i64 (f : Int))).setCell ⟨b5, 2, none⟩ (.slice (some ⟨X, 0, none⟩) q (n * n))).setCell ⟨b6, 2, none⟩ (.slice (some ⟨Y, 0, none⟩) q (n * n))).drew.heap.size := by show _ ≤ (World.setCell _ _ _).heap.size; simp only [World.size_setCell]; exact Nat.le_refl _
          generalize ((((wc.setCell ⟨b5, 1, none⟩ (.int .i64 (f : Int))).setCell ⟨b6, 0, none⟩ (.int .i64 (f : Int))).setCell ⟨b5, 2, none⟩ (.slice (some ⟨X, 0, none⟩) q (n * n))).setCell ⟨b6, 2, none⟩ (.slice (some ⟨Y, 0, none⟩) q (n * n))).drew = W9 at *
          have hxs := HT.out.hx
          have hys := HT.out.hy
          have hlx := HT.out.lx
          have hly := HT.out.ly
          have HVX := Lib.hid (bytesV_take (k := q) (c := n * n) hbX (by omega) (by rw [hlx]; exact hqn))
          have HVY := Lib.hid (bytesV_take (k := q) (c := n * n) hbY (by omega) (by rw [hly]; exact hqn))
          have HLX : Hid ((ms.take q).length = n * f) := by rw [Hid, List.length_take, hlx, Nat.min_eq_left hqn, HQ.out]
          have HLY : Hid ((ns.take q).length = f * n) := by rw [Hid, List.length_take, hly, Nat.min_eq_left hqn, HQ.out, Nat.mul_comm]
          have HBE := Lib.hid hBe
          obtain ⟨u0, u1, u2, _, _, _⟩ := T5
          obtain ⟨v0, v1, v2, _, _, _⟩ := T6
          clear hbX hbY hBe hxs hys hlx hly HT d0 hsf
          go_wp2_with fail
          have HTI := refTimes_any n f n (.slice (some ⟨X, 0, none⟩) q (n * n)) (.slice (some ⟨Y, 0, none⟩) q (n * n)) (ms.take q) (ns.take q) W9 HVX.out HVY.out HLX.out HLY.out hn1 (by omega) hf1 (by omega) hn1 (by omega)
          have HPE := Lib.hid (fun i j (hi : i < n) (hj : j < n) => timesL_ent (ms := ms.take q) (bs := ns.take q) (ca := f) hi hj)
          have HPA := Lib.hid (timesL_all (bs := ns.take q) (ra := n) (ca := f) (cb := n) HVX.out.2)
          have HRF := Lib.hid (rankL_product (timesL_length (ms.take q) (ns.take q) n f n) HLX.out HVX.out.2 HVY.out.2 HPA.out HPE.out)
          have HPL := Lib.hid (timesL_length (ms.take q) (ns.take q) n f n)
          generalize timesL (ms.take q) (ns.take q) n f n = P at *
          unfold matV at HTI
          refine HTI.mono ?_
          rintro e wA ⟨v, rfl, ⟨Z, hZ1, hZ2, rfl, hblkZ, _⟩, hbA⟩
          have HBA := Lib.hid (cum2 HBE.out hbA)
          obtain ⟨oZ, hoZ⟩ : ∃ o, o = (Obj.cells #[.int .i64 (n : Int), .int .i64 (n : Int), .slice (some ⟨Z, 0, none⟩) (n * n) (n * n)] 30) := ⟨_, rfl⟩
          have tZ := Three.new wA (.int .i64 (n : Int)) (.int .i64 (n : Int)) (.slice (some ⟨Z, 0, none⟩) (n * n) (n * n)) 30
          rw [← hoZ] at tZ
          have hbB := (Below.refl wA.heap.size wA).alloc (Nat.le_refl _) oZ
          have HBB := Lib.hid (cum2 HBA.out hbB)
          have hbvZ : BytesV (wA.alloc oZ) (.slice (some ⟨Z, 0, none⟩) (n * n) (n * n)) P := by
            have := BytesV.of_blk (c := n * n) (blk_below hblkZ hZ2 hbB) (by simp; omega)
            rw [HPL.out] at this; exact this
          have HVZ := Lib.hid hbvZ
          have TZ := Lib.hid tZ
          obtain ⟨x0, x1, x2, _, _, _⟩ := tZ
          rw [hoZ] at x0 x1 x2
          clear hbA hbB hbvZ hblkZ u0 u1 u2 v0 v1 v2 HBE HBA HVX HVY HTI
          unfold matV
          go_wp2_with fail
          rw [← hoZ]
          clear x0 x1 x2 hoZ
          generalize wA.alloc oZ = WB at *
          generalize wA.heap.size = bz at *
          have HRK := rank_yes n n Z 0 (n * n) P WB (by rw [HPL.out]; exact HVZ.out) HPL.out hn1 (by omega) hn1 (by omega)
          rw [HPL.out] at HRK
          unfold matV at HRK
          refine HRK.mono ?_
          rintro e wC ⟨rfl, hbC⟩
          have HBC := Lib.hid (cum2 HBB.out hbC)
          have HVC := Lib.hid (HVZ.out.below hbC)
          obtain ⟨x0, x1, x2, _, _, _⟩ := TZ.out.below hbC
          obtain ⟨rr, hrr⟩ : ∃ rr, rr = rankL n n P := ⟨_, rfl⟩
          rw [← hrr] at HRF ⊢
          have HRR := Lib.hid hrr
          have hrf := HRF.out
          have hrd : decide ((f : Int) < (rr : Int)) = false := decide_eq_false (by omega)
          clear hbC hrr HBB HVZ
          go_wp2_with (first | (go_at_call 13; refine (num3_any _ _).mono ?_; rintro e wn ⟨rfl, rfl⟩))
          have HRR2 := refRank_any n n (.slice (some ⟨Z, 0, none⟩) (n * n) (n * n)) P wC HVC.out HPL.out hn1 (by omega) hn1 (by omega)
          rw [← HRR.out] at HRR2
          unfold matV at HRR2
          refine HRR2.mono ?_
          rintro e wD ⟨rfl, hbD⟩
          have HBD := Lib.hid (cum2 HBC.out hbD)
          clear hbD x0 x1 x2
          go_wp2_with fail
          go_roundw
          case rel => exact ⟨n + 1, by go_num, by omega, by omega, HBD⟩
          case measure => simp [intOf]; omega
      · have hnd : decide ((n : Int) ≤ 8) = false := by simp; omega
        have HB2 := Lib.hid (HB1.out.trans (HB.out.mono HB1.out.size))
        go_wp2_with fail
        refine (wakes3_any _).mono ?_
        rintro e w5 ⟨rfl, hb5⟩
        have hfin := HB2.out.trans (hb5.mono HB2.out.size)
        clear hb5
        go_wp2_with fail
        go_ret
        exact ⟨rfl, hfin⟩
  · go_wp2_with fail
    go_ret
    exact ⟨rfl, HB1.out⟩
end Go.Proofs.Ytibinkppbdeofaa
