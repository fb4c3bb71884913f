/- siloref1.swept, walked. -/
import Derived.Test.YtijcmdcjjcemfaaPkA09
import Derived.OrdersHeld
import Derived.Deep.RegionHeld
import Derived.Deep.RegionHeld3
namespace Go.Proofs.Ytijcmdcjjcemfaa
open Go.ChangeShapes Go.WideShapes Go.ChangeAt Go.RowKit Go.Joins Go.Shelf
set_option linter.unusedVariables false
set_option linter.unusedSimpArgs false

theorem elim_full (ra ca co : Nat) (M O : List Nat) (n k : Nat) (h : (elim ra ca co M O n).2.2 = ra) : elim ra ca co M O (n + k) = elim ra ca co M O n := by
  induction k with
  | zero => rfl
  | succ k ih =>
    rw [← Nat.add_assoc, elim_succ, ih, colStep, h, Nat.sub_self, if_neg]
    show ¬ ra < ra
    exact Nat.lt_irrefl ra

/-- How things lie while the page sweeps: both copies, both boxes, the result's cell. -/
structure Swp (w : World) (bm B1 B2 : Nat) (ra ca co n1 n2 k1 k2 : Nat) (M O : List Nat) : Prop where
  a : BytesBlk w B1 M
  b : BytesBlk w B2 O
  m : Three w bm (.int .i64 (ra : Int)) (.int .i64 (ca : Int)) (.slice (some ⟨B1, 0, none⟩) n1 k1)
  o : Three w (bm + 1) (.int .i64 (ra : Int)) (.int .i64 (co : Int)) (.slice (some ⟨B2, 0, none⟩) n2 k2)
  r : Three w (bm + 1 + 1) (.int .i64 0) (.int .i64 0) (.slice none 0 0)
  l1 : B1 < w.heap.size
  l2 : B2 < w.heap.size
theorem Swp.below {w w' : World} {bm B1 B2 ra ca co n1 n2 k1 k2 : Nat} {M O : List Nat} (h : Swp w bm B1 B2 ra ca co n1 n2 k1 k2 M O) (hb : Below w.heap.size w w') : Swp w' bm B1 B2 ra ca co n1 n2 k1 k2 M O :=
  ⟨blk_below h.a h.l1 hb, blk_below h.b h.l2 hb, h.m.below hb, h.o.below hb, h.r.below hb, Nat.lt_of_lt_of_le h.l1 hb.size, Nat.lt_of_lt_of_le h.l2 hb.size⟩
theorem Swp.putA {w w' : World} {bm B1 B2 ra ca co n1 n2 k1 k2 : Nat} {M M' O : List Nat} (h : Swp w bm B1 B2 ra ca co n1 n2 k1 k2 M O) (k : Kept (fun j => j = B1) w w') (ha : BytesBlk w' B1 M') (h1 : bm + 1 + 1 < B1) (h2 : B1 ≠ B2) : Swp w' bm B1 B2 ra ca co n1 n2 k1 k2 M' O :=
  ⟨ha, blk_keptM h.b h.l2 k (fun e => h2 e.symm), h.m.below' k (by omega), h.o.below' k (by omega), h.r.below' k (by omega), Nat.lt_of_lt_of_le h.l1 k.size, Nat.lt_of_lt_of_le h.l2 k.size⟩
theorem Swp.putB {w w' : World} {bm B1 B2 ra ca co n1 n2 k1 k2 : Nat} {M O O' : List Nat} (h : Swp w bm B1 B2 ra ca co n1 n2 k1 k2 M O) (k : Kept (fun j => j = B2) w w') (hb : BytesBlk w' B2 O') (h1 : bm + 1 + 1 < B2) (h2 : B1 ≠ B2) : Swp w' bm B1 B2 ra ca co n1 n2 k1 k2 M O' :=
  ⟨blk_keptM h.a h.l1 k h2, hb, h.m.below' k (by omega), h.o.below' k (by omega), h.r.below' k (by omega), Nat.lt_of_lt_of_le h.l1 k.size, Nat.lt_of_lt_of_le h.l2 k.size⟩

theorem swp_made {w2 : World} {bm g1 g2 ra ca co n1 n2 k1 k2 : Nat} {M O : List Nat} {x1 x2 x3 y1 y2 y3 : Value} (ha : BytesBlk w2 g1 M) (hb : BytesBlk w2 g2 O) (t1 : Three w2 bm x1 x2 x3) (t2 : Three w2 (bm + 1) y1 y2 y3) (t3 : Three w2 (bm + 1 + 1) (.int .i64 0) (.int .i64 0) (.slice none 0 0)) (l1 : g1 < w2.heap.size) (l2 : g2 < w2.heap.size) (m1 : bm + 1 + 1 < g1) (m2 : bm + 1 + 1 < g2) :
    Swp ((((((w2.setCell ⟨bm, 0, none⟩ (.int .i64 (ra : Int))).setCell ⟨bm, 1, none⟩ (.int .i64 (ca : Int))).setCell ⟨bm, 2, none⟩ (.slice (some ⟨g1, 0, none⟩) n1 k1)).setCell ⟨bm + 1, 0, none⟩ (.int .i64 (ra : Int))).setCell ⟨bm + 1, 1, none⟩ (.int .i64 (co : Int))).setCell ⟨bm + 1, 2, none⟩ (.slice (some ⟨g2, 0, none⟩) n2 k2)) bm g1 g2 ra ca co n1 n2 k1 k2 M O := by
  have p1 := three_put t1 (.int .i64 (ra : Int)) (.int .i64 (ca : Int)) (.slice (some ⟨g1, 0, none⟩) n1 k1)
  have q1 := three_cell (three_cell (three_cell t2 (d := ⟨bm, 0, none⟩) (u := .int .i64 (ra : Int)) (by simp)) (d := ⟨bm, 1, none⟩) (u := .int .i64 (ca : Int)) (by simp)) (d := ⟨bm, 2, none⟩) (u := .slice (some ⟨g1, 0, none⟩) n1 k1) (by simp)
  refine ⟨?_, ?_, ?_, three_put q1 _ _ _, ?_, by simp only [World.size_setCell]; exact l1, by simp only [World.size_setCell]; exact l2⟩
  · exact blk_cell (blk_cell (blk_cell (blk_cell (blk_cell (blk_cell ha (by dsimp only; omega)) (by dsimp only; omega)) (by dsimp only; omega)) (by dsimp only; omega)) (by dsimp only; omega)) (by dsimp only; omega)
  · exact blk_cell (blk_cell (blk_cell (blk_cell (blk_cell (blk_cell hb (by dsimp only; omega)) (by dsimp only; omega)) (by dsimp only; omega)) (by dsimp only; omega)) (by dsimp only; omega)) (by dsimp only; omega)
  · exact three_cell (three_cell (three_cell p1 (by simp)) (by simp)) (by simp)
  · exact three_cell (three_cell (three_cell (three_cell (three_cell (three_cell t3 (by dsimp only; omega)) (by dsimp only; omega)) (by dsimp only; omega)) (by dsimp only; omega)) (by dsimp only; omega)) (by dsimp only; omega)

set_option maxRecDepth 100000 in
set_option maxHeartbeats 8000000 in
theorem swept_any (ra ca co : Nat) (vm vo : Value) (M O : List Nat) (w : World) (h1 : BytesV w vm M) (h2 : BytesV w vo O)
    (hM : M.length = ra * ca) (hO : O.length = ra * co) (r1 : 1 ≤ ra) (r16 : ra ≤ 16) (c1 : 1 ≤ ca) (c16 : ca ≤ 16) (o1 : 1 ≤ co) (o16 : co ≤ 16) :
    Calls Try.prog 49 #[matV (ra : Int) (ca : Int) vm, matV (ra : Int) (co : Int) vo] w fun e w' =>
      ∃ B k, w.heap.size ≤ B ∧ B < w'.heap.size ∧ e = .returned (.tuple #[.int .i64 ((elim ra ca co M O ca).2.2 : Int), matV (ra : Int) (co : Int) (.slice (some ⟨B, 0, none⟩) O.length k)]) ∧ BytesBlk w' B (elim ra ca co M O ca).2.1 ∧ Below w.heap.size w w' := by
  obtain ⟨A1, d1, rfl⟩ := h1.shape
  obtain ⟨A2, d2, rfl⟩ := h2.shape
  obtain ⟨oA, hoA⟩ : ∃ x, x = (Obj.cells #[.int .i64 (ra : Int), .int .i64 (ca : Int), .slice A1 M.length d1] 55) := ⟨_, rfl⟩
  obtain ⟨oB, hoB⟩ : ∃ x, x = (Obj.cells #[.int .i64 (ra : Int), .int .i64 (co : Int), .slice A2 O.length d2] 55) := ⟨_, rfl⟩
  obtain ⟨oR, hoR⟩ : ∃ x, x = (Obj.cells #[.int .i64 0, .int .i64 0, .slice none 0 0] 55) := ⟨_, rfl⟩
  have tA := Three.new w (.int .i64 (ra : Int)) (.int .i64 (ca : Int)) (.slice A1 M.length d1) 55
  rw [← hoA] at tA
  have tB := Three.new (w.alloc oA) (.int .i64 (ra : Int)) (.int .i64 (co : Int)) (.slice A2 O.length d2) 55
  rw [World.size_alloc, ← hoB] at tB
  have tR := Three.new ((w.alloc oA).alloc oB) (.int .i64 0) (.int .i64 0) (.slice none 0 0) 55
  rw [World.size_alloc, World.size_alloc, ← hoR] at tR
  have hbe : Below w.heap.size w (((w.alloc oA).alloc oB).alloc oR) := (((Below.refl w.heap.size w).alloc (Nat.le_refl _) oA).alloc (by simp) oB).alloc (by simp; omega) oR
  have TA := Lib.hid ((tA.alloc oB).alloc oR)
  have TB := Lib.hid (tB.alloc oR)
  have TR := Lib.hid tR
  have hsz : (((w.alloc oA).alloc oB).alloc oR).heap.size = w.heap.size + 1 + 1 + 1 := by simp
  have HSZ := Lib.hid hsz
  have HBE := Lib.hid hbe
  have H1 := Lib.hid (h1.below hbe)
  have H2 := Lib.hid (h2.below hbe)
  have HM := Lib.hid hM
  have HO := Lib.hid hO
  clear tA tB tR hbe h1 h2 hsz hM hO
  unfold matV
  go_enter Try.func49, Try.ntmps49
  go_upto_region 1 with (fail)
  rw [← hoA, ← hoB, ← hoR]
  generalize ((w.alloc oA).alloc oB).alloc oR = W0 at *
  clear hoA hoB hoR
  obtain ⟨a0, a1, a2, a3, a4, a5⟩ := TA.out
  obtain ⟨b0, b1, b2, b3, b4, b5⟩ := TB.out
  have hM25 : M.length ≤ 256 := by rw [HM.out]; exact Nat.mul_le_mul r16 c16
  have hO25 : O.length ≤ 256 := by rw [HO.out]; exact Nat.mul_le_mul r16 o16
  have hM0 : 1 ≤ M.length := by rw [HM.out]; exact Nat.mul_le_mul r1 c1
  have hO0 : 1 ≤ O.length := by rw [HO.out]; exact Nat.mul_le_mul r1 o1
  have HLM : Hid (∀ x ∈ M, x < 256) := H1.out.2
  have HLO : Hid (∀ x ∈ O, x < 256) := H2.out.2
  go_cut [12, 13, 14, 15] from 12 to 15 (fun _ _ _ _ wx => ∃ B1 B2 k1 k2, w.heap.size + 1 + 1 < B1 ∧ w.heap.size + 1 + 1 < B2 ∧ B1 ≠ B2 ∧ Swp wx w.heap.size B1 B2 ra ca co M.length O.length k1 k2 M O ∧ Below w.heap.size w wx ∧ W0.heap.size ≤ wx.heap.size)
  case first =>
    have hz1 : w.heap.size + 1 + 1 + 1 ≤ W0.heap.size := by have := HSZ.out; omega
    refine wp_region_held (S := fun _ => True) (by kernel_rfl) ?_
    change wpAnyH _ _ _ _ _ 6 _ _ W0.drew
    refine wpAnyH_ready (rs := [0, 2]) (by kernel_rfl) (by simp) ?_
    refine AllReadyH.cons rfl (fun K hK => ?_) (AllReadyH.cons rfl (fun K hK => ?_) AllReadyH.nil)
    · rw [if_pos (by rfl)]
      go_simp
      refine hK.out _ _ trivial (fun _ => ?_)
      clear hK
      try simp only [Act.put, List.setIfInBounds_toArray, List.set_cons_zero, List.set_cons_succ]
      refine wpAnyH_ready (rs := [1, 2]) (by kernel_rfl) (by simp) ?_
      refine AllReadyH.cons rfl (fun K hK => ?_) (AllReadyH.cons rfl (fun K hK => ?_) AllReadyH.nil)
      · rw [if_pos (by rfl)]
        go_simp
        refine (copyMatrix_any (ra : Int) (ca : Int) (.slice A1 M.length d1) M _ (H1.out.below (Below.drew (Below.refl _ _))) (by omega)).mono ?_
        rintro e w1 ⟨v1, rfl, hown1, hb1⟩
        obtain ⟨g1, e1, rfl, hg1, hg2, hg3, hg4, hg5, hblk1⟩ := own_blk hown1 (by omega) HLM.out
        have HX1 := Lib.hid hblk1
        have HB1 := Lib.hid hb1
        have T1 := Lib.hid (TA.out.drew.below hb1)
        have T2 := Lib.hid (TB.out.drew.below hb1)
        have T3 := Lib.hid (TR.out.drew.below hb1)
        have H21 := Lib.hid ((H2.out.below (Below.drew (Below.refl _ _))).below hb1)
        clear hown1 hb1 hblk1 a0 a1 a2 a3 a4 a5 b0 b1 b2 b3 b4 b5
        obtain ⟨b0, b1, b2, _, _, _⟩ := T2.out
        refine hK.out _ _ trivial (fun _ => ?_)
        clear hK
        unfold matV
        try simp only [Act.put, List.setIfInBounds_toArray, List.set_cons_zero, List.set_cons_succ]
        refine wpAnyH_ready (rs := [2]) (by kernel_rfl) (by simp) ?_
        refine AllReadyH.cons rfl (fun K hK => ?_) AllReadyH.nil
        rw [if_pos (by rfl)]
        go_simp
        refine hK.out _ _ trivial (fun _ => ?_)
        clear hK
        try simp only [Act.put, List.setIfInBounds_toArray, List.set_cons_zero, List.set_cons_succ]
        refine wpAnyH_ready (rs := [3]) (by kernel_rfl) (by simp) ?_
        refine AllReadyH.cons rfl (fun K hK => ?_) AllReadyH.nil
        rw [if_pos (by rfl)]
        go_simp
        refine (copyMatrix_any (ra : Int) (co : Int) (.slice A2 O.length d2) O _ H21.out (by omega)).mono ?_
        rintro e w2 ⟨v2, rfl, hown2, hb2⟩
        obtain ⟨g2, e2, rfl, hh1, hh2, hh3, hh4, hh5, hblk2⟩ := own_blk hown2 (by omega) HLO.out
        have HX2 := Lib.hid hblk2
        have HB2 := Lib.hid hb2
        clear hown2 hb2 hblk2 b0 b1 b2
        obtain ⟨a0, a1, a2, a3, a4, a5⟩ := T1.out.below HB2.out
        obtain ⟨b0, b1, b2, b3, b4, b5⟩ := T2.out.below HB2.out
        have hU := And.intro (T1.out.below HB2.out) (And.intro (T2.out.below HB2.out) (T3.out.below HB2.out))
        have HU := Lib.hid hU
        clear hU
        refine hK.out _ _ trivial (fun _ => ?_)
        clear hK
        unfold matV
        try simp only [Act.put, List.setIfInBounds_toArray, List.set_cons_zero, List.set_cons_succ]
        refine wpAnyH_ready (rs := [4]) (by kernel_rfl) (by simp) ?_
        refine AllReadyH.cons rfl (fun K hK => ?_) AllReadyH.nil
        rw [if_pos (by rfl)]
        go_simp
        refine hK.out _ _ trivial (fun _ => ?_)
        clear hK
        try simp only [Act.put, List.setIfInBounds_toArray, List.set_cons_zero, List.set_cons_succ]
        refine wpAnyH_ready (rs := [5]) (by kernel_rfl) (by simp) ?_
        refine AllReadyH.cons rfl (fun K hK => ?_) AllReadyH.nil
        rw [if_pos (by rfl)]
        go_simp
        refine hK.out _ _ trivial (fun _ => ?_)
        clear hK
        try simp only [Act.put, List.setIfInBounds_toArray, List.set_cons_zero, List.set_cons_succ]
        refine wpAnyH_done (by kernel_rfl) ?_ _
        have hsB := HB2.out.size
        have hg1' : W0.heap.size ≤ g1 := hg1
        have hbw2 := ((HBE.out.trans (Below.drew (Below.refl _ _))).trans (HB1.out.mono HBE.out.size)).trans (HB2.out.mono (by have := HBE.out.size; have := HB1.out.size; exact Nat.le_trans (by assumption) (by assumption)))
        have hsw := swp_made (ra := ra) (ca := ca) (co := co) (n1 := M.length) (n2 := O.length) (k1 := e1) (k2 := e2) (blk_below HX1.out hg2 HB2.out) HX2.out HU.out.1 HU.out.2.1 HU.out.2.2 (by omega) hh2 (by omega) (by omega)
        have hs2 : W0.heap.size ≤ w2.heap.size := by omega
        clear a0 a1 a2 a3 a4 a5 b0 b1 b2 b3 b4 b5
        go_wp2_with fail
        go_meet
        exact ⟨g1, g2, e1, e2, by omega, by omega, by omega, hsw, (((((hbw2.setCell (p := ⟨w.heap.size, 0, none⟩) (by simp) _).setCell (p := ⟨w.heap.size, 1, none⟩) (by simp) _).setCell (p := ⟨w.heap.size, 2, none⟩) (by simp) _).setCell (p := ⟨w.heap.size + 1, 0, none⟩) (by simp) _).setCell (p := ⟨w.heap.size + 1, 1, none⟩) (by simp) _).setCell (p := ⟨w.heap.size + 1, 2, none⟩) (by simp) _, by simp only [World.size_setCell]; exact hs2⟩
      · rw [if_pos (by rfl)]
        go_simp
        refine hK.out _ _ trivial (fun _ => ?_)
        clear hK
        try simp only [Act.put, List.setIfInBounds_toArray, List.set_cons_zero, List.set_cons_succ]
        refine wpAnyH_ready (rs := [1]) (by kernel_rfl) (by simp) ?_
        refine AllReadyH.cons rfl (fun K hK => ?_) AllReadyH.nil
        rw [if_pos (by rfl)]
        go_simp
        refine (copyMatrix_any (ra : Int) (ca : Int) (.slice A1 M.length d1) M _ (H1.out.below (Below.drew (Below.refl _ _))) (by omega)).mono ?_
        rintro e w1 ⟨v1, rfl, hown1, hb1⟩
        obtain ⟨g1, e1, rfl, hg1, hg2, hg3, hg4, hg5, hblk1⟩ := own_blk hown1 (by omega) HLM.out
        have HX1 := Lib.hid hblk1
        have HB1 := Lib.hid hb1
        have T1 := Lib.hid (TA.out.drew.below hb1)
        have T2 := Lib.hid (TB.out.drew.below hb1)
        have T3 := Lib.hid (TR.out.drew.below hb1)
        have H21 := Lib.hid ((H2.out.below (Below.drew (Below.refl _ _))).below hb1)
        clear hown1 hb1 hblk1 a0 a1 a2 a3 a4 a5 b0 b1 b2 b3 b4 b5
        obtain ⟨b0, b1, b2, _, _, _⟩ := T2.out
        refine hK.out _ _ trivial (fun _ => ?_)
        clear hK
        unfold matV
        try simp only [Act.put, List.setIfInBounds_toArray, List.set_cons_zero, List.set_cons_succ]
        refine wpAnyH_ready (rs := [3]) (by kernel_rfl) (by simp) ?_
        refine AllReadyH.cons rfl (fun K hK => ?_) AllReadyH.nil
        rw [if_pos (by rfl)]
        go_simp
        refine (copyMatrix_any (ra : Int) (co : Int) (.slice A2 O.length d2) O _ H21.out (by omega)).mono ?_
        rintro e w2 ⟨v2, rfl, hown2, hb2⟩
        obtain ⟨g2, e2, rfl, hh1, hh2, hh3, hh4, hh5, hblk2⟩ := own_blk hown2 (by omega) HLO.out
        have HX2 := Lib.hid hblk2
        have HB2 := Lib.hid hb2
        clear hown2 hb2 hblk2 b0 b1 b2
        obtain ⟨a0, a1, a2, a3, a4, a5⟩ := T1.out.below HB2.out
        obtain ⟨b0, b1, b2, b3, b4, b5⟩ := T2.out.below HB2.out
        have hU := And.intro (T1.out.below HB2.out) (And.intro (T2.out.below HB2.out) (T3.out.below HB2.out))
        have HU := Lib.hid hU
        clear hU
        refine hK.out _ _ trivial (fun _ => ?_)
        clear hK
        unfold matV
        try simp only [Act.put, List.setIfInBounds_toArray, List.set_cons_zero, List.set_cons_succ]
        refine wpAnyH_ready (rs := [4]) (by kernel_rfl) (by simp) ?_
        refine AllReadyH.cons rfl (fun K hK => ?_) AllReadyH.nil
        rw [if_pos (by rfl)]
        go_simp
        refine hK.out _ _ trivial (fun _ => ?_)
        clear hK
        try simp only [Act.put, List.setIfInBounds_toArray, List.set_cons_zero, List.set_cons_succ]
        refine wpAnyH_ready (rs := [5]) (by kernel_rfl) (by simp) ?_
        refine AllReadyH.cons rfl (fun K hK => ?_) AllReadyH.nil
        rw [if_pos (by rfl)]
        go_simp
        refine hK.out _ _ trivial (fun _ => ?_)
        clear hK
        try simp only [Act.put, List.setIfInBounds_toArray, List.set_cons_zero, List.set_cons_succ]
        refine wpAnyH_done (by kernel_rfl) ?_ _
        have hsB := HB2.out.size
        have hg1' : W0.heap.size ≤ g1 := hg1
        have hbw2 := ((HBE.out.trans (Below.drew (Below.refl _ _))).trans (HB1.out.mono HBE.out.size)).trans (HB2.out.mono (by have := HBE.out.size; have := HB1.out.size; exact Nat.le_trans (by assumption) (by assumption)))
        have hsw := swp_made (ra := ra) (ca := ca) (co := co) (n1 := M.length) (n2 := O.length) (k1 := e1) (k2 := e2) (blk_below HX1.out hg2 HB2.out) HX2.out HU.out.1 HU.out.2.1 HU.out.2.2 (by omega) hh2 (by omega) (by omega)
        have hs2 : W0.heap.size ≤ w2.heap.size := by omega
        clear a0 a1 a2 a3 a4 a5 b0 b1 b2 b3 b4 b5
        go_wp2_with fail
        go_meet
        exact ⟨g1, g2, e1, e2, by omega, by omega, by omega, hsw, (((((hbw2.setCell (p := ⟨w.heap.size, 0, none⟩) (by simp) _).setCell (p := ⟨w.heap.size, 1, none⟩) (by simp) _).setCell (p := ⟨w.heap.size, 2, none⟩) (by simp) _).setCell (p := ⟨w.heap.size + 1, 0, none⟩) (by simp) _).setCell (p := ⟨w.heap.size + 1, 1, none⟩) (by simp) _).setCell (p := ⟨w.heap.size + 1, 2, none⟩) (by simp) _, by simp only [World.size_setCell]; exact hs2⟩
    · rw [if_pos (by rfl)]
      go_simp
      refine hK.out _ _ trivial (fun _ => ?_)
      clear hK
      try simp only [Act.put, List.setIfInBounds_toArray, List.set_cons_zero, List.set_cons_succ]
      refine wpAnyH_ready (rs := [0]) (by kernel_rfl) (by simp) ?_
      refine AllReadyH.cons rfl (fun K hK => ?_) AllReadyH.nil
      rw [if_pos (by rfl)]
      go_simp
      refine hK.out _ _ trivial (fun _ => ?_)
      clear hK
      try simp only [Act.put, List.setIfInBounds_toArray, List.set_cons_zero, List.set_cons_succ]
      refine wpAnyH_ready (rs := [1]) (by kernel_rfl) (by simp) ?_
      refine AllReadyH.cons rfl (fun K hK => ?_) AllReadyH.nil
      rw [if_pos (by rfl)]
      go_simp
      refine (copyMatrix_any (ra : Int) (ca : Int) (.slice A1 M.length d1) M _ (H1.out.below (Below.drew (Below.refl _ _))) (by omega)).mono ?_
      rintro e w1 ⟨v1, rfl, hown1, hb1⟩
      obtain ⟨g1, e1, rfl, hg1, hg2, hg3, hg4, hg5, hblk1⟩ := own_blk hown1 (by omega) HLM.out
      have HX1 := Lib.hid hblk1
      have HB1 := Lib.hid hb1
      have T1 := Lib.hid (TA.out.drew.below hb1)
      have T2 := Lib.hid (TB.out.drew.below hb1)
      have T3 := Lib.hid (TR.out.drew.below hb1)
      have H21 := Lib.hid ((H2.out.below (Below.drew (Below.refl _ _))).below hb1)
      clear hown1 hb1 hblk1 a0 a1 a2 a3 a4 a5 b0 b1 b2 b3 b4 b5
      obtain ⟨b0, b1, b2, _, _, _⟩ := T2.out
      refine hK.out _ _ trivial (fun _ => ?_)
      clear hK
      unfold matV
      try simp only [Act.put, List.setIfInBounds_toArray, List.set_cons_zero, List.set_cons_succ]
      refine wpAnyH_ready (rs := [3]) (by kernel_rfl) (by simp) ?_
      refine AllReadyH.cons rfl (fun K hK => ?_) AllReadyH.nil
      rw [if_pos (by rfl)]
      go_simp
      refine (copyMatrix_any (ra : Int) (co : Int) (.slice A2 O.length d2) O _ H21.out (by omega)).mono ?_
      rintro e w2 ⟨v2, rfl, hown2, hb2⟩
      obtain ⟨g2, e2, rfl, hh1, hh2, hh3, hh4, hh5, hblk2⟩ := own_blk hown2 (by omega) HLO.out
      have HX2 := Lib.hid hblk2
      have HB2 := Lib.hid hb2
      clear hown2 hb2 hblk2 b0 b1 b2
      obtain ⟨a0, a1, a2, a3, a4, a5⟩ := T1.out.below HB2.out
      obtain ⟨b0, b1, b2, b3, b4, b5⟩ := T2.out.below HB2.out
      have hU := And.intro (T1.out.below HB2.out) (And.intro (T2.out.below HB2.out) (T3.out.below HB2.out))
      have HU := Lib.hid hU
      clear hU
      refine hK.out _ _ trivial (fun _ => ?_)
      clear hK
      unfold matV
      try simp only [Act.put, List.setIfInBounds_toArray, List.set_cons_zero, List.set_cons_succ]
      refine wpAnyH_ready (rs := [4]) (by kernel_rfl) (by simp) ?_
      refine AllReadyH.cons rfl (fun K hK => ?_) AllReadyH.nil
      rw [if_pos (by rfl)]
      go_simp
      refine hK.out _ _ trivial (fun _ => ?_)
      clear hK
      try simp only [Act.put, List.setIfInBounds_toArray, List.set_cons_zero, List.set_cons_succ]
      refine wpAnyH_ready (rs := [5]) (by kernel_rfl) (by simp) ?_
      refine AllReadyH.cons rfl (fun K hK => ?_) AllReadyH.nil
      rw [if_pos (by rfl)]
      go_simp
      refine hK.out _ _ trivial (fun _ => ?_)
      clear hK
      try simp only [Act.put, List.setIfInBounds_toArray, List.set_cons_zero, List.set_cons_succ]
      refine wpAnyH_done (by kernel_rfl) ?_ _
      have hsB := HB2.out.size
      have hg1' : W0.heap.size ≤ g1 := hg1
      have hbw2 := ((HBE.out.trans (Below.drew (Below.refl _ _))).trans (HB1.out.mono HBE.out.size)).trans (HB2.out.mono (by have := HBE.out.size; have := HB1.out.size; exact Nat.le_trans (by assumption) (by assumption)))
      have hsw := swp_made (ra := ra) (ca := ca) (co := co) (n1 := M.length) (n2 := O.length) (k1 := e1) (k2 := e2) (blk_below HX1.out hg2 HB2.out) HX2.out HU.out.1 HU.out.2.1 HU.out.2.2 (by omega) hh2 (by omega) (by omega)
      have hs2 : W0.heap.size ≤ w2.heap.size := by omega
      clear a0 a1 a2 a3 a4 a5 b0 b1 b2 b3 b4 b5
      go_wp2_with fail
      go_meet
      exact ⟨g1, g2, e1, e2, by omega, by omega, by omega, hsw, (((((hbw2.setCell (p := ⟨w.heap.size, 0, none⟩) (by simp) _).setCell (p := ⟨w.heap.size, 1, none⟩) (by simp) _).setCell (p := ⟨w.heap.size, 2, none⟩) (by simp) _).setCell (p := ⟨w.heap.size + 1, 0, none⟩) (by simp) _).setCell (p := ⟨w.heap.size + 1, 1, none⟩) (by simp) _).setCell (p := ⟨w.heap.size + 1, 2, none⟩) (by simp) _, by simp only [World.size_setCell]; exact hs2⟩
  case rest =>
    obtain ⟨B1, B2, k1, k2, hb1, hb2, hne, hsw, hbw, hsz⟩ := hcut
    clear a0 a1 a2 a3 a4 a5 b0 b1 b2 b3 b4 b5
    have HSW := Lib.hid hsw
    have HBW := Lib.hid hbw
    clear hsw hbw TA TB TR H1 H2
    go_wp2_with fail
    go_loopw [6, 7] (fun rr cc wr => ∃ c : Nat, cc = .int .i64 c ∧ c ≤ ca ∧ rr = .int .i64 ((elim ra ca co M O c).2.2 : Int) ∧ Hid (Swp wr w.heap.size B1 B2 ra ca co M.length O.length k1 k2 (elim ra ca co M O c).1 (elim ra ca co M O c).2.1) ∧ Hid (Below w.heap.size w wr)) (fun _ cc _ => ca - (intOf cc).toNat)
    case atStart => exact ⟨0, rfl, by omega, rfl, HSW, HBW⟩
    case round =>
      obtain ⟨c, rfl, hc, rfl, HS, HB⟩ := hrel
      have HEL := Lib.hid (elim_length ra ca co M O c)
      have HER := Lib.hid (elim_rank ra ca co M O c)
      have HES := Lib.hid (elim_succ ra ca co M O c)
      have HEF := Lib.hid (elim_full ra ca co M O c (ca - c))
      obtain ⟨S, hS⟩ : ∃ S, S = elim ra ca co M O c := ⟨_, rfl⟩
      rw [← hS] at HS HEL HER HES HEF ⊢
      have HSE := Lib.hid hS
      clear hS
      obtain ⟨Mc, Oc, rk⟩ := S
      dsimp only at HS HEL HER HES HEF ⊢
      obtain ⟨m0, m1, m2, _, _, _⟩ := HS.out.m
      have hrk : rk ≤ ra := HER.out.1
      by_cases hcc : c < ca
      · by_cases hrr : rk < ra
        · go_wp2_with fail
          go_loop [8] (fun aa => ∃ at_ : Nat, aa = .int .i64 at_ ∧ rk ≤ at_ ∧ at_ ≤ ra ∧ findP Mc ca c rk (ra - rk) = findP Mc ca c at_ (ra - at_)) (fun aa => ra - (intOf aa).toNat)
          case atStart => exact ⟨rk, rfl, Nat.le_refl _, hrk, rfl⟩
          case round =>
            obtain ⟨i, rfl, hri, hir, hfp⟩ := hrel
            by_cases hlt : i < ra
            · have hin : (i + 1) * ca ≤ M.length := by rw [HM.out]; exact Nat.mul_le_mul_right ca hlt
              have hin5 := hin
              rw [Nat.add_mul, Nat.one_mul] at hin5
              have hlm : Mc.length = M.length := HEL.out.1
              obtain ⟨q1, q2, _⟩ := HS.out.a (i * ca + c) (by omega)
              obtain ⟨x, hx⟩ : ∃ x, x = Mc.getD (i * ca + c) 0 := ⟨_, rfl⟩
              rw [← hx] at q1 q2
              have HX := Lib.hid hx
              have HQ := Lib.hid q1
              obtain ⟨x1, hx1⟩ : ∃ x1, x1 = i * ca := ⟨_, rfl⟩
              have p1 : (i : Int) * (ca : Int) = (x1 : Int) := by rw [hx1]; simp
              have hxs1 : x1 ≤ 16 * 16 := by rw [hx1]; exact Nat.mul_le_mul (by omega) c16
              rw [← hx1] at q2 hin5
              have k0 : (0 : Int) ≤ (x1 : Int) + (c : Int) := by omega
              have k1' : (x1 : Int) + (c : Int) < (M.length : Int) := by omega
              have e1 : ((x1 : Int) + (c : Int)).toNat = x1 + c := by omega
              have w2' : IntKind.i64.wrap ((x1 : Int) + (c : Int)) = (x1 : Int) + (c : Int) := IntWalk.i64_in _ (by omega)
              have w4' : IntKind.i64.wrap (x1 : Int) = (x1 : Int) := IntWalk.i64_in _ (by omega)
              clear hx q1 hx1
              by_cases hx0 : x = 0
              · have hfp2 : findP Mc ca c rk (ra - rk) = findP Mc ca c (i + 1) (ra - (i + 1)) := by
                  rw [hfp, show ra - i = (ra - (i + 1)) + 1 by omega, findP, if_pos (HX.out.symm.trans hx0)]
                have hxd : ((x : Int) == 0) = true := by rw [hx0]; rfl
                clear hx0 hfp
                go_wp2_with fail
                go_round
                case rel => exact ⟨i + 1, by go_num, by omega, by omega, hfp2⟩
                case measure => simp [intOf]; omega
              · have hfi : findP Mc ca c rk (ra - rk) = i := by
                  rw [hfp, show ra - i = (ra - (i + 1)) + 1 by omega, findP, if_neg (fun e => hx0 (HX.out.trans e))]
                have hxd : ((x : Int) == 0) = false := beq_eq_false_iff_ne.2 (by omega)
                have hid : ((i : Int) == (ra : Int)) = false := beq_eq_false_iff_ne.2 (by omega)
                have HN : Hid (elim ra ca co M O (c + 1) = ((clrAll ca co c rk ra (pivM ca c i rk Mc, pivO ca co c i rk Mc Oc)).1, (clrAll ca co c rk ra (pivM ca c i rk Mc, pivO ca co c i rk Mc Oc)).2, rk + 1)) := by rw [Hid, HES.out, colStep]; dsimp only; rw [hfi, if_pos hlt]
                have hinr : (rk + 1) * ca ≤ M.length := by rw [HM.out]; exact Nat.mul_le_mul_right ca (by omega)
                have hio : (i + 1) * co ≤ O.length := by rw [HO.out]; exact Nat.mul_le_mul_right co hlt
                have hior : (rk + 1) * co ≤ O.length := by rw [HO.out]; exact Nat.mul_le_mul_right co (by omega)
                obtain ⟨n0, n1, n2, _, _, _⟩ := HS.out.o
                have hlo : Oc.length = O.length := HEL.out.2
                clear hfi hfp HES HX HQ hx0
                go_wp2_with fail
                refine (refSwap_any (ra : Int) ca i rk B1 M.length k1 Mc wr HS.out.a HS.out.l1 hlm.symm c16 (by omega) (by omega) hin hinr).mono ?_
                rintro e wA ⟨rfl, hdd, hkd⟩
                have HSA := Lib.hid (HS.out.putA hkd hdd (by omega) hne)
                have HBA := Lib.hid (HB.out.trans (hkd.below HB.out.size (fun j hj e => by omega)))
                clear hdd hkd HS HB m0 m1 m2 n0 n1 n2
                obtain ⟨m0, m1, m2, _, _, _⟩ := HSA.out.m
                obtain ⟨n0, n1, n2, _, _, _⟩ := HSA.out.o

                go_wp2_with fail
                refine (refSwap_any (ra : Int) co i rk B2 O.length k2 Oc wA HSA.out.b HSA.out.l2 hlo.symm o16 (by omega) (by omega) hio hior).mono ?_
                rintro e wB ⟨rfl, hdd, hkd⟩
                have HSB := Lib.hid (HSA.out.putB hkd hdd (by omega) hne)
                have HBB := Lib.hid (HBA.out.trans (hkd.below HBA.out.size (fun j hj e => by omega)))
                clear hdd hkd HSA HBA m0 m1 m2 n0 n1 n2
                obtain ⟨m0, m1, m2, _, _, _⟩ := HSB.out.m
                obtain ⟨n0, n1, n2, _, _, _⟩ := HSB.out.o

                obtain ⟨M1, hM1⟩ : ∃ x, x = swapL ca i rk Mc := ⟨_, rfl⟩
                obtain ⟨O1, hO1⟩ : ∃ x, x = swapL co i rk Oc := ⟨_, rfl⟩
                have hl1 : M1.length = M.length := by rw [hM1, swapL_length]; exact hlm
                have hl2 : O1.length = O.length := by rw [hO1, swapL_length]; exact hlo
                rw [← hM1, ← hO1] at HSB
                have hinr5 := hinr
                rw [Nat.add_mul, Nat.one_mul] at hinr5
                obtain ⟨z1, z2, _⟩ := HSB.out.a (rk * ca + c) (by omega)
                obtain ⟨p1v, hp1v⟩ : ∃ x, x = M1.getD (rk * ca + c) 0 := ⟨_, rfl⟩
                rw [← hp1v] at z1 z2
                have HP1 := Lib.hid hp1v
                have HM1 := Lib.hid hM1
                have HO1 := Lib.hid hO1
                obtain ⟨xr, hxr⟩ : ∃ xr, xr = rk * ca := ⟨_, rfl⟩
                have pr1 : (rk : Int) * (ca : Int) = (xr : Int) := by rw [hxr]; simp
                have hxsr : xr ≤ 16 * 16 := by rw [hxr]; exact Nat.mul_le_mul (by omega) c16
                rw [← hxr] at z2 hinr5
                have g0 : (0 : Int) ≤ (xr : Int) + (c : Int) := by omega
                have g1 : (xr : Int) + (c : Int) < (M.length : Int) := by omega
                have g2 : ((xr : Int) + (c : Int)).toNat = xr + c := by omega
                have g3 : IntKind.i64.wrap ((xr : Int) + (c : Int)) = (xr : Int) + (c : Int) := IntWalk.i64_in _ (by omega)
                have g4 : IntKind.i64.wrap (xr : Int) = (xr : Int) := IntWalk.i64_in _ (by omega)
                have HZ1 := Lib.hid z1
                clear hp1v hM1 hO1 hxr z1
                go_wp2_with fail
                refine (refInv_nat p1v wB HZ1.out).mono ?_
                rintro e wZ ⟨rfl, rfl⟩
                obtain ⟨v, hv⟩ : ∃ v, v = Gf.inv p1v := ⟨_, rfl⟩
                have hv256 : v < 256 := by rw [hv]; exact Gf.inv_lt _
                rw [← hv]
                have HV2 := Lib.hid hv
                clear hv z2
                go_wp2_with fail
                refine (refScale_any (ra : Int) ca rk v B1 M.length k1 M1 wB HSB.out.a HSB.out.l1 hl1.symm c16 (by omega) hinr hv256).mono ?_
                rintro e wC ⟨rfl, hdd, hkd⟩
                have HSC := Lib.hid (HSB.out.putA hkd hdd (by omega) hne)
                have HBC := Lib.hid (HBB.out.trans (hkd.below HBB.out.size (fun j hj e => by omega)))
                clear hdd hkd HSB HBB m0 m1 m2 n0 n1 n2
                obtain ⟨m0, m1, m2, _, _, _⟩ := HSC.out.m
                obtain ⟨n0, n1, n2, _, _, _⟩ := HSC.out.o

                go_wp2_with fail
                refine (refScale_any (ra : Int) co rk v B2 O.length k2 O1 wC HSC.out.b HSC.out.l2 hl2.symm o16 (by omega) hior hv256).mono ?_
                rintro e wD ⟨rfl, hdd, hkd⟩
                have HSD := Lib.hid (HSC.out.putB hkd hdd (by omega) hne)
                have HBD := Lib.hid (HBC.out.trans (hkd.below HBC.out.size (fun j hj e => by omega)))
                clear hdd hkd HSC HBC m0 m1 m2 n0 n1 n2
                obtain ⟨m0, m1, m2, _, _, _⟩ := HSD.out.m
                obtain ⟨n0, n1, n2, _, _, _⟩ := HSD.out.o

                have HPM : Hid (pivM ca c i rk Mc = scaleL ca rk v M1) := by rw [Hid, pivM, ← HM1.out, ← HP1.out, ← HV2.out]
                have HPO : Hid (pivO ca co c i rk Mc Oc = scaleL co rk v O1) := by rw [Hid, pivO, ← HM1.out, ← HO1.out, ← HP1.out, ← HV2.out]
                rw [← HPM.out, ← HPO.out] at HSD
                have HPL : Hid ((pivM ca c i rk Mc).length = M.length ∧ (pivO ca co c i rk Mc Oc).length = O.length) := ⟨by rw [pivM_length]; exact hlm, by rw [pivO_length]; exact hlo⟩
                clear HPM HPO HM1 HO1 HP1 HV2 hl1 hl2 hv256 HZ1
                generalize pivM ca c i rk Mc = PM at *
                generalize pivO ca co c i rk Mc Oc = PO at *
                go_wp2_with fail
                go_loopw [10, 11] (fun jj _ wq => ∃ j : Nat, jj = .int .i64 j ∧ j ≤ ra ∧ Hid (Swp wq w.heap.size B1 B2 ra ca co M.length O.length k1 k2 (clrAll ca co c rk j (PM, PO)).1 (clrAll ca co c rk j (PM, PO)).2) ∧ Hid (Below w.heap.size w wq)) (fun jj _ _ => ra - (intOf jj).toNat)
                case atStart => exact ⟨0, rfl, by omega, HSD, HBD⟩
                case round =>
                  clear m0 m1 m2 n0 n1 n2
                  obtain ⟨j, rfl, hj, HS, HB⟩ := hrel
                  obtain ⟨m0, m1, m2, _, _, _⟩ := HS.out.m
                  obtain ⟨n0, n1, n2, _, _, _⟩ := HS.out.o
                  have HSC := Lib.hid (clrAll_succ ca co c rk j (PM, PO))
                  have HCL := Lib.hid (clrAll_length ca co c rk j (PM, PO))
                  by_cases hjr : j < ra
                  · obtain ⟨CS, hCS⟩ : ∃ S, S = clrAll ca co c rk j (PM, PO) := ⟨_, rfl⟩
                    rw [← hCS] at HS HSC HCL
                    clear hCS
                    obtain ⟨CM, CO⟩ := CS
                    dsimp only at HS HSC HCL
                    have hlM : CM.length = M.length := HCL.out.1.trans HPL.out.1
                    have hlO : CO.length = O.length := HCL.out.2.trans HPL.out.2
                    by_cases hjk : j = rk
                    · have hje : ((j : Int) == (rk : Int)) = true := by rw [hjk]; simp
                      have HE : Hid (clrAll ca co c rk (j + 1) (PM, PO) = (CM, CO)) := by rw [Hid, HSC.out, clrStep, if_pos hjk]
                      clear hjk
                      go_wp2_with fail
                      go_roundw
                      case rel => exact ⟨j + 1, by go_num, by omega, by rw [HE.out]; exact HS, HB⟩
                      case measure => simp [intOf]; omega
                    · have hje : ((j : Int) == (rk : Int)) = false := beq_eq_false_iff_ne.2 (by omega)
                      have hjM : (j + 1) * ca ≤ M.length := by rw [HM.out]; exact Nat.mul_le_mul_right ca hjr
                      have hjO : (j + 1) * co ≤ O.length := by rw [HO.out]; exact Nat.mul_le_mul_right co hjr
                      have hjM5 := hjM
                      rw [Nat.add_mul, Nat.one_mul] at hjM5
                      obtain ⟨q1, q2, _⟩ := HS.out.a (j * ca + c) (by omega)
                      obtain ⟨n, hn⟩ : ∃ n, n = CM.getD (j * ca + c) 0 := ⟨_, rfl⟩
                      rw [← hn] at q1 q2
                      have HE : Hid (clrAll ca co c rk (j + 1) (PM, PO) = (addL ca j rk n CM, addL co j rk n CO)) := by rw [Hid, HSC.out, clrStep, if_neg hjk]; dsimp only; rw [← hn]
                      obtain ⟨xj, hxj⟩ : ∃ xj, xj = j * ca := ⟨_, rfl⟩
                      have pj1 : (j : Int) * (ca : Int) = (xj : Int) := by rw [hxj]; simp
                      have hxsj : xj ≤ 16 * 16 := by rw [hxj]; exact Nat.mul_le_mul (by omega) c16
                      rw [← hxj] at q2 hjM5
                      have f0 : (0 : Int) ≤ (xj : Int) + (c : Int) := by omega
                      have f1 : (xj : Int) + (c : Int) < (M.length : Int) := by omega
                      have f2 : ((xj : Int) + (c : Int)).toNat = xj + c := by omega
                      have f3 : IntKind.i64.wrap ((xj : Int) + (c : Int)) = (xj : Int) + (c : Int) := IntWalk.i64_in _ (by omega)
                      have f4 : IntKind.i64.wrap (xj : Int) = (xj : Int) := IntWalk.i64_in _ (by omega)
                      have HQ := Lib.hid q1
                      clear hn hxj q1
                      go_wp2_with fail
                      refine (refAdd_any (ra : Int) ca j rk n B1 M.length k1 CM wr HS.out.a HS.out.l1 hlM.symm c16 (by omega) (by omega) hjk hjM hinr HQ.out).mono ?_
                      rintro e wE ⟨rfl, hdd, hkd⟩
                      have HSE2 := Lib.hid (HS.out.putA hkd hdd (by omega) hne)
                      have HBE2 := Lib.hid (HB.out.trans (hkd.below HB.out.size (fun j hj e => by omega)))
                      clear hdd hkd HS HB m0 m1 m2 n0 n1 n2
                      obtain ⟨m0, m1, m2, _, _, _⟩ := HSE2.out.m
                      obtain ⟨n0, n1, n2, _, _, _⟩ := HSE2.out.o
                      clear q2
                      go_wp2_with fail
                      refine (refAdd_any (ra : Int) co j rk n B2 O.length k2 CO wE HSE2.out.b HSE2.out.l2 hlO.symm o16 (by omega) (by omega) hjk hjO hior HQ.out).mono ?_
                      rintro e wF ⟨rfl, hdd, hkd⟩
                      have HSF := Lib.hid (HSE2.out.putB hkd hdd (by omega) hne)
                      have HBF := Lib.hid (HBE2.out.trans (hkd.below HBE2.out.size (fun j hj e => by omega)))
                      clear hdd hkd HSE2 HBE2 m0 m1 m2 n0 n1 n2
                      obtain ⟨m0, m1, m2, _, _, _⟩ := HSF.out.m
                      obtain ⟨n0, n1, n2, _, _, _⟩ := HSF.out.o
                      go_wp2_with fail
                      go_roundw
                      case rel => exact ⟨j + 1, by go_num, by omega, by rw [HE.out]; exact HSF, HBF⟩
                      case measure => simp [intOf]; omega
                  · have hje : j = ra := by omega
                    have hjd : decide ((j : Int) < (ra : Int)) = false := by simp; omega
                    rw [hje] at HS
                    clear hje
                    go_wp2_with fail
                    go_roundw
                    case rel => exact ⟨c + 1, by go_num, by omega, by rw [HN.out]; simp, by rw [HN.out]; exact HS, HB⟩
                    case measure => simp [intOf]; omega
            · have hke : i = ra := by omega
              have hpf : findP Mc ca c rk (ra - rk) = ra := by rw [hfp, hke, Nat.sub_self]; rfl
              have HN : Hid (elim ra ca co M O (c + 1) = (Mc, Oc, rk)) := by rw [Hid, HES.out, colStep]; dsimp only; rw [hpf, if_neg (Nat.lt_irrefl ra)]
              have hid : ((i : Int) == (ra : Int)) = true := by rw [hke]; simp
              clear hpf hfp
              go_wp2_with fail
              go_roundw
              case rel => exact ⟨c + 1, by go_num, by omega, by rw [HN.out], by rw [HN.out]; exact HS, HB⟩
              case measure => simp [intOf]; omega
        · have hrd : decide ((rk : Int) < (ra : Int)) = false := by simp; omega
          have hre : rk = ra := by omega
          have HF : Hid (elim ra ca co M O ca = (Mc, Oc, rk)) := by
            have h := HEF.out hre
            rw [show c + (ca - c) = ca by omega] at h
            rw [Hid, h, HSE.out]
          clear hre
          obtain ⟨n0, n1, n2, _, _, _⟩ := HS.out.o
          have HTR := Lib.hid HS.out.r
          obtain ⟨r0, r1', r2', r3, r4, r5⟩ := HS.out.r
          have hlo : Oc.length = O.length := HEL.out.2
          go_wp2_with fail
          go_region
          go_wp2_with fail
          obtain ⟨t0, t1, t2, _, _, _⟩ := three_put HTR.out (.int .i64 (ra : Int)) (.int .i64 (co : Int)) (.slice (some ⟨B2, 0, none⟩) O.length k2)
          refine bodyPost_ret (v := .tuple #[.int .i64 (rk : Int), matV (ra : Int) (co : Int) (.slice (some ⟨B2, 0, none⟩) O.length k2)]) (by simp [results, Try.results49, go_sem, matV, t0, t1, t2]) rfl ⟨B2, k2, by omega, by show B2 < (World.setCell _ _ _).heap.size; simp only [World.size_setCell]; exact HS.out.l2, by rw [HF.out]; rfl, ?_, ?_⟩
          · rw [HF.out]
            have hbb := blk_cell (blk_cell (blk_cell HS.out.b (d := ⟨w.heap.size + 1 + 1, 0, none⟩) (u := .int .i64 (ra : Int)) (by dsimp only; omega)) (d := ⟨w.heap.size + 1 + 1, 1, none⟩) (u := .int .i64 (co : Int)) (by dsimp only; omega)) (d := ⟨w.heap.size + 1 + 1, 2, none⟩) (u := .slice (some ⟨B2, 0, none⟩) O.length k2) (by dsimp only; omega)
            exact hbb.drew
          · exact Below.drew (((HB.out).setCell (p := ⟨w.heap.size + 1 + 1, 0, none⟩) (by dsimp only; omega) _).setCell (p := ⟨w.heap.size + 1 + 1, 1, none⟩) (by dsimp only; omega) _ |>.setCell (p := ⟨w.heap.size + 1 + 1, 2, none⟩) (by dsimp only; omega) _)
      · have hke : c = ca := by omega
        have HF : Hid (elim ra ca co M O ca = (Mc, Oc, rk)) := by rw [Hid, HSE.out, hke]
        have hcd : decide ((c : Int) < (ca : Int)) = false := by simp; omega
        clear hke
        obtain ⟨n0, n1, n2, _, _, _⟩ := HS.out.o
        have HTR := Lib.hid HS.out.r
        obtain ⟨r0, r1', r2', r3, r4, r5⟩ := HS.out.r
        have hlo : Oc.length = O.length := HEL.out.2
        go_wp2_with fail
        go_region
        go_wp2_with fail
        obtain ⟨t0, t1, t2, _, _, _⟩ := three_put HTR.out (.int .i64 (ra : Int)) (.int .i64 (co : Int)) (.slice (some ⟨B2, 0, none⟩) O.length k2)
        refine bodyPost_ret (v := .tuple #[.int .i64 (rk : Int), matV (ra : Int) (co : Int) (.slice (some ⟨B2, 0, none⟩) O.length k2)]) (by simp [results, Try.results49, go_sem, matV, t0, t1, t2]) rfl ⟨B2, k2, by omega, by show B2 < (World.setCell _ _ _).heap.size; simp only [World.size_setCell]; exact HS.out.l2, by rw [HF.out]; rfl, ?_, ?_⟩
        · rw [HF.out]
          have hbb := blk_cell (blk_cell (blk_cell HS.out.b (d := ⟨w.heap.size + 1 + 1, 0, none⟩) (u := .int .i64 (ra : Int)) (by dsimp only; omega)) (d := ⟨w.heap.size + 1 + 1, 1, none⟩) (u := .int .i64 (co : Int)) (by dsimp only; omega)) (d := ⟨w.heap.size + 1 + 1, 2, none⟩) (u := .slice (some ⟨B2, 0, none⟩) O.length k2) (by dsimp only; omega)
          exact hbb.drew
        · exact Below.drew (((HB.out).setCell (p := ⟨w.heap.size + 1 + 1, 0, none⟩) (by dsimp only; omega) _).setCell (p := ⟨w.heap.size + 1 + 1, 1, none⟩) (by dsimp only; omega) _ |>.setCell (p := ⟨w.heap.size + 1 + 1, 2, none⟩) (by dsimp only; omega) _)
end Go.Proofs.Ytijcmdcjjcemfaa
