/- MatrixTimes: the law's walk. -/
import Derived.Test.YtibinkppbdeofaaPk17LawMatrixTimes
import Derived.Test.YtibinkppbdeofaaPk18LawMatrixTimes
import Derived.Test.YtibinkppbdeofaaPk19LawMatrixTimes
import Derived.Test.YtibinkppbdeofaaPk09LawMatrixTimes
import Derived.OrdersHeld
import Derived.Deep.RegionHeld
import Derived.Deep.RegionHeld3
import Derived.Deep.CutBlock
namespace Go.Proofs.Ytibinkppbdeofaa
open Go.ChangeShapes Go.WideShapes Go.ChangeAt Go.RowKit Go.Joins Go.Shelf
set_option linter.unusedVariables false
set_option linter.unusedSimpArgs false

theorem mats_few {w : World} {A : Option Addr} {n c : Nat} {l : List M3} (h : MatsIn w (.slice A n c) l) (hf : ∀ k, k < l.length → lenV (l.getD k (0, 0, .slice none 0 0)).2.2 ≤ 3000) {k : Nat} (hk : k < l.length) :
    ∃ b o R C A' ns k', A = some ⟨b, o, none⟩ ∧ b < w.heap.size ∧ w.cell? ⟨b, o + k * 3, none⟩ = some (.int .i64 R) ∧ w.cell? ⟨b, o + k * 3 + 1, none⟩ = some (.int .i64 C) ∧ w.cell? ⟨b, o + k * 3 + 2, none⟩ = some (.slice A' ns.length k') ∧ BytesV w (.slice A' ns.length k') ns ∧ RoomV (.slice A' ns.length k') ns ∧ ns.length ≤ 3000 := by
  obtain ⟨A1, c1, e, _, h⟩ := h
  cases e
  obtain ⟨b, o, rfl, hb, k0, k1, k2, ⟨ns, hns, A3, k3, e3, h3, h4⟩, _⟩ := h k hk
  have hl := hf k hk
  rw [e3] at k2 hns hl
  exact ⟨b, o, _, _, A3, ns, k3, rfl, hb, k0, k1, k2, hns, ⟨A3, k3, rfl, h3, h4⟩, hl⟩
theorem textsIn_take {w : World} {p : Option Addr} {cap n : Nat} {ss : List ByteArray} (h : TextsIn w (.slice p ss.length cap) ss) (hn : n ≤ ss.length) : TextsIn w (.slice p n cap) (ss.take n) := by
  obtain ⟨p', c', e, h1, h2, h3⟩ := h
  cases e
  have hl : (ss.take n).length = n := by simp; omega
  refine ⟨p, cap, by rw [hl], by rw [hl]; omega, fun s hs => h2 s (List.mem_of_mem_take hs), by rw [hl]; exact Nat.le_trans hn h3.1, fun i hi => ?_⟩
  rw [hl] at hi
  obtain ⟨b, o, e1, e2, e3⟩ := h3.2 i (by omega)
  refine ⟨b, o, e1, e2, ?_⟩
  rw [e3]
  simp [List.getD, List.getElem?_take, hi]
theorem numsIn_below {w w' : World} {v : Value} {zs : List Int} (hN : NumsIn w v zs) (hbe : Below w.heap.size w w') : NumsIn w' v zs := by
  refine ⟨hN.1, ?_⟩
  rcases hN.2 with h | ⟨b, o, c, e, h0, hm, hb, hc⟩
  · exact Or.inl h
  · exact Or.inr ⟨b, o, c, e, h0, hm, Nat.lt_of_lt_of_le hb hbe.size, fun i hi => below_celllt (hc i hi) hb hbe⟩
/-- Two copies in two boxes. -/
structure TwoC (wr wx : World) (b5 b6 : Nat) (Ra Ca Rb Cb : Int) (ra rb : Value) (ms ns : List Nat) : Prop where
  t5 : Three wx b5 (.int .i64 Ra) (.int .i64 Ca) ra
  t6 : Three wx b6 (.int .i64 Rb) (.int .i64 Cb) rb
  x : BytesV wx ra ms
  rx : RoomV ra ms
  y : BytesV wx rb ns
  ry : RoomV rb ns
  be : Below wr.heap.size wr wx

set_option maxRecDepth 100000 in
set_option maxHeartbeats 40000000 in
theorem matrixTimes_walk (vM vN vL : Value) (l : List M3) (zs : List Int) (ss : List ByteArray) (w : World) (hM : MatsIn w vM l) (hN : NumsIn w vN zs) (hL : TextsIn w vL ss) (hR : Reach3 l zs) (hRL : RoomL vL) :
    Calls Try.prog 7 #[.agg #[vM, vN, vL]] w fun e w' => e = .returned (.bool true) ∧ Below w.heap.size w w' := by
  have tA := Three.new w vM vN vL 26
  have hbe := (Below.refl w.heap.size w).alloc (Nat.le_refl _) (.cells #[vM, vN, vL] 26)
  have TA := Lib.hid tA
  have HBE := Lib.hid hbe
  have HM := Lib.hid (hM.below hbe)
  have HL := Lib.hid (textsIn_below hL hbe)
  have HHX := Lib.hid (heavy3_any vM vN vL l zs ss (w.alloc (.cells #[vM, vN, vL] 26)) (hM.below hbe) (numsIn_below hN hbe) (textsIn_below hL hbe) hR)
  obtain ⟨zp, zc, zl, rfl⟩ : ∃ p c n, vN = .slice p n c := by
    rcases hN.2 with ⟨_, p, c, rfl⟩ | ⟨b, o, c, rfl, _⟩
    · exact ⟨_, _, _, rfl⟩
    · exact ⟨_, _, _, rfl⟩
  obtain ⟨A, c, rfl, hll, hMx⟩ := hM
  obtain ⟨pL, kL, rfl, hLx⟩ := hL
  have hkL : ss.length ≤ kL := by obtain ⟨p, n, c, e, h1, _⟩ := hRL; cases e; exact h1
  clear hMx hLx hRL
  obtain ⟨a0, a1, a2, _, _, _⟩ := tA
  clear hbe hN hR
  go_enter Try.func7, Try.ntmps7
  go_wp2_with fail
  clear a0 a1 a2
  generalize w.alloc (.cells #[.slice A l.length c, .slice zp zl zc, .slice pL ss.length kL] 26) = W0 at *
  refine HHX.out.mono ?_
  rintro e w1 ⟨bo, rfl, hfew, hb1⟩
  have TA1 := Lib.hid (TA.out.below hb1)
  have HM1 := Lib.hid (HM.out.below hb1)
  have HL1 := Lib.hid (textsIn_below HL.out hb1)
  have HB1 := Lib.hid (HBE.out.trans (hb1.mono HBE.out.size))
  have HFW := Lib.hid hfew
  clear hb1 TA HM HHX hfew HL
  cases bo
  · obtain ⟨hl3, hz3, ht3, hm3⟩ := HFW.out rfl
    have HM3 := Lib.hid hm3
    clear HFW hm3 hz3
    go_wp2_with fail
    go_loopw [3] (fun nn wr => ∃ i : Nat, nn = .int .i64 i ∧ i ≤ 4 ∧ Hid (Below w1.heap.size w1 wr)) (fun nn _ => 4 - (intOf nn).toNat)
    case atStart => exact ⟨0, rfl, by omega, Lib.hid (Below.refl _ _)⟩
    case round =>
      obtain ⟨i, rfl, hi4, HB⟩ := hrel
      obtain ⟨a0, a1, a2, _, _, _⟩ := TA1.out.below HB.out
      by_cases hil : i < l.length ∧ i < 4
      · obtain ⟨hl0, hi3⟩ := hil
        have hid1 : decide ((i : Int) < (l.length : Int)) = true := by simp; omega
        have hid2 : decide ((i : Int) < 4) = true := by simp; omega
        have i0 : (0 : Int) ≤ (i : Int) := by omega
        have i1 : (i : Int) < (l.length : Int) := by omega
        go_upto_block 2 with fail
        obtain ⟨wo, rfl⟩ : ∃ wo : World, wo = wr := ⟨_, rfl⟩
        clear a0 a1 a2
        go_cut [] from 30 to 128 (fun wx => Hid (Below w1.heap.size w1 wx))
        case first =>
          go_wp2_with fail
          go_loopw [4] (fun kk wr => ∃ k : Nat, kk = .int .i64 k ∧ k ≤ 4 ∧ Hid (Below w1.heap.size w1 wr)) (fun kk _ => 4 - (intOf kk).toNat)
          case atStart => exact ⟨0, rfl, by omega, HB⟩
          case round =>
            clear HB
            obtain ⟨k, rfl, hk4, HB⟩ := hrel
            obtain ⟨a0, a1, a2, _, _, _⟩ := TA1.out.below HB.out
            by_cases hkl : k < l.length ∧ k < 4
            · obtain ⟨hl1, hk3⟩ := hkl
              have hkd1 : decide ((k : Int) < (l.length : Int)) = true := by simp; omega
              have hkd2 : decide ((k : Int) < 4) = true := by simp; omega
              have k0 : (0 : Int) ≤ (k : Int) := by omega
              have k1 : (k : Int) < (l.length : Int) := by omega
              obtain ⟨b, o, Ra, Ca, A1, ms, c1, rfl, hb, ca0, ca1, ca2, hva, hra, hna⟩ := mats_few (HM1.out.below HB.out) HM3.out hl0
              obtain ⟨b', o', Rb, Cb, A2, ns, c2, e, _, cb0, cb1, cb2, hvb, hrb, hnb⟩ := mats_few (HM1.out.below HB.out) HM3.out hl1
              cases e
              have HF : Hid (∀ W', Below wr.heap.size wr W' → W'.cell? ⟨w.heap.size, 0, none⟩ = some (.slice (some ⟨b, o, none⟩) l.length c) ∧ W'.cell? ⟨b, o + i * 3, none⟩ = some (.int .i64 Ra) ∧ W'.cell? ⟨b, o + i * 3 + 1, none⟩ = some (.int .i64 Ca) ∧ W'.cell? ⟨b, o + i * 3 + 2, none⟩ = some (.slice A1 ms.length c1) ∧ W'.cell? ⟨b, o + k * 3, none⟩ = some (.int .i64 Rb) ∧ W'.cell? ⟨b, o + k * 3 + 1, none⟩ = some (.int .i64 Cb) ∧ W'.cell? ⟨b, o + k * 3 + 2, none⟩ = some (.slice A2 ns.length c2)) := fun W' h =>
                ⟨below_celllt a0 (cell_block a0) h, below_celllt ca0 (cell_block ca0) h, below_celllt ca1 (cell_block ca1) h, below_celllt ca2 (cell_block ca2) h, below_celllt cb0 (cell_block cb0) h, below_celllt cb1 (cell_block cb1) h, below_celllt cb2 (cell_block cb2) h⟩
              have HVA := Lib.hid hva
              have HVB := Lib.hid hvb
              have HRA := Lib.hid hra
              have HRB := Lib.hid hrb
              have hna' : ms.length ≤ 100000 := by omega
              have hnb' : ns.length ≤ 100000 := by omega
              have hbw := hb
              clear hva hvb hra hrb
              go_upto_region 9 with (fail)
              clear a0 a1 a2 ca0 ca1 ca2 cb0 cb1 cb2
              go_cut [5, 6] from 41 to 6 (fun p5 p6 wx => ∃ b5 b6 ra rb, p5 = .pointer (some ⟨b5, 0, none⟩) ∧ p6 = .pointer (some ⟨b6, 0, none⟩) ∧ TwoC wr wx b5 b6 Ra Ca Rb Cb ra rb ms ns)
              case first =>
                refine wp_region_held (S := fun W' => Below wr.heap.size wr W') (by kernel_rfl) ?_
                change wpAnyH _ _ _ _ _ 16 _ _ wr.drew
                have HB := (Below.refl wr.heap.size wr).drew
                generalize wr.drew = V0 at *
                refine wpAnyH_take (i := 0) (v := .pointer (some ⟨w.heap.size, 0, none⟩)) rfl (by kernel_rfl) (by kernel_rfl) (by kernel_rfl) (fun _ _ _ h => h) (Or.inl ⟨by rfl, fun W' hW' => ?_⟩) HB ?_
                · obtain ⟨x0, x1, x2, x3, x4, x5, x6⟩ := HF.out _ hW'
                  go_simp
                  try rfl
                try simp only [Act.put, List.setIfInBounds_toArray, List.set_cons_zero, List.set_cons_succ]
                refine wpAnyH_take (i := 1) (v := .slice (some ⟨b, o, none⟩) l.length c) rfl (by kernel_rfl) (by kernel_rfl) (by kernel_rfl) (fun _ _ _ h => h) (Or.inl ⟨by rfl, fun W' hW' => ?_⟩) HB ?_
                · obtain ⟨x0, x1, x2, x3, x4, x5, x6⟩ := HF.out _ hW'
                  go_simp
                  try rfl
                try simp only [Act.put, List.setIfInBounds_toArray, List.set_cons_zero, List.set_cons_succ]
                refine wpAnyH_take (i := 2) (v := .int .i64 (i : Int)) rfl (by kernel_rfl) (by kernel_rfl) (by kernel_rfl) (fun _ _ _ h => h) (Or.inl ⟨by rfl, fun W' hW' => ?_⟩) HB ?_
                · obtain ⟨x0, x1, x2, x3, x4, x5, x6⟩ := HF.out _ hW'
                  go_simp
                  try rfl
                try simp only [Act.put, List.setIfInBounds_toArray, List.set_cons_zero, List.set_cons_succ]
                refine wpAnyH_take (i := 3) (v := .pointer (some ⟨b, o + i * 3, none⟩)) rfl (by kernel_rfl) (by kernel_rfl) (by kernel_rfl) (fun _ _ _ h => h) (Or.inl ⟨by rfl, fun W' hW' => ?_⟩) HB ?_
                · obtain ⟨x0, x1, x2, x3, x4, x5, x6⟩ := HF.out _ hW'
                  go_simp
                  try rfl
                try simp only [Act.put, List.setIfInBounds_toArray, List.set_cons_zero, List.set_cons_succ]
                refine wpAnyH_take (i := 4) (v := .agg #[.int .i64 Ra, .int .i64 Ca, .slice A1 ms.length c1]) rfl (by kernel_rfl) (by kernel_rfl) (by kernel_rfl) (fun _ _ _ h => h) (Or.inl ⟨by rfl, fun W' hW' => ?_⟩) HB ?_
                · obtain ⟨x0, x1, x2, x3, x4, x5, x6⟩ := HF.out _ hW'
                  go_simp
                  try rfl
                try simp only [Act.put, List.setIfInBounds_toArray, List.set_cons_zero, List.set_cons_succ]
                refine wpAnyH_take (i := 6) (v := .pointer (some ⟨w.heap.size, 0, none⟩)) rfl (by kernel_rfl) (by kernel_rfl) (by kernel_rfl) (fun _ _ _ h => h) (Or.inl ⟨by rfl, fun W' hW' => ?_⟩) HB ?_
                · obtain ⟨x0, x1, x2, x3, x4, x5, x6⟩ := HF.out _ hW'
                  go_simp
                  try rfl
                try simp only [Act.put, List.setIfInBounds_toArray, List.set_cons_zero, List.set_cons_succ]
                refine wpAnyH_take (i := 7) (v := .slice (some ⟨b, o, none⟩) l.length c) rfl (by kernel_rfl) (by kernel_rfl) (by kernel_rfl) (fun _ _ _ h => h) (Or.inl ⟨by rfl, fun W' hW' => ?_⟩) HB ?_
                · obtain ⟨x0, x1, x2, x3, x4, x5, x6⟩ := HF.out _ hW'
                  go_simp
                  try rfl
                try simp only [Act.put, List.setIfInBounds_toArray, List.set_cons_zero, List.set_cons_succ]
                refine wpAnyH_take (i := 8) (v := .int .i64 (k : Int)) rfl (by kernel_rfl) (by kernel_rfl) (by kernel_rfl) (fun _ _ _ h => h) (Or.inl ⟨by rfl, fun W' hW' => ?_⟩) HB ?_
                · obtain ⟨x0, x1, x2, x3, x4, x5, x6⟩ := HF.out _ hW'
                  go_simp
                  try rfl
                try simp only [Act.put, List.setIfInBounds_toArray, List.set_cons_zero, List.set_cons_succ]
                refine wpAnyH_take (i := 9) (v := .pointer (some ⟨b, o + k * 3, none⟩)) rfl (by kernel_rfl) (by kernel_rfl) (by kernel_rfl) (fun _ _ _ h => h) (Or.inl ⟨by rfl, fun W' hW' => ?_⟩) HB ?_
                · obtain ⟨x0, x1, x2, x3, x4, x5, x6⟩ := HF.out _ hW'
                  go_simp
                  try rfl
                try simp only [Act.put, List.setIfInBounds_toArray, List.set_cons_zero, List.set_cons_succ]
                refine wpAnyH_take (i := 10) (v := .agg #[.int .i64 Rb, .int .i64 Cb, .slice A2 ns.length c2]) rfl (by kernel_rfl) (by kernel_rfl) (by kernel_rfl) (fun _ _ _ h => h) (Or.inl ⟨by rfl, fun W' hW' => ?_⟩) HB ?_
                · obtain ⟨x0, x1, x2, x3, x4, x5, x6⟩ := HF.out _ hW'
                  go_simp
                  try rfl
                try simp only [Act.put, List.setIfInBounds_toArray, List.set_cons_zero, List.set_cons_succ]
                refine wpAnyH_ready (rs := [5, 12, 13]) (by kernel_rfl) (by simp) ?_
                refine AllReadyH.cons rfl (fun K hK => ?_) (AllReadyH.cons rfl (fun K hK => ?_) (AllReadyH.cons rfl (fun K hK => ?_) AllReadyH.nil))
                · rw [if_pos (by rfl)]
                  go_simp
                  have hsq := copyMat_any Ra Ca (.slice A1 ms.length c1) ms V0 (HVA.out.below HB) hna'
                  unfold matV at hsq
                  refine hsq.mono ?_
                  clear hsq
                  rintro e V1 ⟨ra, X, rfl, oX, hX1, hbe⟩
                  obtain ⟨A3, c3, rfl, A3h1, A3h2⟩ := oX.2.1
                  have HB := HB.trans (hbe.mono HB.size)
                  have hss := hbe.size
                  refine hK.out _ _ HB (fun _ => ?_)
                  clear hK hbe
                  try simp only [Act.put, List.setIfInBounds_toArray, List.set_cons_zero, List.set_cons_succ]
                  refine wpAnyH_ready (rs := [11, 12, 13]) (by kernel_rfl) (by simp) ?_
                  refine AllReadyH.cons rfl (fun K hK => ?_) (AllReadyH.cons rfl (fun K hK => ?_) (AllReadyH.cons rfl (fun K hK => ?_) AllReadyH.nil))
                  · rw [if_pos (by rfl)]
                    go_simp
                    have hsq := copyMat_any Rb Cb (.slice A2 ns.length c2) ns V1 (HVB.out.below HB) hnb'
                    unfold matV at hsq
                    refine hsq.mono ?_
                    clear hsq
                    rintro e V2 ⟨rb, Y, rfl, oY, hY1, hbe⟩
                    obtain ⟨A4, c4, rfl, A4h1, A4h2⟩ := oY.2.1
                    have oX := oX.below hbe
                    have HB := HB.trans (hbe.mono HB.size)
                    have hss := hbe.size
                    refine hK.out _ _ HB (fun _ => ?_)
                    clear hK hbe
                    try simp only [Act.put, List.setIfInBounds_toArray, List.set_cons_zero, List.set_cons_succ]
                    refine wpAnyH_ready (rs := [12, 13]) (by kernel_rfl) (by simp) ?_
                    refine AllReadyH.cons rfl (fun K hK => ?_) (AllReadyH.cons rfl (fun K hK => ?_) AllReadyH.nil)
                    · rw [if_pos (by rfl)]
                      go_simp
                      have T5 := Three.new V2 (.int .i64 0) (.int .i64 0) (.slice none 0 0) 30
                      have hbe := (Below.refl V2.heap.size V2).alloc (Nat.le_refl _) (.cells #[.int .i64 0, .int .i64 0, .slice none 0 0] 30)
                      have hsb5 : V2.heap.size < (V2.alloc (.cells #[.int .i64 0, .int .i64 0, .slice none 0 0] 30)).heap.size := by simp
                      have hwb5 := HB.size
                      have hXob5 := oX.2.2
                      have hYob5 := oY.2.2
                      have oX := oX.below hbe
                      have oY := oY.below hbe
                      have HB := HB.trans (hbe.mono HB.size)
                      have hss := hbe.size
                      refine hK.out _ _ HB (fun _ => ?_)
                      clear hK hbe
                      generalize V2.alloc (.cells #[.int .i64 0, .int .i64 0, .slice none 0 0] 30) = V3 at *
                      generalize V2.heap.size = b5 at *
                      try simp only [Act.put, List.setIfInBounds_toArray, List.set_cons_zero, List.set_cons_succ]
                      refine wpAnyH_ready (rs := [13]) (by kernel_rfl) (by simp) ?_
                      refine AllReadyH.cons rfl (fun K hK => ?_) AllReadyH.nil
                      rw [if_pos (by rfl)]
                      go_simp
                      have T6 := Three.new V3 (.int .i64 0) (.int .i64 0) (.slice none 0 0) 30
                      have hbe := (Below.refl V3.heap.size V3).alloc (Nat.le_refl _) (.cells #[.int .i64 0, .int .i64 0, .slice none 0 0] 30)
                      have hsb6 : V3.heap.size < (V3.alloc (.cells #[.int .i64 0, .int .i64 0, .slice none 0 0] 30)).heap.size := by simp
                      have hwb6 := HB.size
                      have hXob6 := oX.2.2
                      have hYob6 := oY.2.2
                      have T5 := T5.below hbe
                      have oX := oX.below hbe
                      have oY := oY.below hbe
                      have HB := HB.trans (hbe.mono HB.size)
                      have hss := hbe.size
                      refine hK.out _ _ HB (fun _ => ?_)
                      clear hK hbe
                      generalize V3.alloc (.cells #[.int .i64 0, .int .i64 0, .slice none 0 0] 30) = V4 at *
                      generalize V3.heap.size = b6 at *
                      try simp only [Act.put, List.setIfInBounds_toArray, List.set_cons_zero, List.set_cons_succ]
                      have hX3 := oX.2.2
                      have hY3 := oY.2.2
                      obtain ⟨u0, u1, u2, u3, u4, u5⟩ := T5
                      have TQ : Three V4 b5 _ _ _ := ⟨u0, u1, u2, u3, u4, u5⟩
                      refine wpAnyH_ready (rs := [14]) (by kernel_rfl) (by simp) ?_
                      refine AllReadyH.cons rfl (fun K hK => ?_) AllReadyH.nil
                      rw [if_pos (by rfl)]
                      go_simp
                      clear u0 u1 u2 u3 u4 u5
                      have T5 := three_put TQ (.int .i64 Ra) (.int .i64 Ca) (.slice A3 ms.length c3)
                      have T6 := three_cell (three_cell (three_cell (T6) (d := ⟨b5, 0, none⟩) (u := (.int .i64 Ra)) (by dsimp only; omega)) (d := ⟨b5, 1, none⟩) (u := (.int .i64 Ca)) (by dsimp only; omega)) (d := ⟨b5, 2, none⟩) (u := (.slice A3 ms.length c3)) (by dsimp only; omega)
                      have oX := OwnB.set (OwnB.set (OwnB.set (oX) (d := ⟨b5, 0, none⟩) (by dsimp only; omega) (.int .i64 Ra)) (d := ⟨b5, 1, none⟩) (by dsimp only; omega) (.int .i64 Ca)) (d := ⟨b5, 2, none⟩) (by dsimp only; omega) (.slice A3 ms.length c3)
                      have oY := OwnB.set (OwnB.set (OwnB.set (oY) (d := ⟨b5, 0, none⟩) (by dsimp only; omega) (.int .i64 Ra)) (d := ⟨b5, 1, none⟩) (by dsimp only; omega) (.int .i64 Ca)) (d := ⟨b5, 2, none⟩) (by dsimp only; omega) (.slice A3 ms.length c3)
                      have HB := ((HB.setCell (p := ⟨b5, 0, none⟩) (by dsimp only; omega) (.int .i64 Ra)).setCell (p := ⟨b5, 1, none⟩) (by dsimp only; omega) (.int .i64 Ca)).setCell (p := ⟨b5, 2, none⟩) (by dsimp only; omega) (.slice A3 ms.length c3)
                      refine hK.out _ _ HB (fun _ => ?_)
                      clear hK TQ
                      generalize (((V4.setCell ⟨b5, 0, none⟩ (.int .i64 Ra)).setCell ⟨b5, 1, none⟩ (.int .i64 Ca)).setCell ⟨b5, 2, none⟩ (.slice A3 ms.length c3)) = V5 at *
                      try simp only [Act.put, List.setIfInBounds_toArray, List.set_cons_zero, List.set_cons_succ]
                      obtain ⟨u0, u1, u2, u3, u4, u5⟩ := T6
                      have TQ : Three V5 b6 _ _ _ := ⟨u0, u1, u2, u3, u4, u5⟩
                      refine wpAnyH_ready (rs := [15]) (by kernel_rfl) (by simp) ?_
                      refine AllReadyH.cons rfl (fun K hK => ?_) AllReadyH.nil
                      rw [if_pos (by rfl)]
                      go_simp
                      clear u0 u1 u2 u3 u4 u5
                      have T6 := three_put TQ (.int .i64 Rb) (.int .i64 Cb) (.slice A4 ns.length c4)
                      have T5 := three_cell (three_cell (three_cell (T5) (d := ⟨b6, 0, none⟩) (u := (.int .i64 Rb)) (by dsimp only; omega)) (d := ⟨b6, 1, none⟩) (u := (.int .i64 Cb)) (by dsimp only; omega)) (d := ⟨b6, 2, none⟩) (u := (.slice A4 ns.length c4)) (by dsimp only; omega)
                      have oX := OwnB.set (OwnB.set (OwnB.set (oX) (d := ⟨b6, 0, none⟩) (by dsimp only; omega) (.int .i64 Rb)) (d := ⟨b6, 1, none⟩) (by dsimp only; omega) (.int .i64 Cb)) (d := ⟨b6, 2, none⟩) (by dsimp only; omega) (.slice A4 ns.length c4)
                      have oY := OwnB.set (OwnB.set (OwnB.set (oY) (d := ⟨b6, 0, none⟩) (by dsimp only; omega) (.int .i64 Rb)) (d := ⟨b6, 1, none⟩) (by dsimp only; omega) (.int .i64 Cb)) (d := ⟨b6, 2, none⟩) (by dsimp only; omega) (.slice A4 ns.length c4)
                      have HB := ((HB.setCell (p := ⟨b6, 0, none⟩) (by dsimp only; omega) (.int .i64 Rb)).setCell (p := ⟨b6, 1, none⟩) (by dsimp only; omega) (.int .i64 Cb)).setCell (p := ⟨b6, 2, none⟩) (by dsimp only; omega) (.slice A4 ns.length c4)
                      refine hK.out _ _ HB (fun _ => ?_)
                      clear hK TQ
                      generalize (((V5.setCell ⟨b6, 0, none⟩ (.int .i64 Rb)).setCell ⟨b6, 1, none⟩ (.int .i64 Cb)).setCell ⟨b6, 2, none⟩ (.slice A4 ns.length c4)) = V6 at *
                      try simp only [Act.put, List.setIfInBounds_toArray, List.set_cons_zero, List.set_cons_succ]
                      refine wpAnyH_done (by kernel_rfl) ?_ _
                      go_wp2_with fail
                      go_meet
                      exact ⟨b5, b6, .slice A3 ms.length c3, .slice A4 ns.length c4, rfl, rfl, ⟨T5, T6, oX.1, oX.2.1, oY.1, oY.2.1, HB⟩⟩
                    · rw [if_pos (by rfl)]
                      go_simp
                      have T6 := Three.new V2 (.int .i64 0) (.int .i64 0) (.slice none 0 0) 30
                      have hbe := (Below.refl V2.heap.size V2).alloc (Nat.le_refl _) (.cells #[.int .i64 0, .int .i64 0, .slice none 0 0] 30)
                      have hsb6 : V2.heap.size < (V2.alloc (.cells #[.int .i64 0, .int .i64 0, .slice none 0 0] 30)).heap.size := by simp
                      have hwb6 := HB.size
                      have hXob6 := oX.2.2
                      have hYob6 := oY.2.2
                      have oX := oX.below hbe
                      have oY := oY.below hbe
                      have HB := HB.trans (hbe.mono HB.size)
                      have hss := hbe.size
                      refine hK.out _ _ HB (fun _ => ?_)
                      clear hK hbe
                      generalize V2.alloc (.cells #[.int .i64 0, .int .i64 0, .slice none 0 0] 30) = V3 at *
                      generalize V2.heap.size = b6 at *
                      try simp only [Act.put, List.setIfInBounds_toArray, List.set_cons_zero, List.set_cons_succ]
                      refine wpAnyH_ready (rs := [12]) (by kernel_rfl) (by simp) ?_
                      refine AllReadyH.cons rfl (fun K hK => ?_) AllReadyH.nil
                      rw [if_pos (by rfl)]
                      go_simp
                      have T5 := Three.new V3 (.int .i64 0) (.int .i64 0) (.slice none 0 0) 30
                      have hbe := (Below.refl V3.heap.size V3).alloc (Nat.le_refl _) (.cells #[.int .i64 0, .int .i64 0, .slice none 0 0] 30)
                      have hsb5 : V3.heap.size < (V3.alloc (.cells #[.int .i64 0, .int .i64 0, .slice none 0 0] 30)).heap.size := by simp
                      have hwb5 := HB.size
                      have hXob5 := oX.2.2
                      have hYob5 := oY.2.2
                      have T6 := T6.below hbe
                      have oX := oX.below hbe
                      have oY := oY.below hbe
                      have HB := HB.trans (hbe.mono HB.size)
                      have hss := hbe.size
                      refine hK.out _ _ HB (fun _ => ?_)
                      clear hK hbe
                      generalize V3.alloc (.cells #[.int .i64 0, .int .i64 0, .slice none 0 0] 30) = V4 at *
                      generalize V3.heap.size = b5 at *
                      try simp only [Act.put, List.setIfInBounds_toArray, List.set_cons_zero, List.set_cons_succ]
                      have hX3 := oX.2.2
                      have hY3 := oY.2.2
                      obtain ⟨u0, u1, u2, u3, u4, u5⟩ := T5
                      have TQ : Three V4 b5 _ _ _ := ⟨u0, u1, u2, u3, u4, u5⟩
                      refine wpAnyH_ready (rs := [14]) (by kernel_rfl) (by simp) ?_
                      refine AllReadyH.cons rfl (fun K hK => ?_) AllReadyH.nil
                      rw [if_pos (by rfl)]
                      go_simp
                      clear u0 u1 u2 u3 u4 u5
                      have T5 := three_put TQ (.int .i64 Ra) (.int .i64 Ca) (.slice A3 ms.length c3)
                      have T6 := three_cell (three_cell (three_cell (T6) (d := ⟨b5, 0, none⟩) (u := (.int .i64 Ra)) (by dsimp only; omega)) (d := ⟨b5, 1, none⟩) (u := (.int .i64 Ca)) (by dsimp only; omega)) (d := ⟨b5, 2, none⟩) (u := (.slice A3 ms.length c3)) (by dsimp only; omega)
                      have oX := OwnB.set (OwnB.set (OwnB.set (oX) (d := ⟨b5, 0, none⟩) (by dsimp only; omega) (.int .i64 Ra)) (d := ⟨b5, 1, none⟩) (by dsimp only; omega) (.int .i64 Ca)) (d := ⟨b5, 2, none⟩) (by dsimp only; omega) (.slice A3 ms.length c3)
                      have oY := OwnB.set (OwnB.set (OwnB.set (oY) (d := ⟨b5, 0, none⟩) (by dsimp only; omega) (.int .i64 Ra)) (d := ⟨b5, 1, none⟩) (by dsimp only; omega) (.int .i64 Ca)) (d := ⟨b5, 2, none⟩) (by dsimp only; omega) (.slice A3 ms.length c3)
                      have HB := ((HB.setCell (p := ⟨b5, 0, none⟩) (by dsimp only; omega) (.int .i64 Ra)).setCell (p := ⟨b5, 1, none⟩) (by dsimp only; omega) (.int .i64 Ca)).setCell (p := ⟨b5, 2, none⟩) (by dsimp only; omega) (.slice A3 ms.length c3)
                      refine hK.out _ _ HB (fun _ => ?_)
                      clear hK TQ
                      generalize (((V4.setCell ⟨b5, 0, none⟩ (.int .i64 Ra)).setCell ⟨b5, 1, none⟩ (.int .i64 Ca)).setCell ⟨b5, 2, none⟩ (.slice A3 ms.length c3)) = V5 at *
                      try simp only [Act.put, List.setIfInBounds_toArray, List.set_cons_zero, List.set_cons_succ]
                      obtain ⟨u0, u1, u2, u3, u4, u5⟩ := T6
                      have TQ : Three V5 b6 _ _ _ := ⟨u0, u1, u2, u3, u4, u5⟩
                      refine wpAnyH_ready (rs := [15]) (by kernel_rfl) (by simp) ?_
                      refine AllReadyH.cons rfl (fun K hK => ?_) AllReadyH.nil
                      rw [if_pos (by rfl)]
                      go_simp
                      clear u0 u1 u2 u3 u4 u5
                      have T6 := three_put TQ (.int .i64 Rb) (.int .i64 Cb) (.slice A4 ns.length c4)
                      have T5 := three_cell (three_cell (three_cell (T5) (d := ⟨b6, 0, none⟩) (u := (.int .i64 Rb)) (by dsimp only; omega)) (d := ⟨b6, 1, none⟩) (u := (.int .i64 Cb)) (by dsimp only; omega)) (d := ⟨b6, 2, none⟩) (u := (.slice A4 ns.length c4)) (by dsimp only; omega)
                      have oX := OwnB.set (OwnB.set (OwnB.set (oX) (d := ⟨b6, 0, none⟩) (by dsimp only; omega) (.int .i64 Rb)) (d := ⟨b6, 1, none⟩) (by dsimp only; omega) (.int .i64 Cb)) (d := ⟨b6, 2, none⟩) (by dsimp only; omega) (.slice A4 ns.length c4)
                      have oY := OwnB.set (OwnB.set (OwnB.set (oY) (d := ⟨b6, 0, none⟩) (by dsimp only; omega) (.int .i64 Rb)) (d := ⟨b6, 1, none⟩) (by dsimp only; omega) (.int .i64 Cb)) (d := ⟨b6, 2, none⟩) (by dsimp only; omega) (.slice A4 ns.length c4)
                      have HB := ((HB.setCell (p := ⟨b6, 0, none⟩) (by dsimp only; omega) (.int .i64 Rb)).setCell (p := ⟨b6, 1, none⟩) (by dsimp only; omega) (.int .i64 Cb)).setCell (p := ⟨b6, 2, none⟩) (by dsimp only; omega) (.slice A4 ns.length c4)
                      refine hK.out _ _ HB (fun _ => ?_)
                      clear hK TQ
                      generalize (((V5.setCell ⟨b6, 0, none⟩ (.int .i64 Rb)).setCell ⟨b6, 1, none⟩ (.int .i64 Cb)).setCell ⟨b6, 2, none⟩ (.slice A4 ns.length c4)) = V6 at *
                      try simp only [Act.put, List.setIfInBounds_toArray, List.set_cons_zero, List.set_cons_succ]
                      refine wpAnyH_done (by kernel_rfl) ?_ _
                      go_wp2_with fail
                      go_meet
                      exact ⟨b5, b6, .slice A3 ms.length c3, .slice A4 ns.length c4, rfl, rfl, ⟨T5, T6, oX.1, oX.2.1, oY.1, oY.2.1, HB⟩⟩
                  · rw [if_pos (by rfl)]
                    go_simp
                    have T5 := Three.new V1 (.int .i64 0) (.int .i64 0) (.slice none 0 0) 30
                    have hbe := (Below.refl V1.heap.size V1).alloc (Nat.le_refl _) (.cells #[.int .i64 0, .int .i64 0, .slice none 0 0] 30)
                    have hsb5 : V1.heap.size < (V1.alloc (.cells #[.int .i64 0, .int .i64 0, .slice none 0 0] 30)).heap.size := by simp
                    have hwb5 := HB.size
                    have hXob5 := oX.2.2
                    have oX := oX.below hbe
                    have HB := HB.trans (hbe.mono HB.size)
                    have hss := hbe.size
                    refine hK.out _ _ HB (fun _ => ?_)
                    clear hK hbe
                    generalize V1.alloc (.cells #[.int .i64 0, .int .i64 0, .slice none 0 0] 30) = V2 at *
                    generalize V1.heap.size = b5 at *
                    try simp only [Act.put, List.setIfInBounds_toArray, List.set_cons_zero, List.set_cons_succ]
                    refine wpAnyH_ready (rs := [11, 13]) (by kernel_rfl) (by simp) ?_
                    refine AllReadyH.cons rfl (fun K hK => ?_) (AllReadyH.cons rfl (fun K hK => ?_) AllReadyH.nil)
                    · rw [if_pos (by rfl)]
                      go_simp
                      have hsq := copyMat_any Rb Cb (.slice A2 ns.length c2) ns V2 (HVB.out.below HB) hnb'
                      unfold matV at hsq
                      refine hsq.mono ?_
                      clear hsq
                      rintro e V3 ⟨rb, Y, rfl, oY, hY1, hbe⟩
                      obtain ⟨A4, c4, rfl, A4h1, A4h2⟩ := oY.2.1
                      have T5 := T5.below hbe
                      have oX := oX.below hbe
                      have HB := HB.trans (hbe.mono HB.size)
                      have hss := hbe.size
                      refine hK.out _ _ HB (fun _ => ?_)
                      clear hK hbe
                      try simp only [Act.put, List.setIfInBounds_toArray, List.set_cons_zero, List.set_cons_succ]
                      refine wpAnyH_ready (rs := [13]) (by kernel_rfl) (by simp) ?_
                      refine AllReadyH.cons rfl (fun K hK => ?_) AllReadyH.nil
                      rw [if_pos (by rfl)]
                      go_simp
                      have T6 := Three.new V3 (.int .i64 0) (.int .i64 0) (.slice none 0 0) 30
                      have hbe := (Below.refl V3.heap.size V3).alloc (Nat.le_refl _) (.cells #[.int .i64 0, .int .i64 0, .slice none 0 0] 30)
                      have hsb6 : V3.heap.size < (V3.alloc (.cells #[.int .i64 0, .int .i64 0, .slice none 0 0] 30)).heap.size := by simp
                      have hwb6 := HB.size
                      have hXob6 := oX.2.2
                      have hYob6 := oY.2.2
                      have T5 := T5.below hbe
                      have oX := oX.below hbe
                      have oY := oY.below hbe
                      have HB := HB.trans (hbe.mono HB.size)
                      have hss := hbe.size
                      refine hK.out _ _ HB (fun _ => ?_)
                      clear hK hbe
                      generalize V3.alloc (.cells #[.int .i64 0, .int .i64 0, .slice none 0 0] 30) = V4 at *
                      generalize V3.heap.size = b6 at *
                      try simp only [Act.put, List.setIfInBounds_toArray, List.set_cons_zero, List.set_cons_succ]
                      have hX3 := oX.2.2
                      have hY3 := oY.2.2
                      obtain ⟨u0, u1, u2, u3, u4, u5⟩ := T5
                      have TQ : Three V4 b5 _ _ _ := ⟨u0, u1, u2, u3, u4, u5⟩
                      refine wpAnyH_ready (rs := [14]) (by kernel_rfl) (by simp) ?_
                      refine AllReadyH.cons rfl (fun K hK => ?_) AllReadyH.nil
                      rw [if_pos (by rfl)]
                      go_simp
                      clear u0 u1 u2 u3 u4 u5
                      have T5 := three_put TQ (.int .i64 Ra) (.int .i64 Ca) (.slice A3 ms.length c3)
                      have T6 := three_cell (three_cell (three_cell (T6) (d := ⟨b5, 0, none⟩) (u := (.int .i64 Ra)) (by dsimp only; omega)) (d := ⟨b5, 1, none⟩) (u := (.int .i64 Ca)) (by dsimp only; omega)) (d := ⟨b5, 2, none⟩) (u := (.slice A3 ms.length c3)) (by dsimp only; omega)
                      have oX := OwnB.set (OwnB.set (OwnB.set (oX) (d := ⟨b5, 0, none⟩) (by dsimp only; omega) (.int .i64 Ra)) (d := ⟨b5, 1, none⟩) (by dsimp only; omega) (.int .i64 Ca)) (d := ⟨b5, 2, none⟩) (by dsimp only; omega) (.slice A3 ms.length c3)
                      have oY := OwnB.set (OwnB.set (OwnB.set (oY) (d := ⟨b5, 0, none⟩) (by dsimp only; omega) (.int .i64 Ra)) (d := ⟨b5, 1, none⟩) (by dsimp only; omega) (.int .i64 Ca)) (d := ⟨b5, 2, none⟩) (by dsimp only; omega) (.slice A3 ms.length c3)
                      have HB := ((HB.setCell (p := ⟨b5, 0, none⟩) (by dsimp only; omega) (.int .i64 Ra)).setCell (p := ⟨b5, 1, none⟩) (by dsimp only; omega) (.int .i64 Ca)).setCell (p := ⟨b5, 2, none⟩) (by dsimp only; omega) (.slice A3 ms.length c3)
                      refine hK.out _ _ HB (fun _ => ?_)
                      clear hK TQ
                      generalize (((V4.setCell ⟨b5, 0, none⟩ (.int .i64 Ra)).setCell ⟨b5, 1, none⟩ (.int .i64 Ca)).setCell ⟨b5, 2, none⟩ (.slice A3 ms.length c3)) = V5 at *
                      try simp only [Act.put, List.setIfInBounds_toArray, List.set_cons_zero, List.set_cons_succ]
                      obtain ⟨u0, u1, u2, u3, u4, u5⟩ := T6
                      have TQ : Three V5 b6 _ _ _ := ⟨u0, u1, u2, u3, u4, u5⟩
                      refine wpAnyH_ready (rs := [15]) (by kernel_rfl) (by simp) ?_
                      refine AllReadyH.cons rfl (fun K hK => ?_) AllReadyH.nil
                      rw [if_pos (by rfl)]
                      go_simp
                      clear u0 u1 u2 u3 u4 u5
                      have T6 := three_put TQ (.int .i64 Rb) (.int .i64 Cb) (.slice A4 ns.length c4)
                      have T5 := three_cell (three_cell (three_cell (T5) (d := ⟨b6, 0, none⟩) (u := (.int .i64 Rb)) (by dsimp only; omega)) (d := ⟨b6, 1, none⟩) (u := (.int .i64 Cb)) (by dsimp only; omega)) (d := ⟨b6, 2, none⟩) (u := (.slice A4 ns.length c4)) (by dsimp only; omega)
                      have oX := OwnB.set (OwnB.set (OwnB.set (oX) (d := ⟨b6, 0, none⟩) (by dsimp only; omega) (.int .i64 Rb)) (d := ⟨b6, 1, none⟩) (by dsimp only; omega) (.int .i64 Cb)) (d := ⟨b6, 2, none⟩) (by dsimp only; omega) (.slice A4 ns.length c4)
                      have oY := OwnB.set (OwnB.set (OwnB.set (oY) (d := ⟨b6, 0, none⟩) (by dsimp only; omega) (.int .i64 Rb)) (d := ⟨b6, 1, none⟩) (by dsimp only; omega) (.int .i64 Cb)) (d := ⟨b6, 2, none⟩) (by dsimp only; omega) (.slice A4 ns.length c4)
                      have HB := ((HB.setCell (p := ⟨b6, 0, none⟩) (by dsimp only; omega) (.int .i64 Rb)).setCell (p := ⟨b6, 1, none⟩) (by dsimp only; omega) (.int .i64 Cb)).setCell (p := ⟨b6, 2, none⟩) (by dsimp only; omega) (.slice A4 ns.length c4)
                      refine hK.out _ _ HB (fun _ => ?_)
                      clear hK TQ
                      generalize (((V5.setCell ⟨b6, 0, none⟩ (.int .i64 Rb)).setCell ⟨b6, 1, none⟩ (.int .i64 Cb)).setCell ⟨b6, 2, none⟩ (.slice A4 ns.length c4)) = V6 at *
                      try simp only [Act.put, List.setIfInBounds_toArray, List.set_cons_zero, List.set_cons_succ]
                      refine wpAnyH_done (by kernel_rfl) ?_ _
                      go_wp2_with fail
                      go_meet
                      exact ⟨b5, b6, .slice A3 ms.length c3, .slice A4 ns.length c4, rfl, rfl, ⟨T5, T6, oX.1, oX.2.1, oY.1, oY.2.1, HB⟩⟩
                    · rw [if_pos (by rfl)]
                      go_simp
                      have T6 := Three.new V2 (.int .i64 0) (.int .i64 0) (.slice none 0 0) 30
                      have hbe := (Below.refl V2.heap.size V2).alloc (Nat.le_refl _) (.cells #[.int .i64 0, .int .i64 0, .slice none 0 0] 30)
                      have hsb6 : V2.heap.size < (V2.alloc (.cells #[.int .i64 0, .int .i64 0, .slice none 0 0] 30)).heap.size := by simp
                      have hwb6 := HB.size
                      have hXob6 := oX.2.2
                      have T5 := T5.below hbe
                      have oX := oX.below hbe
                      have HB := HB.trans (hbe.mono HB.size)
                      have hss := hbe.size
                      refine hK.out _ _ HB (fun _ => ?_)
                      clear hK hbe
                      generalize V2.alloc (.cells #[.int .i64 0, .int .i64 0, .slice none 0 0] 30) = V3 at *
                      generalize V2.heap.size = b6 at *
                      try simp only [Act.put, List.setIfInBounds_toArray, List.set_cons_zero, List.set_cons_succ]
                      refine wpAnyH_ready (rs := [11]) (by kernel_rfl) (by simp) ?_
                      refine AllReadyH.cons rfl (fun K hK => ?_) AllReadyH.nil
                      rw [if_pos (by rfl)]
                      go_simp
                      have hsq := copyMat_any Rb Cb (.slice A2 ns.length c2) ns V3 (HVB.out.below HB) hnb'
                      unfold matV at hsq
                      refine hsq.mono ?_
                      clear hsq
                      rintro e V4 ⟨rb, Y, rfl, oY, hY1, hbe⟩
                      obtain ⟨A4, c4, rfl, A4h1, A4h2⟩ := oY.2.1
                      have T5 := T5.below hbe
                      have T6 := T6.below hbe
                      have oX := oX.below hbe
                      have HB := HB.trans (hbe.mono HB.size)
                      have hss := hbe.size
                      refine hK.out _ _ HB (fun _ => ?_)
                      clear hK hbe
                      try simp only [Act.put, List.setIfInBounds_toArray, List.set_cons_zero, List.set_cons_succ]
                      have hX3 := oX.2.2
                      have hY3 := oY.2.2
                      obtain ⟨u0, u1, u2, u3, u4, u5⟩ := T5
                      have TQ : Three V4 b5 _ _ _ := ⟨u0, u1, u2, u3, u4, u5⟩
                      refine wpAnyH_ready (rs := [14]) (by kernel_rfl) (by simp) ?_
                      refine AllReadyH.cons rfl (fun K hK => ?_) AllReadyH.nil
                      rw [if_pos (by rfl)]
                      go_simp
                      clear u0 u1 u2 u3 u4 u5
                      have T5 := three_put TQ (.int .i64 Ra) (.int .i64 Ca) (.slice A3 ms.length c3)
                      have T6 := three_cell (three_cell (three_cell (T6) (d := ⟨b5, 0, none⟩) (u := (.int .i64 Ra)) (by dsimp only; omega)) (d := ⟨b5, 1, none⟩) (u := (.int .i64 Ca)) (by dsimp only; omega)) (d := ⟨b5, 2, none⟩) (u := (.slice A3 ms.length c3)) (by dsimp only; omega)
                      have oX := OwnB.set (OwnB.set (OwnB.set (oX) (d := ⟨b5, 0, none⟩) (by dsimp only; omega) (.int .i64 Ra)) (d := ⟨b5, 1, none⟩) (by dsimp only; omega) (.int .i64 Ca)) (d := ⟨b5, 2, none⟩) (by dsimp only; omega) (.slice A3 ms.length c3)
                      have oY := OwnB.set (OwnB.set (OwnB.set (oY) (d := ⟨b5, 0, none⟩) (by dsimp only; omega) (.int .i64 Ra)) (d := ⟨b5, 1, none⟩) (by dsimp only; omega) (.int .i64 Ca)) (d := ⟨b5, 2, none⟩) (by dsimp only; omega) (.slice A3 ms.length c3)
                      have HB := ((HB.setCell (p := ⟨b5, 0, none⟩) (by dsimp only; omega) (.int .i64 Ra)).setCell (p := ⟨b5, 1, none⟩) (by dsimp only; omega) (.int .i64 Ca)).setCell (p := ⟨b5, 2, none⟩) (by dsimp only; omega) (.slice A3 ms.length c3)
                      refine hK.out _ _ HB (fun _ => ?_)
                      clear hK TQ
                      generalize (((V4.setCell ⟨b5, 0, none⟩ (.int .i64 Ra)).setCell ⟨b5, 1, none⟩ (.int .i64 Ca)).setCell ⟨b5, 2, none⟩ (.slice A3 ms.length c3)) = V5 at *
                      try simp only [Act.put, List.setIfInBounds_toArray, List.set_cons_zero, List.set_cons_succ]
                      obtain ⟨u0, u1, u2, u3, u4, u5⟩ := T6
                      have TQ : Three V5 b6 _ _ _ := ⟨u0, u1, u2, u3, u4, u5⟩
                      refine wpAnyH_ready (rs := [15]) (by kernel_rfl) (by simp) ?_
                      refine AllReadyH.cons rfl (fun K hK => ?_) AllReadyH.nil
                      rw [if_pos (by rfl)]
                      go_simp
                      clear u0 u1 u2 u3 u4 u5
                      have T6 := three_put TQ (.int .i64 Rb) (.int .i64 Cb) (.slice A4 ns.length c4)
                      have T5 := three_cell (three_cell (three_cell (T5) (d := ⟨b6, 0, none⟩) (u := (.int .i64 Rb)) (by dsimp only; omega)) (d := ⟨b6, 1, none⟩) (u := (.int .i64 Cb)) (by dsimp only; omega)) (d := ⟨b6, 2, none⟩) (u := (.slice A4 ns.length c4)) (by dsimp only; omega)
                      have oX := OwnB.set (OwnB.set (OwnB.set (oX) (d := ⟨b6, 0, none⟩) (by dsimp only; omega) (.int .i64 Rb)) (d := ⟨b6, 1, none⟩) (by dsimp only; omega) (.int .i64 Cb)) (d := ⟨b6, 2, none⟩) (by dsimp only; omega) (.slice A4 ns.length c4)
                      have oY := OwnB.set (OwnB.set (OwnB.set (oY) (d := ⟨b6, 0, none⟩) (by dsimp only; omega) (.int .i64 Rb)) (d := ⟨b6, 1, none⟩) (by dsimp only; omega) (.int .i64 Cb)) (d := ⟨b6, 2, none⟩) (by dsimp only; omega) (.slice A4 ns.length c4)
                      have HB := ((HB.setCell (p := ⟨b6, 0, none⟩) (by dsimp only; omega) (.int .i64 Rb)).setCell (p := ⟨b6, 1, none⟩) (by dsimp only; omega) (.int .i64 Cb)).setCell (p := ⟨b6, 2, none⟩) (by dsimp only; omega) (.slice A4 ns.length c4)
                      refine hK.out _ _ HB (fun _ => ?_)
                      clear hK TQ
                      generalize (((V5.setCell ⟨b6, 0, none⟩ (.int .i64 Rb)).setCell ⟨b6, 1, none⟩ (.int .i64 Cb)).setCell ⟨b6, 2, none⟩ (.slice A4 ns.length c4)) = V6 at *
                      try simp only [Act.put, List.setIfInBounds_toArray, List.set_cons_zero, List.set_cons_succ]
                      refine wpAnyH_done (by kernel_rfl) ?_ _
                      go_wp2_with fail
                      go_meet
                      exact ⟨b5, b6, .slice A3 ms.length c3, .slice A4 ns.length c4, rfl, rfl, ⟨T5, T6, oX.1, oX.2.1, oY.1, oY.2.1, HB⟩⟩
                  · rw [if_pos (by rfl)]
                    go_simp
                    have T6 := Three.new V1 (.int .i64 0) (.int .i64 0) (.slice none 0 0) 30
                    have hbe := (Below.refl V1.heap.size V1).alloc (Nat.le_refl _) (.cells #[.int .i64 0, .int .i64 0, .slice none 0 0] 30)
                    have hsb6 : V1.heap.size < (V1.alloc (.cells #[.int .i64 0, .int .i64 0, .slice none 0 0] 30)).heap.size := by simp
                    have hwb6 := HB.size
                    have hXob6 := oX.2.2
                    have oX := oX.below hbe
                    have HB := HB.trans (hbe.mono HB.size)
                    have hss := hbe.size
                    refine hK.out _ _ HB (fun _ => ?_)
                    clear hK hbe
                    generalize V1.alloc (.cells #[.int .i64 0, .int .i64 0, .slice none 0 0] 30) = V2 at *
                    generalize V1.heap.size = b6 at *
                    try simp only [Act.put, List.setIfInBounds_toArray, List.set_cons_zero, List.set_cons_succ]
                    refine wpAnyH_ready (rs := [11, 12]) (by kernel_rfl) (by simp) ?_
                    refine AllReadyH.cons rfl (fun K hK => ?_) (AllReadyH.cons rfl (fun K hK => ?_) AllReadyH.nil)
                    · rw [if_pos (by rfl)]
                      go_simp
                      have hsq := copyMat_any Rb Cb (.slice A2 ns.length c2) ns V2 (HVB.out.below HB) hnb'
                      unfold matV at hsq
                      refine hsq.mono ?_
                      clear hsq
                      rintro e V3 ⟨rb, Y, rfl, oY, hY1, hbe⟩
                      obtain ⟨A4, c4, rfl, A4h1, A4h2⟩ := oY.2.1
                      have T6 := T6.below hbe
                      have oX := oX.below hbe
                      have HB := HB.trans (hbe.mono HB.size)
                      have hss := hbe.size
                      refine hK.out _ _ HB (fun _ => ?_)
                      clear hK hbe
                      try simp only [Act.put, List.setIfInBounds_toArray, List.set_cons_zero, List.set_cons_succ]
                      refine wpAnyH_ready (rs := [12]) (by kernel_rfl) (by simp) ?_
                      refine AllReadyH.cons rfl (fun K hK => ?_) AllReadyH.nil
                      rw [if_pos (by rfl)]
                      go_simp
                      have T5 := Three.new V3 (.int .i64 0) (.int .i64 0) (.slice none 0 0) 30
                      have hbe := (Below.refl V3.heap.size V3).alloc (Nat.le_refl _) (.cells #[.int .i64 0, .int .i64 0, .slice none 0 0] 30)
                      have hsb5 : V3.heap.size < (V3.alloc (.cells #[.int .i64 0, .int .i64 0, .slice none 0 0] 30)).heap.size := by simp
                      have hwb5 := HB.size
                      have hXob5 := oX.2.2
                      have hYob5 := oY.2.2
                      have T6 := T6.below hbe
                      have oX := oX.below hbe
                      have oY := oY.below hbe
                      have HB := HB.trans (hbe.mono HB.size)
                      have hss := hbe.size
                      refine hK.out _ _ HB (fun _ => ?_)
                      clear hK hbe
                      generalize V3.alloc (.cells #[.int .i64 0, .int .i64 0, .slice none 0 0] 30) = V4 at *
                      generalize V3.heap.size = b5 at *
                      try simp only [Act.put, List.setIfInBounds_toArray, List.set_cons_zero, List.set_cons_succ]
                      have hX3 := oX.2.2
                      have hY3 := oY.2.2
                      obtain ⟨u0, u1, u2, u3, u4, u5⟩ := T5
                      have TQ : Three V4 b5 _ _ _ := ⟨u0, u1, u2, u3, u4, u5⟩
                      refine wpAnyH_ready (rs := [14]) (by kernel_rfl) (by simp) ?_
                      refine AllReadyH.cons rfl (fun K hK => ?_) AllReadyH.nil
                      rw [if_pos (by rfl)]
                      go_simp
                      clear u0 u1 u2 u3 u4 u5
                      have T5 := three_put TQ (.int .i64 Ra) (.int .i64 Ca) (.slice A3 ms.length c3)
                      have T6 := three_cell (three_cell (three_cell (T6) (d := ⟨b5, 0, none⟩) (u := (.int .i64 Ra)) (by dsimp only; omega)) (d := ⟨b5, 1, none⟩) (u := (.int .i64 Ca)) (by dsimp only; omega)) (d := ⟨b5, 2, none⟩) (u := (.slice A3 ms.length c3)) (by dsimp only; omega)
                      have oX := OwnB.set (OwnB.set (OwnB.set (oX) (d := ⟨b5, 0, none⟩) (by dsimp only; omega) (.int .i64 Ra)) (d := ⟨b5, 1, none⟩) (by dsimp only; omega) (.int .i64 Ca)) (d := ⟨b5, 2, none⟩) (by dsimp only; omega) (.slice A3 ms.length c3)
                      have oY := OwnB.set (OwnB.set (OwnB.set (oY) (d := ⟨b5, 0, none⟩) (by dsimp only; omega) (.int .i64 Ra)) (d := ⟨b5, 1, none⟩) (by dsimp only; omega) (.int .i64 Ca)) (d := ⟨b5, 2, none⟩) (by dsimp only; omega) (.slice A3 ms.length c3)
                      have HB := ((HB.setCell (p := ⟨b5, 0, none⟩) (by dsimp only; omega) (.int .i64 Ra)).setCell (p := ⟨b5, 1, none⟩) (by dsimp only; omega) (.int .i64 Ca)).setCell (p := ⟨b5, 2, none⟩) (by dsimp only; omega) (.slice A3 ms.length c3)
                      refine hK.out _ _ HB (fun _ => ?_)
                      clear hK TQ
                      generalize (((V4.setCell ⟨b5, 0, none⟩ (.int .i64 Ra)).setCell ⟨b5, 1, none⟩ (.int .i64 Ca)).setCell ⟨b5, 2, none⟩ (.slice A3 ms.length c3)) = V5 at *
                      try simp only [Act.put, List.setIfInBounds_toArray, List.set_cons_zero, List.set_cons_succ]
                      obtain ⟨u0, u1, u2, u3, u4, u5⟩ := T6
                      have TQ : Three V5 b6 _ _ _ := ⟨u0, u1, u2, u3, u4, u5⟩
                      refine wpAnyH_ready (rs := [15]) (by kernel_rfl) (by simp) ?_
                      refine AllReadyH.cons rfl (fun K hK => ?_) AllReadyH.nil
                      rw [if_pos (by rfl)]
                      go_simp
                      clear u0 u1 u2 u3 u4 u5
                      have T6 := three_put TQ (.int .i64 Rb) (.int .i64 Cb) (.slice A4 ns.length c4)
                      have T5 := three_cell (three_cell (three_cell (T5) (d := ⟨b6, 0, none⟩) (u := (.int .i64 Rb)) (by dsimp only; omega)) (d := ⟨b6, 1, none⟩) (u := (.int .i64 Cb)) (by dsimp only; omega)) (d := ⟨b6, 2, none⟩) (u := (.slice A4 ns.length c4)) (by dsimp only; omega)
                      have oX := OwnB.set (OwnB.set (OwnB.set (oX) (d := ⟨b6, 0, none⟩) (by dsimp only; omega) (.int .i64 Rb)) (d := ⟨b6, 1, none⟩) (by dsimp only; omega) (.int .i64 Cb)) (d := ⟨b6, 2, none⟩) (by dsimp only; omega) (.slice A4 ns.length c4)
                      have oY := OwnB.set (OwnB.set (OwnB.set (oY) (d := ⟨b6, 0, none⟩) (by dsimp only; omega) (.int .i64 Rb)) (d := ⟨b6, 1, none⟩) (by dsimp only; omega) (.int .i64 Cb)) (d := ⟨b6, 2, none⟩) (by dsimp only; omega) (.slice A4 ns.length c4)
                      have HB := ((HB.setCell (p := ⟨b6, 0, none⟩) (by dsimp only; omega) (.int .i64 Rb)).setCell (p := ⟨b6, 1, none⟩) (by dsimp only; omega) (.int .i64 Cb)).setCell (p := ⟨b6, 2, none⟩) (by dsimp only; omega) (.slice A4 ns.length c4)
                      refine hK.out _ _ HB (fun _ => ?_)
                      clear hK TQ
                      generalize (((V5.setCell ⟨b6, 0, none⟩ (.int .i64 Rb)).setCell ⟨b6, 1, none⟩ (.int .i64 Cb)).setCell ⟨b6, 2, none⟩ (.slice A4 ns.length c4)) = V6 at *
                      try simp only [Act.put, List.setIfInBounds_toArray, List.set_cons_zero, List.set_cons_succ]
                      refine wpAnyH_done (by kernel_rfl) ?_ _
                      go_wp2_with fail
                      go_meet
                      exact ⟨b5, b6, .slice A3 ms.length c3, .slice A4 ns.length c4, rfl, rfl, ⟨T5, T6, oX.1, oX.2.1, oY.1, oY.2.1, HB⟩⟩
                    · rw [if_pos (by rfl)]
                      go_simp
                      have T5 := Three.new V2 (.int .i64 0) (.int .i64 0) (.slice none 0 0) 30
                      have hbe := (Below.refl V2.heap.size V2).alloc (Nat.le_refl _) (.cells #[.int .i64 0, .int .i64 0, .slice none 0 0] 30)
                      have hsb5 : V2.heap.size < (V2.alloc (.cells #[.int .i64 0, .int .i64 0, .slice none 0 0] 30)).heap.size := by simp
                      have hwb5 := HB.size
                      have hXob5 := oX.2.2
                      have T6 := T6.below hbe
                      have oX := oX.below hbe
                      have HB := HB.trans (hbe.mono HB.size)
                      have hss := hbe.size
                      refine hK.out _ _ HB (fun _ => ?_)
                      clear hK hbe
                      generalize V2.alloc (.cells #[.int .i64 0, .int .i64 0, .slice none 0 0] 30) = V3 at *
                      generalize V2.heap.size = b5 at *
                      try simp only [Act.put, List.setIfInBounds_toArray, List.set_cons_zero, List.set_cons_succ]
                      refine wpAnyH_ready (rs := [11]) (by kernel_rfl) (by simp) ?_
                      refine AllReadyH.cons rfl (fun K hK => ?_) AllReadyH.nil
                      rw [if_pos (by rfl)]
                      go_simp
                      have hsq := copyMat_any Rb Cb (.slice A2 ns.length c2) ns V3 (HVB.out.below HB) hnb'
                      unfold matV at hsq
                      refine hsq.mono ?_
                      clear hsq
                      rintro e V4 ⟨rb, Y, rfl, oY, hY1, hbe⟩
                      obtain ⟨A4, c4, rfl, A4h1, A4h2⟩ := oY.2.1
                      have T5 := T5.below hbe
                      have T6 := T6.below hbe
                      have oX := oX.below hbe
                      have HB := HB.trans (hbe.mono HB.size)
                      have hss := hbe.size
                      refine hK.out _ _ HB (fun _ => ?_)
                      clear hK hbe
                      try simp only [Act.put, List.setIfInBounds_toArray, List.set_cons_zero, List.set_cons_succ]
                      have hX3 := oX.2.2
                      have hY3 := oY.2.2
                      obtain ⟨u0, u1, u2, u3, u4, u5⟩ := T5
                      have TQ : Three V4 b5 _ _ _ := ⟨u0, u1, u2, u3, u4, u5⟩
                      refine wpAnyH_ready (rs := [14]) (by kernel_rfl) (by simp) ?_
                      refine AllReadyH.cons rfl (fun K hK => ?_) AllReadyH.nil
                      rw [if_pos (by rfl)]
                      go_simp
                      clear u0 u1 u2 u3 u4 u5
                      have T5 := three_put TQ (.int .i64 Ra) (.int .i64 Ca) (.slice A3 ms.length c3)
                      have T6 := three_cell (three_cell (three_cell (T6) (d := ⟨b5, 0, none⟩) (u := (.int .i64 Ra)) (by dsimp only; omega)) (d := ⟨b5, 1, none⟩) (u := (.int .i64 Ca)) (by dsimp only; omega)) (d := ⟨b5, 2, none⟩) (u := (.slice A3 ms.length c3)) (by dsimp only; omega)
                      have oX := OwnB.set (OwnB.set (OwnB.set (oX) (d := ⟨b5, 0, none⟩) (by dsimp only; omega) (.int .i64 Ra)) (d := ⟨b5, 1, none⟩) (by dsimp only; omega) (.int .i64 Ca)) (d := ⟨b5, 2, none⟩) (by dsimp only; omega) (.slice A3 ms.length c3)
                      have oY := OwnB.set (OwnB.set (OwnB.set (oY) (d := ⟨b5, 0, none⟩) (by dsimp only; omega) (.int .i64 Ra)) (d := ⟨b5, 1, none⟩) (by dsimp only; omega) (.int .i64 Ca)) (d := ⟨b5, 2, none⟩) (by dsimp only; omega) (.slice A3 ms.length c3)
                      have HB := ((HB.setCell (p := ⟨b5, 0, none⟩) (by dsimp only; omega) (.int .i64 Ra)).setCell (p := ⟨b5, 1, none⟩) (by dsimp only; omega) (.int .i64 Ca)).setCell (p := ⟨b5, 2, none⟩) (by dsimp only; omega) (.slice A3 ms.length c3)
                      refine hK.out _ _ HB (fun _ => ?_)
                      clear hK TQ
                      generalize (((V4.setCell ⟨b5, 0, none⟩ (.int .i64 Ra)).setCell ⟨b5, 1, none⟩ (.int .i64 Ca)).setCell ⟨b5, 2, none⟩ (.slice A3 ms.length c3)) = V5 at *
                      try simp only [Act.put, List.setIfInBounds_toArray, List.set_cons_zero, List.set_cons_succ]
                      obtain ⟨u0, u1, u2, u3, u4, u5⟩ := T6
                      have TQ : Three V5 b6 _ _ _ := ⟨u0, u1, u2, u3, u4, u5⟩
                      refine wpAnyH_ready (rs := [15]) (by kernel_rfl) (by simp) ?_
                      refine AllReadyH.cons rfl (fun K hK => ?_) AllReadyH.nil
                      rw [if_pos (by rfl)]
                      go_simp
                      clear u0 u1 u2 u3 u4 u5
                      have T6 := three_put TQ (.int .i64 Rb) (.int .i64 Cb) (.slice A4 ns.length c4)
                      have T5 := three_cell (three_cell (three_cell (T5) (d := ⟨b6, 0, none⟩) (u := (.int .i64 Rb)) (by dsimp only; omega)) (d := ⟨b6, 1, none⟩) (u := (.int .i64 Cb)) (by dsimp only; omega)) (d := ⟨b6, 2, none⟩) (u := (.slice A4 ns.length c4)) (by dsimp only; omega)
                      have oX := OwnB.set (OwnB.set (OwnB.set (oX) (d := ⟨b6, 0, none⟩) (by dsimp only; omega) (.int .i64 Rb)) (d := ⟨b6, 1, none⟩) (by dsimp only; omega) (.int .i64 Cb)) (d := ⟨b6, 2, none⟩) (by dsimp only; omega) (.slice A4 ns.length c4)
                      have oY := OwnB.set (OwnB.set (OwnB.set (oY) (d := ⟨b6, 0, none⟩) (by dsimp only; omega) (.int .i64 Rb)) (d := ⟨b6, 1, none⟩) (by dsimp only; omega) (.int .i64 Cb)) (d := ⟨b6, 2, none⟩) (by dsimp only; omega) (.slice A4 ns.length c4)
                      have HB := ((HB.setCell (p := ⟨b6, 0, none⟩) (by dsimp only; omega) (.int .i64 Rb)).setCell (p := ⟨b6, 1, none⟩) (by dsimp only; omega) (.int .i64 Cb)).setCell (p := ⟨b6, 2, none⟩) (by dsimp only; omega) (.slice A4 ns.length c4)
                      refine hK.out _ _ HB (fun _ => ?_)
                      clear hK TQ
                      generalize (((V5.setCell ⟨b6, 0, none⟩ (.int .i64 Rb)).setCell ⟨b6, 1, none⟩ (.int .i64 Cb)).setCell ⟨b6, 2, none⟩ (.slice A4 ns.length c4)) = V6 at *
                      try simp only [Act.put, List.setIfInBounds_toArray, List.set_cons_zero, List.set_cons_succ]
                      refine wpAnyH_done (by kernel_rfl) ?_ _
                      go_wp2_with fail
                      go_meet
                      exact ⟨b5, b6, .slice A3 ms.length c3, .slice A4 ns.length c4, rfl, rfl, ⟨T5, T6, oX.1, oX.2.1, oY.1, oY.2.1, HB⟩⟩
                · rw [if_pos (by rfl)]
                  go_simp
                  have T5 := Three.new V0 (.int .i64 0) (.int .i64 0) (.slice none 0 0) 30
                  have hbe := (Below.refl V0.heap.size V0).alloc (Nat.le_refl _) (.cells #[.int .i64 0, .int .i64 0, .slice none 0 0] 30)
                  have hsb5 : V0.heap.size < (V0.alloc (.cells #[.int .i64 0, .int .i64 0, .slice none 0 0] 30)).heap.size := by simp
                  have hwb5 := HB.size
                  have HB := HB.trans (hbe.mono HB.size)
                  have hss := hbe.size
                  refine hK.out _ _ HB (fun _ => ?_)
                  clear hK hbe
                  generalize V0.alloc (.cells #[.int .i64 0, .int .i64 0, .slice none 0 0] 30) = V1 at *
                  generalize V0.heap.size = b5 at *
                  try simp only [Act.put, List.setIfInBounds_toArray, List.set_cons_zero, List.set_cons_succ]
                  refine wpAnyH_ready (rs := [5, 13]) (by kernel_rfl) (by simp) ?_
                  refine AllReadyH.cons rfl (fun K hK => ?_) (AllReadyH.cons rfl (fun K hK => ?_) AllReadyH.nil)
                  · rw [if_pos (by rfl)]
                    go_simp
                    have hsq := copyMat_any Ra Ca (.slice A1 ms.length c1) ms V1 (HVA.out.below HB) hna'
                    unfold matV at hsq
                    refine hsq.mono ?_
                    clear hsq
                    rintro e V2 ⟨ra, X, rfl, oX, hX1, hbe⟩
                    obtain ⟨A3, c3, rfl, A3h1, A3h2⟩ := oX.2.1
                    have T5 := T5.below hbe
                    have HB := HB.trans (hbe.mono HB.size)
                    have hss := hbe.size
                    refine hK.out _ _ HB (fun _ => ?_)
                    clear hK hbe
                    try simp only [Act.put, List.setIfInBounds_toArray, List.set_cons_zero, List.set_cons_succ]
                    refine wpAnyH_ready (rs := [11, 13]) (by kernel_rfl) (by simp) ?_
                    refine AllReadyH.cons rfl (fun K hK => ?_) (AllReadyH.cons rfl (fun K hK => ?_) AllReadyH.nil)
                    · rw [if_pos (by rfl)]
                      go_simp
                      have hsq := copyMat_any Rb Cb (.slice A2 ns.length c2) ns V2 (HVB.out.below HB) hnb'
                      unfold matV at hsq
                      refine hsq.mono ?_
                      clear hsq
                      rintro e V3 ⟨rb, Y, rfl, oY, hY1, hbe⟩
                      obtain ⟨A4, c4, rfl, A4h1, A4h2⟩ := oY.2.1
                      have T5 := T5.below hbe
                      have oX := oX.below hbe
                      have HB := HB.trans (hbe.mono HB.size)
                      have hss := hbe.size
                      refine hK.out _ _ HB (fun _ => ?_)
                      clear hK hbe
                      try simp only [Act.put, List.setIfInBounds_toArray, List.set_cons_zero, List.set_cons_succ]
                      refine wpAnyH_ready (rs := [13]) (by kernel_rfl) (by simp) ?_
                      refine AllReadyH.cons rfl (fun K hK => ?_) AllReadyH.nil
                      rw [if_pos (by rfl)]
                      go_simp
                      have T6 := Three.new V3 (.int .i64 0) (.int .i64 0) (.slice none 0 0) 30
                      have hbe := (Below.refl V3.heap.size V3).alloc (Nat.le_refl _) (.cells #[.int .i64 0, .int .i64 0, .slice none 0 0] 30)
                      have hsb6 : V3.heap.size < (V3.alloc (.cells #[.int .i64 0, .int .i64 0, .slice none 0 0] 30)).heap.size := by simp
                      have hwb6 := HB.size
                      have hXob6 := oX.2.2
                      have hYob6 := oY.2.2
                      have T5 := T5.below hbe
                      have oX := oX.below hbe
                      have oY := oY.below hbe
                      have HB := HB.trans (hbe.mono HB.size)
                      have hss := hbe.size
                      refine hK.out _ _ HB (fun _ => ?_)
                      clear hK hbe
                      generalize V3.alloc (.cells #[.int .i64 0, .int .i64 0, .slice none 0 0] 30) = V4 at *
                      generalize V3.heap.size = b6 at *
                      try simp only [Act.put, List.setIfInBounds_toArray, List.set_cons_zero, List.set_cons_succ]
                      have hX3 := oX.2.2
                      have hY3 := oY.2.2
                      obtain ⟨u0, u1, u2, u3, u4, u5⟩ := T5
                      have TQ : Three V4 b5 _ _ _ := ⟨u0, u1, u2, u3, u4, u5⟩
                      refine wpAnyH_ready (rs := [14]) (by kernel_rfl) (by simp) ?_
                      refine AllReadyH.cons rfl (fun K hK => ?_) AllReadyH.nil
                      rw [if_pos (by rfl)]
                      go_simp
                      clear u0 u1 u2 u3 u4 u5
                      have T5 := three_put TQ (.int .i64 Ra) (.int .i64 Ca) (.slice A3 ms.length c3)
                      have T6 := three_cell (three_cell (three_cell (T6) (d := ⟨b5, 0, none⟩) (u := (.int .i64 Ra)) (by dsimp only; omega)) (d := ⟨b5, 1, none⟩) (u := (.int .i64 Ca)) (by dsimp only; omega)) (d := ⟨b5, 2, none⟩) (u := (.slice A3 ms.length c3)) (by dsimp only; omega)
                      have oX := OwnB.set (OwnB.set (OwnB.set (oX) (d := ⟨b5, 0, none⟩) (by dsimp only; omega) (.int .i64 Ra)) (d := ⟨b5, 1, none⟩) (by dsimp only; omega) (.int .i64 Ca)) (d := ⟨b5, 2, none⟩) (by dsimp only; omega) (.slice A3 ms.length c3)
                      have oY := OwnB.set (OwnB.set (OwnB.set (oY) (d := ⟨b5, 0, none⟩) (by dsimp only; omega) (.int .i64 Ra)) (d := ⟨b5, 1, none⟩) (by dsimp only; omega) (.int .i64 Ca)) (d := ⟨b5, 2, none⟩) (by dsimp only; omega) (.slice A3 ms.length c3)
                      have HB := ((HB.setCell (p := ⟨b5, 0, none⟩) (by dsimp only; omega) (.int .i64 Ra)).setCell (p := ⟨b5, 1, none⟩) (by dsimp only; omega) (.int .i64 Ca)).setCell (p := ⟨b5, 2, none⟩) (by dsimp only; omega) (.slice A3 ms.length c3)
                      refine hK.out _ _ HB (fun _ => ?_)
                      clear hK TQ
                      generalize (((V4.setCell ⟨b5, 0, none⟩ (.int .i64 Ra)).setCell ⟨b5, 1, none⟩ (.int .i64 Ca)).setCell ⟨b5, 2, none⟩ (.slice A3 ms.length c3)) = V5 at *
                      try simp only [Act.put, List.setIfInBounds_toArray, List.set_cons_zero, List.set_cons_succ]
                      obtain ⟨u0, u1, u2, u3, u4, u5⟩ := T6
                      have TQ : Three V5 b6 _ _ _ := ⟨u0, u1, u2, u3, u4, u5⟩
                      refine wpAnyH_ready (rs := [15]) (by kernel_rfl) (by simp) ?_
                      refine AllReadyH.cons rfl (fun K hK => ?_) AllReadyH.nil
                      rw [if_pos (by rfl)]
                      go_simp
                      clear u0 u1 u2 u3 u4 u5
                      have T6 := three_put TQ (.int .i64 Rb) (.int .i64 Cb) (.slice A4 ns.length c4)
                      have T5 := three_cell (three_cell (three_cell (T5) (d := ⟨b6, 0, none⟩) (u := (.int .i64 Rb)) (by dsimp only; omega)) (d := ⟨b6, 1, none⟩) (u := (.int .i64 Cb)) (by dsimp only; omega)) (d := ⟨b6, 2, none⟩) (u := (.slice A4 ns.length c4)) (by dsimp only; omega)
                      have oX := OwnB.set (OwnB.set (OwnB.set (oX) (d := ⟨b6, 0, none⟩) (by dsimp only; omega) (.int .i64 Rb)) (d := ⟨b6, 1, none⟩) (by dsimp only; omega) (.int .i64 Cb)) (d := ⟨b6, 2, none⟩) (by dsimp only; omega) (.slice A4 ns.length c4)
                      have oY := OwnB.set (OwnB.set (OwnB.set (oY) (d := ⟨b6, 0, none⟩) (by dsimp only; omega) (.int .i64 Rb)) (d := ⟨b6, 1, none⟩) (by dsimp only; omega) (.int .i64 Cb)) (d := ⟨b6, 2, none⟩) (by dsimp only; omega) (.slice A4 ns.length c4)
                      have HB := ((HB.setCell (p := ⟨b6, 0, none⟩) (by dsimp only; omega) (.int .i64 Rb)).setCell (p := ⟨b6, 1, none⟩) (by dsimp only; omega) (.int .i64 Cb)).setCell (p := ⟨b6, 2, none⟩) (by dsimp only; omega) (.slice A4 ns.length c4)
                      refine hK.out _ _ HB (fun _ => ?_)
                      clear hK TQ
                      generalize (((V5.setCell ⟨b6, 0, none⟩ (.int .i64 Rb)).setCell ⟨b6, 1, none⟩ (.int .i64 Cb)).setCell ⟨b6, 2, none⟩ (.slice A4 ns.length c4)) = V6 at *
                      try simp only [Act.put, List.setIfInBounds_toArray, List.set_cons_zero, List.set_cons_succ]
                      refine wpAnyH_done (by kernel_rfl) ?_ _
                      go_wp2_with fail
                      go_meet
                      exact ⟨b5, b6, .slice A3 ms.length c3, .slice A4 ns.length c4, rfl, rfl, ⟨T5, T6, oX.1, oX.2.1, oY.1, oY.2.1, HB⟩⟩
                    · rw [if_pos (by rfl)]
                      go_simp
                      have T6 := Three.new V2 (.int .i64 0) (.int .i64 0) (.slice none 0 0) 30
                      have hbe := (Below.refl V2.heap.size V2).alloc (Nat.le_refl _) (.cells #[.int .i64 0, .int .i64 0, .slice none 0 0] 30)
                      have hsb6 : V2.heap.size < (V2.alloc (.cells #[.int .i64 0, .int .i64 0, .slice none 0 0] 30)).heap.size := by simp
                      have hwb6 := HB.size
                      have hXob6 := oX.2.2
                      have T5 := T5.below hbe
                      have oX := oX.below hbe
                      have HB := HB.trans (hbe.mono HB.size)
                      have hss := hbe.size
                      refine hK.out _ _ HB (fun _ => ?_)
                      clear hK hbe
                      generalize V2.alloc (.cells #[.int .i64 0, .int .i64 0, .slice none 0 0] 30) = V3 at *
                      generalize V2.heap.size = b6 at *
                      try simp only [Act.put, List.setIfInBounds_toArray, List.set_cons_zero, List.set_cons_succ]
                      refine wpAnyH_ready (rs := [11]) (by kernel_rfl) (by simp) ?_
                      refine AllReadyH.cons rfl (fun K hK => ?_) AllReadyH.nil
                      rw [if_pos (by rfl)]
                      go_simp
                      have hsq := copyMat_any Rb Cb (.slice A2 ns.length c2) ns V3 (HVB.out.below HB) hnb'
                      unfold matV at hsq
                      refine hsq.mono ?_
                      clear hsq
                      rintro e V4 ⟨rb, Y, rfl, oY, hY1, hbe⟩
                      obtain ⟨A4, c4, rfl, A4h1, A4h2⟩ := oY.2.1
                      have T5 := T5.below hbe
                      have T6 := T6.below hbe
                      have oX := oX.below hbe
                      have HB := HB.trans (hbe.mono HB.size)
                      have hss := hbe.size
                      refine hK.out _ _ HB (fun _ => ?_)
                      clear hK hbe
                      try simp only [Act.put, List.setIfInBounds_toArray, List.set_cons_zero, List.set_cons_succ]
                      have hX3 := oX.2.2
                      have hY3 := oY.2.2
                      obtain ⟨u0, u1, u2, u3, u4, u5⟩ := T5
                      have TQ : Three V4 b5 _ _ _ := ⟨u0, u1, u2, u3, u4, u5⟩
                      refine wpAnyH_ready (rs := [14]) (by kernel_rfl) (by simp) ?_
                      refine AllReadyH.cons rfl (fun K hK => ?_) AllReadyH.nil
                      rw [if_pos (by rfl)]
                      go_simp
                      clear u0 u1 u2 u3 u4 u5
                      have T5 := three_put TQ (.int .i64 Ra) (.int .i64 Ca) (.slice A3 ms.length c3)
                      have T6 := three_cell (three_cell (three_cell (T6) (d := ⟨b5, 0, none⟩) (u := (.int .i64 Ra)) (by dsimp only; omega)) (d := ⟨b5, 1, none⟩) (u := (.int .i64 Ca)) (by dsimp only; omega)) (d := ⟨b5, 2, none⟩) (u := (.slice A3 ms.length c3)) (by dsimp only; omega)
                      have oX := OwnB.set (OwnB.set (OwnB.set (oX) (d := ⟨b5, 0, none⟩) (by dsimp only; omega) (.int .i64 Ra)) (d := ⟨b5, 1, none⟩) (by dsimp only; omega) (.int .i64 Ca)) (d := ⟨b5, 2, none⟩) (by dsimp only; omega) (.slice A3 ms.length c3)
                      have oY := OwnB.set (OwnB.set (OwnB.set (oY) (d := ⟨b5, 0, none⟩) (by dsimp only; omega) (.int .i64 Ra)) (d := ⟨b5, 1, none⟩) (by dsimp only; omega) (.int .i64 Ca)) (d := ⟨b5, 2, none⟩) (by dsimp only; omega) (.slice A3 ms.length c3)
                      have HB := ((HB.setCell (p := ⟨b5, 0, none⟩) (by dsimp only; omega) (.int .i64 Ra)).setCell (p := ⟨b5, 1, none⟩) (by dsimp only; omega) (.int .i64 Ca)).setCell (p := ⟨b5, 2, none⟩) (by dsimp only; omega) (.slice A3 ms.length c3)
                      refine hK.out _ _ HB (fun _ => ?_)
                      clear hK TQ
                      generalize (((V4.setCell ⟨b5, 0, none⟩ (.int .i64 Ra)).setCell ⟨b5, 1, none⟩ (.int .i64 Ca)).setCell ⟨b5, 2, none⟩ (.slice A3 ms.length c3)) = V5 at *
                      try simp only [Act.put, List.setIfInBounds_toArray, List.set_cons_zero, List.set_cons_succ]
                      obtain ⟨u0, u1, u2, u3, u4, u5⟩ := T6
                      have TQ : Three V5 b6 _ _ _ := ⟨u0, u1, u2, u3, u4, u5⟩
                      refine wpAnyH_ready (rs := [15]) (by kernel_rfl) (by simp) ?_
                      refine AllReadyH.cons rfl (fun K hK => ?_) AllReadyH.nil
                      rw [if_pos (by rfl)]
                      go_simp
                      clear u0 u1 u2 u3 u4 u5
                      have T6 := three_put TQ (.int .i64 Rb) (.int .i64 Cb) (.slice A4 ns.length c4)
                      have T5 := three_cell (three_cell (three_cell (T5) (d := ⟨b6, 0, none⟩) (u := (.int .i64 Rb)) (by dsimp only; omega)) (d := ⟨b6, 1, none⟩) (u := (.int .i64 Cb)) (by dsimp only; omega)) (d := ⟨b6, 2, none⟩) (u := (.slice A4 ns.length c4)) (by dsimp only; omega)
                      have oX := OwnB.set (OwnB.set (OwnB.set (oX) (d := ⟨b6, 0, none⟩) (by dsimp only; omega) (.int .i64 Rb)) (d := ⟨b6, 1, none⟩) (by dsimp only; omega) (.int .i64 Cb)) (d := ⟨b6, 2, none⟩) (by dsimp only; omega) (.slice A4 ns.length c4)
                      have oY := OwnB.set (OwnB.set (OwnB.set (oY) (d := ⟨b6, 0, none⟩) (by dsimp only; omega) (.int .i64 Rb)) (d := ⟨b6, 1, none⟩) (by dsimp only; omega) (.int .i64 Cb)) (d := ⟨b6, 2, none⟩) (by dsimp only; omega) (.slice A4 ns.length c4)
                      have HB := ((HB.setCell (p := ⟨b6, 0, none⟩) (by dsimp only; omega) (.int .i64 Rb)).setCell (p := ⟨b6, 1, none⟩) (by dsimp only; omega) (.int .i64 Cb)).setCell (p := ⟨b6, 2, none⟩) (by dsimp only; omega) (.slice A4 ns.length c4)
                      refine hK.out _ _ HB (fun _ => ?_)
                      clear hK TQ
                      generalize (((V5.setCell ⟨b6, 0, none⟩ (.int .i64 Rb)).setCell ⟨b6, 1, none⟩ (.int .i64 Cb)).setCell ⟨b6, 2, none⟩ (.slice A4 ns.length c4)) = V6 at *
                      try simp only [Act.put, List.setIfInBounds_toArray, List.set_cons_zero, List.set_cons_succ]
                      refine wpAnyH_done (by kernel_rfl) ?_ _
                      go_wp2_with fail
                      go_meet
                      exact ⟨b5, b6, .slice A3 ms.length c3, .slice A4 ns.length c4, rfl, rfl, ⟨T5, T6, oX.1, oX.2.1, oY.1, oY.2.1, HB⟩⟩
                  · rw [if_pos (by rfl)]
                    go_simp
                    have T6 := Three.new V1 (.int .i64 0) (.int .i64 0) (.slice none 0 0) 30
                    have hbe := (Below.refl V1.heap.size V1).alloc (Nat.le_refl _) (.cells #[.int .i64 0, .int .i64 0, .slice none 0 0] 30)
                    have hsb6 : V1.heap.size < (V1.alloc (.cells #[.int .i64 0, .int .i64 0, .slice none 0 0] 30)).heap.size := by simp
                    have hwb6 := HB.size
                    have T5 := T5.below hbe
                    have HB := HB.trans (hbe.mono HB.size)
                    have hss := hbe.size
                    refine hK.out _ _ HB (fun _ => ?_)
                    clear hK hbe
                    generalize V1.alloc (.cells #[.int .i64 0, .int .i64 0, .slice none 0 0] 30) = V2 at *
                    generalize V1.heap.size = b6 at *
                    try simp only [Act.put, List.setIfInBounds_toArray, List.set_cons_zero, List.set_cons_succ]
                    refine wpAnyH_ready (rs := [5]) (by kernel_rfl) (by simp) ?_
                    refine AllReadyH.cons rfl (fun K hK => ?_) AllReadyH.nil
                    rw [if_pos (by rfl)]
                    go_simp
                    have hsq := copyMat_any Ra Ca (.slice A1 ms.length c1) ms V2 (HVA.out.below HB) hna'
                    unfold matV at hsq
                    refine hsq.mono ?_
                    clear hsq
                    rintro e V3 ⟨ra, X, rfl, oX, hX1, hbe⟩
                    obtain ⟨A3, c3, rfl, A3h1, A3h2⟩ := oX.2.1
                    have T5 := T5.below hbe
                    have T6 := T6.below hbe
                    have HB := HB.trans (hbe.mono HB.size)
                    have hss := hbe.size
                    refine hK.out _ _ HB (fun _ => ?_)
                    clear hK hbe
                    try simp only [Act.put, List.setIfInBounds_toArray, List.set_cons_zero, List.set_cons_succ]
                    refine wpAnyH_ready (rs := [11]) (by kernel_rfl) (by simp) ?_
                    refine AllReadyH.cons rfl (fun K hK => ?_) AllReadyH.nil
                    rw [if_pos (by rfl)]
                    go_simp
                    have hsq := copyMat_any Rb Cb (.slice A2 ns.length c2) ns V3 (HVB.out.below HB) hnb'
                    unfold matV at hsq
                    refine hsq.mono ?_
                    clear hsq
                    rintro e V4 ⟨rb, Y, rfl, oY, hY1, hbe⟩
                    obtain ⟨A4, c4, rfl, A4h1, A4h2⟩ := oY.2.1
                    have T5 := T5.below hbe
                    have T6 := T6.below hbe
                    have oX := oX.below hbe
                    have HB := HB.trans (hbe.mono HB.size)
                    have hss := hbe.size
                    refine hK.out _ _ HB (fun _ => ?_)
                    clear hK hbe
                    try simp only [Act.put, List.setIfInBounds_toArray, List.set_cons_zero, List.set_cons_succ]
                    have hX3 := oX.2.2
                    have hY3 := oY.2.2
                    obtain ⟨u0, u1, u2, u3, u4, u5⟩ := T5
                    have TQ : Three V4 b5 _ _ _ := ⟨u0, u1, u2, u3, u4, u5⟩
                    refine wpAnyH_ready (rs := [14]) (by kernel_rfl) (by simp) ?_
                    refine AllReadyH.cons rfl (fun K hK => ?_) AllReadyH.nil
                    rw [if_pos (by rfl)]
                    go_simp
                    clear u0 u1 u2 u3 u4 u5
                    have T5 := three_put TQ (.int .i64 Ra) (.int .i64 Ca) (.slice A3 ms.length c3)
                    have T6 := three_cell (three_cell (three_cell (T6) (d := ⟨b5, 0, none⟩) (u := (.int .i64 Ra)) (by dsimp only; omega)) (d := ⟨b5, 1, none⟩) (u := (.int .i64 Ca)) (by dsimp only; omega)) (d := ⟨b5, 2, none⟩) (u := (.slice A3 ms.length c3)) (by dsimp only; omega)
                    have oX := OwnB.set (OwnB.set (OwnB.set (oX) (d := ⟨b5, 0, none⟩) (by dsimp only; omega) (.int .i64 Ra)) (d := ⟨b5, 1, none⟩) (by dsimp only; omega) (.int .i64 Ca)) (d := ⟨b5, 2, none⟩) (by dsimp only; omega) (.slice A3 ms.length c3)
                    have oY := OwnB.set (OwnB.set (OwnB.set (oY) (d := ⟨b5, 0, none⟩) (by dsimp only; omega) (.int .i64 Ra)) (d := ⟨b5, 1, none⟩) (by dsimp only; omega) (.int .i64 Ca)) (d := ⟨b5, 2, none⟩) (by dsimp only; omega) (.slice A3 ms.length c3)
                    have HB := ((HB.setCell (p := ⟨b5, 0, none⟩) (by dsimp only; omega) (.int .i64 Ra)).setCell (p := ⟨b5, 1, none⟩) (by dsimp only; omega) (.int .i64 Ca)).setCell (p := ⟨b5, 2, none⟩) (by dsimp only; omega) (.slice A3 ms.length c3)
                    refine hK.out _ _ HB (fun _ => ?_)
                    clear hK TQ
                    generalize (((V4.setCell ⟨b5, 0, none⟩ (.int .i64 Ra)).setCell ⟨b5, 1, none⟩ (.int .i64 Ca)).setCell ⟨b5, 2, none⟩ (.slice A3 ms.length c3)) = V5 at *
                    try simp only [Act.put, List.setIfInBounds_toArray, List.set_cons_zero, List.set_cons_succ]
                    obtain ⟨u0, u1, u2, u3, u4, u5⟩ := T6
                    have TQ : Three V5 b6 _ _ _ := ⟨u0, u1, u2, u3, u4, u5⟩
                    refine wpAnyH_ready (rs := [15]) (by kernel_rfl) (by simp) ?_
                    refine AllReadyH.cons rfl (fun K hK => ?_) AllReadyH.nil
                    rw [if_pos (by rfl)]
                    go_simp
                    clear u0 u1 u2 u3 u4 u5
                    have T6 := three_put TQ (.int .i64 Rb) (.int .i64 Cb) (.slice A4 ns.length c4)
                    have T5 := three_cell (three_cell (three_cell (T5) (d := ⟨b6, 0, none⟩) (u := (.int .i64 Rb)) (by dsimp only; omega)) (d := ⟨b6, 1, none⟩) (u := (.int .i64 Cb)) (by dsimp only; omega)) (d := ⟨b6, 2, none⟩) (u := (.slice A4 ns.length c4)) (by dsimp only; omega)
                    have oX := OwnB.set (OwnB.set (OwnB.set (oX) (d := ⟨b6, 0, none⟩) (by dsimp only; omega) (.int .i64 Rb)) (d := ⟨b6, 1, none⟩) (by dsimp only; omega) (.int .i64 Cb)) (d := ⟨b6, 2, none⟩) (by dsimp only; omega) (.slice A4 ns.length c4)
                    have oY := OwnB.set (OwnB.set (OwnB.set (oY) (d := ⟨b6, 0, none⟩) (by dsimp only; omega) (.int .i64 Rb)) (d := ⟨b6, 1, none⟩) (by dsimp only; omega) (.int .i64 Cb)) (d := ⟨b6, 2, none⟩) (by dsimp only; omega) (.slice A4 ns.length c4)
                    have HB := ((HB.setCell (p := ⟨b6, 0, none⟩) (by dsimp only; omega) (.int .i64 Rb)).setCell (p := ⟨b6, 1, none⟩) (by dsimp only; omega) (.int .i64 Cb)).setCell (p := ⟨b6, 2, none⟩) (by dsimp only; omega) (.slice A4 ns.length c4)
                    refine hK.out _ _ HB (fun _ => ?_)
                    clear hK TQ
                    generalize (((V5.setCell ⟨b6, 0, none⟩ (.int .i64 Rb)).setCell ⟨b6, 1, none⟩ (.int .i64 Cb)).setCell ⟨b6, 2, none⟩ (.slice A4 ns.length c4)) = V6 at *
                    try simp only [Act.put, List.setIfInBounds_toArray, List.set_cons_zero, List.set_cons_succ]
                    refine wpAnyH_done (by kernel_rfl) ?_ _
                    go_wp2_with fail
                    go_meet
                    exact ⟨b5, b6, .slice A3 ms.length c3, .slice A4 ns.length c4, rfl, rfl, ⟨T5, T6, oX.1, oX.2.1, oY.1, oY.2.1, HB⟩⟩
                · rw [if_pos (by rfl)]
                  go_simp
                  have T6 := Three.new V0 (.int .i64 0) (.int .i64 0) (.slice none 0 0) 30
                  have hbe := (Below.refl V0.heap.size V0).alloc (Nat.le_refl _) (.cells #[.int .i64 0, .int .i64 0, .slice none 0 0] 30)
                  have hsb6 : V0.heap.size < (V0.alloc (.cells #[.int .i64 0, .int .i64 0, .slice none 0 0] 30)).heap.size := by simp
                  have hwb6 := HB.size
                  have HB := HB.trans (hbe.mono HB.size)
                  have hss := hbe.size
                  refine hK.out _ _ HB (fun _ => ?_)
                  clear hK hbe
                  generalize V0.alloc (.cells #[.int .i64 0, .int .i64 0, .slice none 0 0] 30) = V1 at *
                  generalize V0.heap.size = b6 at *
                  try simp only [Act.put, List.setIfInBounds_toArray, List.set_cons_zero, List.set_cons_succ]
                  refine wpAnyH_ready (rs := [5, 12]) (by kernel_rfl) (by simp) ?_
                  refine AllReadyH.cons rfl (fun K hK => ?_) (AllReadyH.cons rfl (fun K hK => ?_) AllReadyH.nil)
                  · rw [if_pos (by rfl)]
                    go_simp
                    have hsq := copyMat_any Ra Ca (.slice A1 ms.length c1) ms V1 (HVA.out.below HB) hna'
                    unfold matV at hsq
                    refine hsq.mono ?_
                    clear hsq
                    rintro e V2 ⟨ra, X, rfl, oX, hX1, hbe⟩
                    obtain ⟨A3, c3, rfl, A3h1, A3h2⟩ := oX.2.1
                    have T6 := T6.below hbe
                    have HB := HB.trans (hbe.mono HB.size)
                    have hss := hbe.size
                    refine hK.out _ _ HB (fun _ => ?_)
                    clear hK hbe
                    try simp only [Act.put, List.setIfInBounds_toArray, List.set_cons_zero, List.set_cons_succ]
                    refine wpAnyH_ready (rs := [11, 12]) (by kernel_rfl) (by simp) ?_
                    refine AllReadyH.cons rfl (fun K hK => ?_) (AllReadyH.cons rfl (fun K hK => ?_) AllReadyH.nil)
                    · rw [if_pos (by rfl)]
                      go_simp
                      have hsq := copyMat_any Rb Cb (.slice A2 ns.length c2) ns V2 (HVB.out.below HB) hnb'
                      unfold matV at hsq
                      refine hsq.mono ?_
                      clear hsq
                      rintro e V3 ⟨rb, Y, rfl, oY, hY1, hbe⟩
                      obtain ⟨A4, c4, rfl, A4h1, A4h2⟩ := oY.2.1
                      have T6 := T6.below hbe
                      have oX := oX.below hbe
                      have HB := HB.trans (hbe.mono HB.size)
                      have hss := hbe.size
                      refine hK.out _ _ HB (fun _ => ?_)
                      clear hK hbe
                      try simp only [Act.put, List.setIfInBounds_toArray, List.set_cons_zero, List.set_cons_succ]
                      refine wpAnyH_ready (rs := [12]) (by kernel_rfl) (by simp) ?_
                      refine AllReadyH.cons rfl (fun K hK => ?_) AllReadyH.nil
                      rw [if_pos (by rfl)]
                      go_simp
                      have T5 := Three.new V3 (.int .i64 0) (.int .i64 0) (.slice none 0 0) 30
                      have hbe := (Below.refl V3.heap.size V3).alloc (Nat.le_refl _) (.cells #[.int .i64 0, .int .i64 0, .slice none 0 0] 30)
                      have hsb5 : V3.heap.size < (V3.alloc (.cells #[.int .i64 0, .int .i64 0, .slice none 0 0] 30)).heap.size := by simp
                      have hwb5 := HB.size
                      have hXob5 := oX.2.2
                      have hYob5 := oY.2.2
                      have T6 := T6.below hbe
                      have oX := oX.below hbe
                      have oY := oY.below hbe
                      have HB := HB.trans (hbe.mono HB.size)
                      have hss := hbe.size
                      refine hK.out _ _ HB (fun _ => ?_)
                      clear hK hbe
                      generalize V3.alloc (.cells #[.int .i64 0, .int .i64 0, .slice none 0 0] 30) = V4 at *
                      generalize V3.heap.size = b5 at *
                      try simp only [Act.put, List.setIfInBounds_toArray, List.set_cons_zero, List.set_cons_succ]
                      have hX3 := oX.2.2
                      have hY3 := oY.2.2
                      obtain ⟨u0, u1, u2, u3, u4, u5⟩ := T5
                      have TQ : Three V4 b5 _ _ _ := ⟨u0, u1, u2, u3, u4, u5⟩
                      refine wpAnyH_ready (rs := [14]) (by kernel_rfl) (by simp) ?_
                      refine AllReadyH.cons rfl (fun K hK => ?_) AllReadyH.nil
                      rw [if_pos (by rfl)]
                      go_simp
                      clear u0 u1 u2 u3 u4 u5
                      have T5 := three_put TQ (.int .i64 Ra) (.int .i64 Ca) (.slice A3 ms.length c3)
                      have T6 := three_cell (three_cell (three_cell (T6) (d := ⟨b5, 0, none⟩) (u := (.int .i64 Ra)) (by dsimp only; omega)) (d := ⟨b5, 1, none⟩) (u := (.int .i64 Ca)) (by dsimp only; omega)) (d := ⟨b5, 2, none⟩) (u := (.slice A3 ms.length c3)) (by dsimp only; omega)
                      have oX := OwnB.set (OwnB.set (OwnB.set (oX) (d := ⟨b5, 0, none⟩) (by dsimp only; omega) (.int .i64 Ra)) (d := ⟨b5, 1, none⟩) (by dsimp only; omega) (.int .i64 Ca)) (d := ⟨b5, 2, none⟩) (by dsimp only; omega) (.slice A3 ms.length c3)
                      have oY := OwnB.set (OwnB.set (OwnB.set (oY) (d := ⟨b5, 0, none⟩) (by dsimp only; omega) (.int .i64 Ra)) (d := ⟨b5, 1, none⟩) (by dsimp only; omega) (.int .i64 Ca)) (d := ⟨b5, 2, none⟩) (by dsimp only; omega) (.slice A3 ms.length c3)
                      have HB := ((HB.setCell (p := ⟨b5, 0, none⟩) (by dsimp only; omega) (.int .i64 Ra)).setCell (p := ⟨b5, 1, none⟩) (by dsimp only; omega) (.int .i64 Ca)).setCell (p := ⟨b5, 2, none⟩) (by dsimp only; omega) (.slice A3 ms.length c3)
                      refine hK.out _ _ HB (fun _ => ?_)
                      clear hK TQ
                      generalize (((V4.setCell ⟨b5, 0, none⟩ (.int .i64 Ra)).setCell ⟨b5, 1, none⟩ (.int .i64 Ca)).setCell ⟨b5, 2, none⟩ (.slice A3 ms.length c3)) = V5 at *
                      try simp only [Act.put, List.setIfInBounds_toArray, List.set_cons_zero, List.set_cons_succ]
                      obtain ⟨u0, u1, u2, u3, u4, u5⟩ := T6
                      have TQ : Three V5 b6 _ _ _ := ⟨u0, u1, u2, u3, u4, u5⟩
                      refine wpAnyH_ready (rs := [15]) (by kernel_rfl) (by simp) ?_
                      refine AllReadyH.cons rfl (fun K hK => ?_) AllReadyH.nil
                      rw [if_pos (by rfl)]
                      go_simp
                      clear u0 u1 u2 u3 u4 u5
                      have T6 := three_put TQ (.int .i64 Rb) (.int .i64 Cb) (.slice A4 ns.length c4)
                      have T5 := three_cell (three_cell (three_cell (T5) (d := ⟨b6, 0, none⟩) (u := (.int .i64 Rb)) (by dsimp only; omega)) (d := ⟨b6, 1, none⟩) (u := (.int .i64 Cb)) (by dsimp only; omega)) (d := ⟨b6, 2, none⟩) (u := (.slice A4 ns.length c4)) (by dsimp only; omega)
                      have oX := OwnB.set (OwnB.set (OwnB.set (oX) (d := ⟨b6, 0, none⟩) (by dsimp only; omega) (.int .i64 Rb)) (d := ⟨b6, 1, none⟩) (by dsimp only; omega) (.int .i64 Cb)) (d := ⟨b6, 2, none⟩) (by dsimp only; omega) (.slice A4 ns.length c4)
                      have oY := OwnB.set (OwnB.set (OwnB.set (oY) (d := ⟨b6, 0, none⟩) (by dsimp only; omega) (.int .i64 Rb)) (d := ⟨b6, 1, none⟩) (by dsimp only; omega) (.int .i64 Cb)) (d := ⟨b6, 2, none⟩) (by dsimp only; omega) (.slice A4 ns.length c4)
                      have HB := ((HB.setCell (p := ⟨b6, 0, none⟩) (by dsimp only; omega) (.int .i64 Rb)).setCell (p := ⟨b6, 1, none⟩) (by dsimp only; omega) (.int .i64 Cb)).setCell (p := ⟨b6, 2, none⟩) (by dsimp only; omega) (.slice A4 ns.length c4)
                      refine hK.out _ _ HB (fun _ => ?_)
                      clear hK TQ
                      generalize (((V5.setCell ⟨b6, 0, none⟩ (.int .i64 Rb)).setCell ⟨b6, 1, none⟩ (.int .i64 Cb)).setCell ⟨b6, 2, none⟩ (.slice A4 ns.length c4)) = V6 at *
                      try simp only [Act.put, List.setIfInBounds_toArray, List.set_cons_zero, List.set_cons_succ]
                      refine wpAnyH_done (by kernel_rfl) ?_ _
                      go_wp2_with fail
                      go_meet
                      exact ⟨b5, b6, .slice A3 ms.length c3, .slice A4 ns.length c4, rfl, rfl, ⟨T5, T6, oX.1, oX.2.1, oY.1, oY.2.1, HB⟩⟩
                    · rw [if_pos (by rfl)]
                      go_simp
                      have T5 := Three.new V2 (.int .i64 0) (.int .i64 0) (.slice none 0 0) 30
                      have hbe := (Below.refl V2.heap.size V2).alloc (Nat.le_refl _) (.cells #[.int .i64 0, .int .i64 0, .slice none 0 0] 30)
                      have hsb5 : V2.heap.size < (V2.alloc (.cells #[.int .i64 0, .int .i64 0, .slice none 0 0] 30)).heap.size := by simp
                      have hwb5 := HB.size
                      have hXob5 := oX.2.2
                      have T6 := T6.below hbe
                      have oX := oX.below hbe
                      have HB := HB.trans (hbe.mono HB.size)
                      have hss := hbe.size
                      refine hK.out _ _ HB (fun _ => ?_)
                      clear hK hbe
                      generalize V2.alloc (.cells #[.int .i64 0, .int .i64 0, .slice none 0 0] 30) = V3 at *
                      generalize V2.heap.size = b5 at *
                      try simp only [Act.put, List.setIfInBounds_toArray, List.set_cons_zero, List.set_cons_succ]
                      refine wpAnyH_ready (rs := [11]) (by kernel_rfl) (by simp) ?_
                      refine AllReadyH.cons rfl (fun K hK => ?_) AllReadyH.nil
                      rw [if_pos (by rfl)]
                      go_simp
                      have hsq := copyMat_any Rb Cb (.slice A2 ns.length c2) ns V3 (HVB.out.below HB) hnb'
                      unfold matV at hsq
                      refine hsq.mono ?_
                      clear hsq
                      rintro e V4 ⟨rb, Y, rfl, oY, hY1, hbe⟩
                      obtain ⟨A4, c4, rfl, A4h1, A4h2⟩ := oY.2.1
                      have T5 := T5.below hbe
                      have T6 := T6.below hbe
                      have oX := oX.below hbe
                      have HB := HB.trans (hbe.mono HB.size)
                      have hss := hbe.size
                      refine hK.out _ _ HB (fun _ => ?_)
                      clear hK hbe
                      try simp only [Act.put, List.setIfInBounds_toArray, List.set_cons_zero, List.set_cons_succ]
                      have hX3 := oX.2.2
                      have hY3 := oY.2.2
                      obtain ⟨u0, u1, u2, u3, u4, u5⟩ := T5
                      have TQ : Three V4 b5 _ _ _ := ⟨u0, u1, u2, u3, u4, u5⟩
                      refine wpAnyH_ready (rs := [14]) (by kernel_rfl) (by simp) ?_
                      refine AllReadyH.cons rfl (fun K hK => ?_) AllReadyH.nil
                      rw [if_pos (by rfl)]
                      go_simp
                      clear u0 u1 u2 u3 u4 u5
                      have T5 := three_put TQ (.int .i64 Ra) (.int .i64 Ca) (.slice A3 ms.length c3)
                      have T6 := three_cell (three_cell (three_cell (T6) (d := ⟨b5, 0, none⟩) (u := (.int .i64 Ra)) (by dsimp only; omega)) (d := ⟨b5, 1, none⟩) (u := (.int .i64 Ca)) (by dsimp only; omega)) (d := ⟨b5, 2, none⟩) (u := (.slice A3 ms.length c3)) (by dsimp only; omega)
                      have oX := OwnB.set (OwnB.set (OwnB.set (oX) (d := ⟨b5, 0, none⟩) (by dsimp only; omega) (.int .i64 Ra)) (d := ⟨b5, 1, none⟩) (by dsimp only; omega) (.int .i64 Ca)) (d := ⟨b5, 2, none⟩) (by dsimp only; omega) (.slice A3 ms.length c3)
                      have oY := OwnB.set (OwnB.set (OwnB.set (oY) (d := ⟨b5, 0, none⟩) (by dsimp only; omega) (.int .i64 Ra)) (d := ⟨b5, 1, none⟩) (by dsimp only; omega) (.int .i64 Ca)) (d := ⟨b5, 2, none⟩) (by dsimp only; omega) (.slice A3 ms.length c3)
                      have HB := ((HB.setCell (p := ⟨b5, 0, none⟩) (by dsimp only; omega) (.int .i64 Ra)).setCell (p := ⟨b5, 1, none⟩) (by dsimp only; omega) (.int .i64 Ca)).setCell (p := ⟨b5, 2, none⟩) (by dsimp only; omega) (.slice A3 ms.length c3)
                      refine hK.out _ _ HB (fun _ => ?_)
                      clear hK TQ
                      generalize (((V4.setCell ⟨b5, 0, none⟩ (.int .i64 Ra)).setCell ⟨b5, 1, none⟩ (.int .i64 Ca)).setCell ⟨b5, 2, none⟩ (.slice A3 ms.length c3)) = V5 at *
                      try simp only [Act.put, List.setIfInBounds_toArray, List.set_cons_zero, List.set_cons_succ]
                      obtain ⟨u0, u1, u2, u3, u4, u5⟩ := T6
                      have TQ : Three V5 b6 _ _ _ := ⟨u0, u1, u2, u3, u4, u5⟩
                      refine wpAnyH_ready (rs := [15]) (by kernel_rfl) (by simp) ?_
                      refine AllReadyH.cons rfl (fun K hK => ?_) AllReadyH.nil
                      rw [if_pos (by rfl)]
                      go_simp
                      clear u0 u1 u2 u3 u4 u5
                      have T6 := three_put TQ (.int .i64 Rb) (.int .i64 Cb) (.slice A4 ns.length c4)
                      have T5 := three_cell (three_cell (three_cell (T5) (d := ⟨b6, 0, none⟩) (u := (.int .i64 Rb)) (by dsimp only; omega)) (d := ⟨b6, 1, none⟩) (u := (.int .i64 Cb)) (by dsimp only; omega)) (d := ⟨b6, 2, none⟩) (u := (.slice A4 ns.length c4)) (by dsimp only; omega)
                      have oX := OwnB.set (OwnB.set (OwnB.set (oX) (d := ⟨b6, 0, none⟩) (by dsimp only; omega) (.int .i64 Rb)) (d := ⟨b6, 1, none⟩) (by dsimp only; omega) (.int .i64 Cb)) (d := ⟨b6, 2, none⟩) (by dsimp only; omega) (.slice A4 ns.length c4)
                      have oY := OwnB.set (OwnB.set (OwnB.set (oY) (d := ⟨b6, 0, none⟩) (by dsimp only; omega) (.int .i64 Rb)) (d := ⟨b6, 1, none⟩) (by dsimp only; omega) (.int .i64 Cb)) (d := ⟨b6, 2, none⟩) (by dsimp only; omega) (.slice A4 ns.length c4)
                      have HB := ((HB.setCell (p := ⟨b6, 0, none⟩) (by dsimp only; omega) (.int .i64 Rb)).setCell (p := ⟨b6, 1, none⟩) (by dsimp only; omega) (.int .i64 Cb)).setCell (p := ⟨b6, 2, none⟩) (by dsimp only; omega) (.slice A4 ns.length c4)
                      refine hK.out _ _ HB (fun _ => ?_)
                      clear hK TQ
                      generalize (((V5.setCell ⟨b6, 0, none⟩ (.int .i64 Rb)).setCell ⟨b6, 1, none⟩ (.int .i64 Cb)).setCell ⟨b6, 2, none⟩ (.slice A4 ns.length c4)) = V6 at *
                      try simp only [Act.put, List.setIfInBounds_toArray, List.set_cons_zero, List.set_cons_succ]
                      refine wpAnyH_done (by kernel_rfl) ?_ _
                      go_wp2_with fail
                      go_meet
                      exact ⟨b5, b6, .slice A3 ms.length c3, .slice A4 ns.length c4, rfl, rfl, ⟨T5, T6, oX.1, oX.2.1, oY.1, oY.2.1, HB⟩⟩
                  · rw [if_pos (by rfl)]
                    go_simp
                    have T5 := Three.new V1 (.int .i64 0) (.int .i64 0) (.slice none 0 0) 30
                    have hbe := (Below.refl V1.heap.size V1).alloc (Nat.le_refl _) (.cells #[.int .i64 0, .int .i64 0, .slice none 0 0] 30)
                    have hsb5 : V1.heap.size < (V1.alloc (.cells #[.int .i64 0, .int .i64 0, .slice none 0 0] 30)).heap.size := by simp
                    have hwb5 := HB.size
                    have T6 := T6.below hbe
                    have HB := HB.trans (hbe.mono HB.size)
                    have hss := hbe.size
                    refine hK.out _ _ HB (fun _ => ?_)
                    clear hK hbe
                    generalize V1.alloc (.cells #[.int .i64 0, .int .i64 0, .slice none 0 0] 30) = V2 at *
                    generalize V1.heap.size = b5 at *
                    try simp only [Act.put, List.setIfInBounds_toArray, List.set_cons_zero, List.set_cons_succ]
                    refine wpAnyH_ready (rs := [5]) (by kernel_rfl) (by simp) ?_
                    refine AllReadyH.cons rfl (fun K hK => ?_) AllReadyH.nil
                    rw [if_pos (by rfl)]
                    go_simp
                    have hsq := copyMat_any Ra Ca (.slice A1 ms.length c1) ms V2 (HVA.out.below HB) hna'
                    unfold matV at hsq
                    refine hsq.mono ?_
                    clear hsq
                    rintro e V3 ⟨ra, X, rfl, oX, hX1, hbe⟩
                    obtain ⟨A3, c3, rfl, A3h1, A3h2⟩ := oX.2.1
                    have T5 := T5.below hbe
                    have T6 := T6.below hbe
                    have HB := HB.trans (hbe.mono HB.size)
                    have hss := hbe.size
                    refine hK.out _ _ HB (fun _ => ?_)
                    clear hK hbe
                    try simp only [Act.put, List.setIfInBounds_toArray, List.set_cons_zero, List.set_cons_succ]
                    refine wpAnyH_ready (rs := [11]) (by kernel_rfl) (by simp) ?_
                    refine AllReadyH.cons rfl (fun K hK => ?_) AllReadyH.nil
                    rw [if_pos (by rfl)]
                    go_simp
                    have hsq := copyMat_any Rb Cb (.slice A2 ns.length c2) ns V3 (HVB.out.below HB) hnb'
                    unfold matV at hsq
                    refine hsq.mono ?_
                    clear hsq
                    rintro e V4 ⟨rb, Y, rfl, oY, hY1, hbe⟩
                    obtain ⟨A4, c4, rfl, A4h1, A4h2⟩ := oY.2.1
                    have T5 := T5.below hbe
                    have T6 := T6.below hbe
                    have oX := oX.below hbe
                    have HB := HB.trans (hbe.mono HB.size)
                    have hss := hbe.size
                    refine hK.out _ _ HB (fun _ => ?_)
                    clear hK hbe
                    try simp only [Act.put, List.setIfInBounds_toArray, List.set_cons_zero, List.set_cons_succ]
                    have hX3 := oX.2.2
                    have hY3 := oY.2.2
                    obtain ⟨u0, u1, u2, u3, u4, u5⟩ := T5
                    have TQ : Three V4 b5 _ _ _ := ⟨u0, u1, u2, u3, u4, u5⟩
                    refine wpAnyH_ready (rs := [14]) (by kernel_rfl) (by simp) ?_
                    refine AllReadyH.cons rfl (fun K hK => ?_) AllReadyH.nil
                    rw [if_pos (by rfl)]
                    go_simp
                    clear u0 u1 u2 u3 u4 u5
                    have T5 := three_put TQ (.int .i64 Ra) (.int .i64 Ca) (.slice A3 ms.length c3)
                    have T6 := three_cell (three_cell (three_cell (T6) (d := ⟨b5, 0, none⟩) (u := (.int .i64 Ra)) (by dsimp only; omega)) (d := ⟨b5, 1, none⟩) (u := (.int .i64 Ca)) (by dsimp only; omega)) (d := ⟨b5, 2, none⟩) (u := (.slice A3 ms.length c3)) (by dsimp only; omega)
                    have oX := OwnB.set (OwnB.set (OwnB.set (oX) (d := ⟨b5, 0, none⟩) (by dsimp only; omega) (.int .i64 Ra)) (d := ⟨b5, 1, none⟩) (by dsimp only; omega) (.int .i64 Ca)) (d := ⟨b5, 2, none⟩) (by dsimp only; omega) (.slice A3 ms.length c3)
                    have oY := OwnB.set (OwnB.set (OwnB.set (oY) (d := ⟨b5, 0, none⟩) (by dsimp only; omega) (.int .i64 Ra)) (d := ⟨b5, 1, none⟩) (by dsimp only; omega) (.int .i64 Ca)) (d := ⟨b5, 2, none⟩) (by dsimp only; omega) (.slice A3 ms.length c3)
                    have HB := ((HB.setCell (p := ⟨b5, 0, none⟩) (by dsimp only; omega) (.int .i64 Ra)).setCell (p := ⟨b5, 1, none⟩) (by dsimp only; omega) (.int .i64 Ca)).setCell (p := ⟨b5, 2, none⟩) (by dsimp only; omega) (.slice A3 ms.length c3)
                    refine hK.out _ _ HB (fun _ => ?_)
                    clear hK TQ
                    generalize (((V4.setCell ⟨b5, 0, none⟩ (.int .i64 Ra)).setCell ⟨b5, 1, none⟩ (.int .i64 Ca)).setCell ⟨b5, 2, none⟩ (.slice A3 ms.length c3)) = V5 at *
                    try simp only [Act.put, List.setIfInBounds_toArray, List.set_cons_zero, List.set_cons_succ]
                    obtain ⟨u0, u1, u2, u3, u4, u5⟩ := T6
                    have TQ : Three V5 b6 _ _ _ := ⟨u0, u1, u2, u3, u4, u5⟩
                    refine wpAnyH_ready (rs := [15]) (by kernel_rfl) (by simp) ?_
                    refine AllReadyH.cons rfl (fun K hK => ?_) AllReadyH.nil
                    rw [if_pos (by rfl)]
                    go_simp
                    clear u0 u1 u2 u3 u4 u5
                    have T6 := three_put TQ (.int .i64 Rb) (.int .i64 Cb) (.slice A4 ns.length c4)
                    have T5 := three_cell (three_cell (three_cell (T5) (d := ⟨b6, 0, none⟩) (u := (.int .i64 Rb)) (by dsimp only; omega)) (d := ⟨b6, 1, none⟩) (u := (.int .i64 Cb)) (by dsimp only; omega)) (d := ⟨b6, 2, none⟩) (u := (.slice A4 ns.length c4)) (by dsimp only; omega)
                    have oX := OwnB.set (OwnB.set (OwnB.set (oX) (d := ⟨b6, 0, none⟩) (by dsimp only; omega) (.int .i64 Rb)) (d := ⟨b6, 1, none⟩) (by dsimp only; omega) (.int .i64 Cb)) (d := ⟨b6, 2, none⟩) (by dsimp only; omega) (.slice A4 ns.length c4)
                    have oY := OwnB.set (OwnB.set (OwnB.set (oY) (d := ⟨b6, 0, none⟩) (by dsimp only; omega) (.int .i64 Rb)) (d := ⟨b6, 1, none⟩) (by dsimp only; omega) (.int .i64 Cb)) (d := ⟨b6, 2, none⟩) (by dsimp only; omega) (.slice A4 ns.length c4)
                    have HB := ((HB.setCell (p := ⟨b6, 0, none⟩) (by dsimp only; omega) (.int .i64 Rb)).setCell (p := ⟨b6, 1, none⟩) (by dsimp only; omega) (.int .i64 Cb)).setCell (p := ⟨b6, 2, none⟩) (by dsimp only; omega) (.slice A4 ns.length c4)
                    refine hK.out _ _ HB (fun _ => ?_)
                    clear hK TQ
                    generalize (((V5.setCell ⟨b6, 0, none⟩ (.int .i64 Rb)).setCell ⟨b6, 1, none⟩ (.int .i64 Cb)).setCell ⟨b6, 2, none⟩ (.slice A4 ns.length c4)) = V6 at *
                    try simp only [Act.put, List.setIfInBounds_toArray, List.set_cons_zero, List.set_cons_succ]
                    refine wpAnyH_done (by kernel_rfl) ?_ _
                    go_wp2_with fail
                    go_meet
                    exact ⟨b5, b6, .slice A3 ms.length c3, .slice A4 ns.length c4, rfl, rfl, ⟨T5, T6, oX.1, oX.2.1, oY.1, oY.2.1, HB⟩⟩
              case rest =>
                obtain ⟨b5, b6, ra, rb, rfl, rfl, H2⟩ := hcut
                have HT := Lib.hid H2
                obtain ⟨A3, c3, rfl, r3a, r3b⟩ := H2.rx
                obtain ⟨A4, c4, rfl, r4a, r4b⟩ := H2.ry
                obtain ⟨x0, x1, x2, _, _, _⟩ := H2.t5
                obtain ⟨y0, y1, y2, _, _, _⟩ := H2.t6
                clear H2 hb hbw
                obtain ⟨kk, hkk⟩ : ∃ kk, kk = mulK Ra Ca Rb Cb ms.length ns.length := ⟨_, rfl⟩
                have HKK := Lib.hid hkk
                clear hkk
                go_wp2_with fail
                have HC := mul_all Ra Ca Rb Cb (.slice A3 ms.length c3) (.slice A4 ns.length c4) ms ns wc HT.out.x HT.out.y HT.out.rx HT.out.ry hna' hnb' kk HKK.out.symm
                unfold matV at HC
                refine HC.mono ?_
                rintro e V1 ⟨vl, rfl, hvl, hb1⟩
                obtain ⟨Al, kl, rfl⟩ := hvl.shape
                obtain ⟨mR, hmR⟩ : ∃ x, x = mulR kk Ra := ⟨_, rfl⟩
                obtain ⟨mC, hmC⟩ : ∃ x, x = mulR kk Cb := ⟨_, rfl⟩
                obtain ⟨mE, hmE⟩ : ∃ x, x = mulE kk := ⟨_, rfl⟩
                obtain ⟨mX, hmX⟩ : ∃ x, x = mulX kk ms ns Ra Ca Cb := ⟨_, rfl⟩
                rw [← hmR, ← hmC, ← hmE]
                rw [← hmX] at hvl
                rw [← hmX]
                have HMR := Lib.hid hmR
                have HMC := Lib.hid hmC
                have HME := Lib.hid hmE
                have HMX := Lib.hid hmX
                clear hmR hmC hmE hmX HC
                obtain ⟨o1, ho1⟩ : ∃ o, o = (Obj.cells #[.int .i64 mR, .int .i64 mC, (.slice Al mX.length kl)] 30) := ⟨_, rfl⟩
                have t1 := Three.new V1 (.int .i64 mR) (.int .i64 mC) (.slice Al mX.length kl) 30
                rw [← ho1] at t1
                have hal := (Below.refl V1.heap.size V1).alloc (Nat.le_refl _) o1
                have hb7 := cum2 hb1 hal
                have HB7 := Lib.hid (cum2 HT.out.be hb7)
                have T5 := Lib.hid (HT.out.t5.below hb7)
                have T6 := Lib.hid (HT.out.t6.below hb7)
                have T7 := Lib.hid t1
                have HX5 := Lib.hid (HT.out.x.below hb7)
                have HX6 := Lib.hid (HT.out.y.below hb7)
                have HX7 := Lib.hid (hvl.below hal)
                obtain ⟨z0, z1, z2, _, _, _⟩ := t1
                rw [ho1] at z0 z1 z2
                clear hal hb1 hb7 hvl x0 x1 x2 y0 y1 y2 HT
                go_upto_region 12 with fail
                rw [← ho1]
                clear z0 z1 z2 ho1
                generalize V1.alloc o1 = W7 at *
                generalize V1.heap.size = b7 at *
                go_upto_region 13 with fail
                have HS : Hid (∀ W', Below W7.heap.size W7 W' → W'.cell? ⟨w.heap.size, 0, none⟩ = some (.slice (some ⟨b, o, none⟩) l.length c) ∧ W'.cell? ⟨b, o + i * 3, none⟩ = some (.int .i64 Ra) ∧ W'.cell? ⟨b, o + i * 3 + 1, none⟩ = some (.int .i64 Ca) ∧ W'.cell? ⟨b, o + i * 3 + 2, none⟩ = some (.slice A1 ms.length c1) ∧ W'.cell? ⟨b, o + k * 3, none⟩ = some (.int .i64 Rb) ∧ W'.cell? ⟨b, o + k * 3 + 1, none⟩ = some (.int .i64 Cb) ∧ W'.cell? ⟨b, o + k * 3 + 2, none⟩ = some (.slice A2 ns.length c2)) := fun W' h => HF.out W' (cum2 HB7.out h)
                have hb0 := (Below.refl W7.heap.size W7).alloc (Nat.le_refl _) (.cells #[.int .i64 0, .int .i64 0, .slice none 0 0] 30)
                have HB0 := Lib.hid hb0
                have T10 := Lib.hid (Three.new W7 (.int .i64 0) (.int .i64 0) (.slice none 0 0) 30)
                have hs10 : W7.heap.size < (W7.alloc (.cells #[.int .i64 0, .int .i64 0, .slice none 0 0] 30)).heap.size := by simp
                have hblt : b < W7.heap.size := cell_block (HS.out W7 (Below.refl _ _)).2.1
                have hwlt : w.heap.size < W7.heap.size := cell_block (HS.out W7 (Below.refl _ _)).1
                obtain ⟨a0, p0, p1, p2, q0, q1, q2⟩ := HS.out _ hb0
                clear hb0
                generalize W7.alloc (.cells #[.int .i64 0, .int .i64 0, .slice none 0 0] 30) = U at *
                have HSU : Hid (∀ W', Below U.heap.size U W' → W'.cell? ⟨w.heap.size, 0, none⟩ = some (.slice (some ⟨b, o, none⟩) l.length c) ∧ W'.cell? ⟨b, o + i * 3, none⟩ = some (.int .i64 Ra) ∧ W'.cell? ⟨b, o + i * 3 + 1, none⟩ = some (.int .i64 Ca) ∧ W'.cell? ⟨b, o + i * 3 + 2, none⟩ = some (.slice A1 ms.length c1) ∧ W'.cell? ⟨b, o + k * 3, none⟩ = some (.int .i64 Rb) ∧ W'.cell? ⟨b, o + k * 3 + 1, none⟩ = some (.int .i64 Cb) ∧ W'.cell? ⟨b, o + k * 3 + 2, none⟩ = some (.slice A2 ns.length c2)) := fun W' h => HS.out W' (cum2 HB0.out h)
                go_cut [87] from 59 to 87 (fun c87 wx => c87 = .bool kk ∧ Hid (Below U.heap.size U wx))
                case first =>
                  as_aux_lemma =>
                    cases h1 : mayM Ra Ca ms.length
                    · have hkf : kk = false := by rw [HKK.out, mulK, h1]; rfl
                      have H1 := Lib.hid h1
                      clear h1
                      have HKF := Lib.hid hkf
                      clear hkf
                      refine wp_region_held (S := fun W' => Below U.heap.size U W') (by kernel_rfl) ?_
                      change wpAnyH _ _ _ _ _ 29 _ _ _
                      have hcum := (Below.refl U.heap.size U).drew
                      change wpAnyH _ _ _ _ _ _ _ _ U.drew
                      generalize U.drew = V0 at *
                      refine wpAnyH_take (i := 0) (oi := { dst := some 59, op := Op.fieldAddr 26 (Operand.tmp 1) 0, type := 0, pos := "law.go:101", after := #[], guard := none }) (v := ?_) rfl (by kernel_rfl) (by kernel_rfl) (by kernel_rfl) (fun _ _ _ h => h) (Or.inl ⟨by rfl, fun W' hW' => ?_⟩) hcum ?_
                      rotate_left 1
                      · go_simp
                        try rfl
                      try simp only [Act.put, List.setIfInBounds_toArray, List.set_cons_zero, List.set_cons_succ]
                      refine wpAnyH_take (i := 1) (oi := { dst := some 60, op := Op.load 22 (Operand.tmp 59), type := 22, pos := "law.go:101", after := #[{ on := 0, ground := Ground.data }], guard := none }) (v := ?_) rfl (by kernel_rfl) (by kernel_rfl) (by kernel_rfl) (fun _ _ _ h => h) (Or.inl ⟨by rfl, fun W' hW' => ?_⟩) hcum ?_
                      rotate_left 1
                      · (obtain ⟨a0, p0, p1, p2, q0, q1, q2⟩ := HSU.out W' hW'; go_simp)
                        try rfl
                      try simp only [Act.put, List.setIfInBounds_toArray, List.set_cons_zero, List.set_cons_succ]
                      refine wpAnyH_take (i := 2) (oi := { dst := some 61, op := Op.move (Operand.tmp 3), type := 3, pos := "law.go:101", after := #[], guard := none }) (v := ?_) rfl (by kernel_rfl) (by kernel_rfl) (by kernel_rfl) (fun _ _ _ h => h) (Or.inl ⟨by rfl, fun W' hW' => ?_⟩) hcum ?_
                      rotate_left 1
                      · go_simp
                        try rfl
                      try simp only [Act.put, List.setIfInBounds_toArray, List.set_cons_zero, List.set_cons_succ]
                      refine wpAnyH_take (i := 3) (oi := { dst := some 62, op := Op.indexAddr 22 (Operand.tmp 60) (Operand.tmp 61), type := 0, pos := "law.go:101", after := #[{ on := 1, ground := Ground.data }, { on := 2, ground := Ground.data }], guard := none }) (v := ?_) rfl (by kernel_rfl) (by kernel_rfl) (by kernel_rfl) (fun _ _ _ h => h) (Or.inl ⟨by rfl, fun W' hW' => ?_⟩) hcum ?_
                      rotate_left 1
                      · go_simp
                        try rfl
                      try simp only [Act.put, List.setIfInBounds_toArray, List.set_cons_zero, List.set_cons_succ]
                      refine wpAnyH_take (i := 4) (oi := { dst := some 63, op := Op.load 30 (Operand.tmp 62), type := 30, pos := "law.go:101", after := #[{ on := 3, ground := Ground.data }], guard := none }) (v := ?_) rfl (by kernel_rfl) (by kernel_rfl) (by kernel_rfl) (fun _ _ _ h => h) (Or.inl ⟨by rfl, fun W' hW' => ?_⟩) hcum ?_
                      rotate_left 1
                      · (obtain ⟨a0, p0, p1, p2, q0, q1, q2⟩ := HSU.out W' hW'; go_simp)
                        try rfl
                      try simp only [Act.put, List.setIfInBounds_toArray, List.set_cons_zero, List.set_cons_succ]
                      refine wpAnyH_ready (rs := [5]) (by kernel_rfl) (by simp) ?_
                      refine AllReadyH.cons (o := { dst := some 64, op := Op.call { callee := Callee.value (Operand.func 23), args := #[Operand.tmp 63], argTypes := #[30] }, type := 4, pos := "law.go:101", after := #[{ on := 4, ground := Ground.data }], guard := none }) rfl (fun K hK => ?_) AllReadyH.nil
                      rw [if_pos (by rfl)]
                      go_simp
                      refine (refMatrix_is _ _ _ _ _ _ H1.out _ (by omega)).mono ?_
                      rintro e V1 ⟨rfl, hbe⟩
                      have hcum := hcum.trans (hbe.mono hcum.size)
                      refine hK.out _ _ hcum (fun _ => ?_)
                      clear hK hbe
                      try simp only [Act.put, List.setIfInBounds_toArray, List.set_cons_zero, List.set_cons_succ]
                      refine wpAnyH_take (i := 6) (oi := { dst := some 65, op := Op.move (Operand.tmp 64), type := 4, pos := "law.go:101", after := #[{ on := 5, ground := Ground.data }, { on := 5, ground := Ground.chain }], guard := none }) (v := ?_) rfl (by kernel_rfl) (by kernel_rfl) (by kernel_rfl) (fun _ _ _ h => h) (Or.inl ⟨by rfl, fun W' hW' => ?_⟩) hcum ?_
                      rotate_left 1
                      · go_simp
                        try rfl
                      try simp only [Act.put, List.setIfInBounds_toArray, List.set_cons_zero, List.set_cons_succ]
                      refine wpAnyH_take (i := 7) (oi := { dst := some 66, op := Op.fieldAddr 26 (Operand.tmp 1) 0, type := 0, pos := "law.go:101", after := #[{ on := 6, ground := Ground.guard }], guard := some (6, true) }) (v := undef) rfl (by kernel_rfl) (by kernel_rfl) (by kernel_rfl) (fun _ _ _ h => h) (Or.inr ⟨by rfl, rfl⟩) hcum ?_
                      try simp only [Act.put, List.setIfInBounds_toArray, List.set_cons_zero, List.set_cons_succ]
                      refine wpAnyH_take (i := 8) (oi := { dst := some 67, op := Op.load 22 (Operand.tmp 66), type := 22, pos := "law.go:101", after := #[{ on := 7, ground := Ground.data }, { on := 6, ground := Ground.guard }], guard := some (6, true) }) (v := undef) rfl (by kernel_rfl) (by kernel_rfl) (by kernel_rfl) (fun _ _ _ h => h) (Or.inr ⟨by rfl, rfl⟩) hcum ?_
                      try simp only [Act.put, List.setIfInBounds_toArray, List.set_cons_zero, List.set_cons_succ]
                      refine wpAnyH_take (i := 9) (oi := { dst := some 68, op := Op.move (Operand.tmp 4), type := 3, pos := "law.go:101", after := #[{ on := 6, ground := Ground.guard }], guard := some (6, true) }) (v := undef) rfl (by kernel_rfl) (by kernel_rfl) (by kernel_rfl) (fun _ _ _ h => h) (Or.inr ⟨by rfl, rfl⟩) hcum ?_
                      try simp only [Act.put, List.setIfInBounds_toArray, List.set_cons_zero, List.set_cons_succ]
                      refine wpAnyH_take (i := 10) (oi := { dst := some 69, op := Op.indexAddr 22 (Operand.tmp 67) (Operand.tmp 68), type := 0, pos := "law.go:101", after := #[{ on := 8, ground := Ground.data }, { on := 9, ground := Ground.data }, { on := 6, ground := Ground.guard }], guard := some (6, true) }) (v := undef) rfl (by kernel_rfl) (by kernel_rfl) (by kernel_rfl) (fun _ _ _ h => h) (Or.inr ⟨by rfl, rfl⟩) hcum ?_
                      try simp only [Act.put, List.setIfInBounds_toArray, List.set_cons_zero, List.set_cons_succ]
                      refine wpAnyH_take (i := 11) (oi := { dst := some 70, op := Op.load 30 (Operand.tmp 69), type := 30, pos := "law.go:101", after := #[{ on := 10, ground := Ground.data }, { on := 6, ground := Ground.guard }], guard := some (6, true) }) (v := undef) rfl (by kernel_rfl) (by kernel_rfl) (by kernel_rfl) (fun _ _ _ h => h) (Or.inr ⟨by rfl, rfl⟩) hcum ?_
                      try simp only [Act.put, List.setIfInBounds_toArray, List.set_cons_zero, List.set_cons_succ]
                      refine wpAnyH_take (i := 12) (oi := { dst := some 71, op := Op.call { callee := Callee.value (Operand.func 23), args := #[Operand.tmp 70], argTypes := #[30] }, type := 4, pos := "law.go:101", after := #[{ on := 11, ground := Ground.data }, { on := 6, ground := Ground.chain }, { on := 6, ground := Ground.guard }], guard := some (6, true) }) (v := undef) rfl (by kernel_rfl) (by kernel_rfl) (by kernel_rfl) (fun _ _ _ h => h) (Or.inr ⟨by rfl, rfl⟩) hcum ?_
                      try simp only [Act.put, List.setIfInBounds_toArray, List.set_cons_zero, List.set_cons_succ]
                      refine wpAnyH_take (i := 13) (oi := { dst := some 72, op := Op.pick (Operand.tmp 65) (Operand.tmp 71) (Operand.const (Value.bool false)), type := 4, pos := "law.go:101", after := #[{ on := 6, ground := Ground.data }, { on := 12, ground := Ground.data }], guard := none }) (v := ?_) rfl (by kernel_rfl) (by kernel_rfl) (by kernel_rfl) (fun _ _ _ h => h) (Or.inl ⟨by rfl, fun W' hW' => ?_⟩) hcum ?_
                      rotate_left 1
                      · go_simp
                        try rfl
                      try simp only [Act.put, List.setIfInBounds_toArray, List.set_cons_zero, List.set_cons_succ]
                      refine wpAnyH_take (i := 14) (oi := { dst := some 73, op := Op.move (Operand.tmp 72), type := 4, pos := "law.go:101", after := #[{ on := 13, ground := Ground.data }, { on := 12, ground := Ground.chain }], guard := none }) (v := ?_) rfl (by kernel_rfl) (by kernel_rfl) (by kernel_rfl) (fun _ _ _ h => h) (Or.inl ⟨by rfl, fun W' hW' => ?_⟩) hcum ?_
                      rotate_left 1
                      · go_simp
                        try rfl
                      try simp only [Act.put, List.setIfInBounds_toArray, List.set_cons_zero, List.set_cons_succ]
                      refine wpAnyH_take (i := 15) (oi := { dst := some 74, op := Op.fieldAddr 26 (Operand.tmp 1) 0, type := 0, pos := "law.go:101", after := #[{ on := 14, ground := Ground.guard }], guard := some (14, true) }) (v := undef) rfl (by kernel_rfl) (by kernel_rfl) (by kernel_rfl) (fun _ _ _ h => h) (Or.inr ⟨by rfl, rfl⟩) hcum ?_
                      try simp only [Act.put, List.setIfInBounds_toArray, List.set_cons_zero, List.set_cons_succ]
                      refine wpAnyH_take (i := 16) (oi := { dst := some 75, op := Op.load 22 (Operand.tmp 74), type := 22, pos := "law.go:101", after := #[{ on := 15, ground := Ground.data }, { on := 14, ground := Ground.guard }], guard := some (14, true) }) (v := undef) rfl (by kernel_rfl) (by kernel_rfl) (by kernel_rfl) (fun _ _ _ h => h) (Or.inr ⟨by rfl, rfl⟩) hcum ?_
                      try simp only [Act.put, List.setIfInBounds_toArray, List.set_cons_zero, List.set_cons_succ]
                      refine wpAnyH_take (i := 17) (oi := { dst := some 76, op := Op.move (Operand.tmp 3), type := 3, pos := "law.go:101", after := #[{ on := 14, ground := Ground.guard }], guard := some (14, true) }) (v := undef) rfl (by kernel_rfl) (by kernel_rfl) (by kernel_rfl) (fun _ _ _ h => h) (Or.inr ⟨by rfl, rfl⟩) hcum ?_
                      try simp only [Act.put, List.setIfInBounds_toArray, List.set_cons_zero, List.set_cons_succ]
                      refine wpAnyH_take (i := 18) (oi := { dst := some 77, op := Op.indexAddr 22 (Operand.tmp 75) (Operand.tmp 76), type := 0, pos := "law.go:101", after := #[{ on := 16, ground := Ground.data }, { on := 17, ground := Ground.data }, { on := 14, ground := Ground.guard }], guard := some (14, true) }) (v := undef) rfl (by kernel_rfl) (by kernel_rfl) (by kernel_rfl) (fun _ _ _ h => h) (Or.inr ⟨by rfl, rfl⟩) hcum ?_
                      try simp only [Act.put, List.setIfInBounds_toArray, List.set_cons_zero, List.set_cons_succ]
                      refine wpAnyH_take (i := 19) (oi := { dst := some 78, op := Op.fieldAddr 30 (Operand.tmp 77) 1, type := 0, pos := "law.go:101", after := #[{ on := 18, ground := Ground.data }, { on := 14, ground := Ground.guard }], guard := some (14, true) }) (v := undef) rfl (by kernel_rfl) (by kernel_rfl) (by kernel_rfl) (fun _ _ _ h => h) (Or.inr ⟨by rfl, rfl⟩) hcum ?_
                      try simp only [Act.put, List.setIfInBounds_toArray, List.set_cons_zero, List.set_cons_succ]
                      refine wpAnyH_take (i := 20) (oi := { dst := some 79, op := Op.load 3 (Operand.tmp 78), type := 3, pos := "law.go:101", after := #[{ on := 19, ground := Ground.data }, { on := 14, ground := Ground.guard }], guard := some (14, true) }) (v := undef) rfl (by kernel_rfl) (by kernel_rfl) (by kernel_rfl) (fun _ _ _ h => h) (Or.inr ⟨by rfl, rfl⟩) hcum ?_
                      try simp only [Act.put, List.setIfInBounds_toArray, List.set_cons_zero, List.set_cons_succ]
                      refine wpAnyH_take (i := 21) (oi := { dst := some 80, op := Op.fieldAddr 26 (Operand.tmp 1) 0, type := 0, pos := "law.go:101", after := #[{ on := 14, ground := Ground.guard }], guard := some (14, true) }) (v := undef) rfl (by kernel_rfl) (by kernel_rfl) (by kernel_rfl) (fun _ _ _ h => h) (Or.inr ⟨by rfl, rfl⟩) hcum ?_
                      try simp only [Act.put, List.setIfInBounds_toArray, List.set_cons_zero, List.set_cons_succ]
                      refine wpAnyH_take (i := 22) (oi := { dst := some 81, op := Op.load 22 (Operand.tmp 80), type := 22, pos := "law.go:101", after := #[{ on := 21, ground := Ground.data }, { on := 14, ground := Ground.guard }], guard := some (14, true) }) (v := undef) rfl (by kernel_rfl) (by kernel_rfl) (by kernel_rfl) (fun _ _ _ h => h) (Or.inr ⟨by rfl, rfl⟩) hcum ?_
                      try simp only [Act.put, List.setIfInBounds_toArray, List.set_cons_zero, List.set_cons_succ]
                      refine wpAnyH_take (i := 23) (oi := { dst := some 82, op := Op.move (Operand.tmp 4), type := 3, pos := "law.go:101", after := #[{ on := 14, ground := Ground.guard }], guard := some (14, true) }) (v := undef) rfl (by kernel_rfl) (by kernel_rfl) (by kernel_rfl) (fun _ _ _ h => h) (Or.inr ⟨by rfl, rfl⟩) hcum ?_
                      try simp only [Act.put, List.setIfInBounds_toArray, List.set_cons_zero, List.set_cons_succ]
                      refine wpAnyH_take (i := 24) (oi := { dst := some 83, op := Op.indexAddr 22 (Operand.tmp 81) (Operand.tmp 82), type := 0, pos := "law.go:101", after := #[{ on := 22, ground := Ground.data }, { on := 23, ground := Ground.data }, { on := 14, ground := Ground.guard }], guard := some (14, true) }) (v := undef) rfl (by kernel_rfl) (by kernel_rfl) (by kernel_rfl) (fun _ _ _ h => h) (Or.inr ⟨by rfl, rfl⟩) hcum ?_
                      try simp only [Act.put, List.setIfInBounds_toArray, List.set_cons_zero, List.set_cons_succ]
                      refine wpAnyH_take (i := 25) (oi := { dst := some 84, op := Op.fieldAddr 30 (Operand.tmp 83) 0, type := 0, pos := "law.go:101", after := #[{ on := 24, ground := Ground.data }, { on := 14, ground := Ground.guard }], guard := some (14, true) }) (v := undef) rfl (by kernel_rfl) (by kernel_rfl) (by kernel_rfl) (fun _ _ _ h => h) (Or.inr ⟨by rfl, rfl⟩) hcum ?_
                      try simp only [Act.put, List.setIfInBounds_toArray, List.set_cons_zero, List.set_cons_succ]
                      refine wpAnyH_take (i := 26) (oi := { dst := some 85, op := Op.load 3 (Operand.tmp 84), type := 3, pos := "law.go:101", after := #[{ on := 25, ground := Ground.data }, { on := 14, ground := Ground.guard }], guard := some (14, true) }) (v := undef) rfl (by kernel_rfl) (by kernel_rfl) (by kernel_rfl) (fun _ _ _ h => h) (Or.inr ⟨by rfl, rfl⟩) hcum ?_
                      try simp only [Act.put, List.setIfInBounds_toArray, List.set_cons_zero, List.set_cons_succ]
                      refine wpAnyH_take (i := 27) (oi := { dst := some 86, op := Op.binOp BinOp.eql 3 (Operand.tmp 79) (Operand.tmp 85) 3, type := 4, pos := "law.go:101", after := #[{ on := 20, ground := Ground.data }, { on := 26, ground := Ground.data }, { on := 14, ground := Ground.guard }], guard := some (14, true) }) (v := undef) rfl (by kernel_rfl) (by kernel_rfl) (by kernel_rfl) (fun _ _ _ h => h) (Or.inr ⟨by rfl, rfl⟩) hcum ?_
                      try simp only [Act.put, List.setIfInBounds_toArray, List.set_cons_zero, List.set_cons_succ]
                      refine wpAnyH_take (i := 28) (oi := { dst := some 87, op := Op.pick (Operand.tmp 73) (Operand.tmp 86) (Operand.const (Value.bool false)), type := 4, pos := "law.go:101", after := #[{ on := 14, ground := Ground.data }, { on := 27, ground := Ground.data }], guard := none }) (v := ?_) rfl (by kernel_rfl) (by kernel_rfl) (by kernel_rfl) (fun _ _ _ h => h) (Or.inl ⟨by rfl, fun W' hW' => ?_⟩) hcum ?_
                      rotate_left 1
                      · go_simp
                        try rfl
                      try simp only [Act.put, List.setIfInBounds_toArray, List.set_cons_zero, List.set_cons_succ]
                      refine wpAnyH_done (by kernel_rfl) ?_ _
                      go_wp2_with fail
                      go_meet
                      exact ⟨by rw [HKF.out], Lib.hid hcum⟩
                    · cases h2 : mayM Rb Cb ns.length
                      · have hkf : kk = false := by rw [HKK.out, mulK, h1, h2]; rfl
                        have H1 := Lib.hid h1
                        have H2 := Lib.hid h2
                        clear h1 h2
                        have HKF := Lib.hid hkf
                        clear hkf
                        refine wp_region_held (S := fun W' => Below U.heap.size U W') (by kernel_rfl) ?_
                        change wpAnyH _ _ _ _ _ 29 _ _ _
                        have hcum := (Below.refl U.heap.size U).drew
                        change wpAnyH _ _ _ _ _ _ _ _ U.drew
                        generalize U.drew = V0 at *
                        refine wpAnyH_take (i := 0) (oi := { dst := some 59, op := Op.fieldAddr 26 (Operand.tmp 1) 0, type := 0, pos := "law.go:101", after := #[], guard := none }) (v := ?_) rfl (by kernel_rfl) (by kernel_rfl) (by kernel_rfl) (fun _ _ _ h => h) (Or.inl ⟨by rfl, fun W' hW' => ?_⟩) hcum ?_
                        rotate_left 1
                        · go_simp
                          try rfl
                        try simp only [Act.put, List.setIfInBounds_toArray, List.set_cons_zero, List.set_cons_succ]
                        refine wpAnyH_take (i := 1) (oi := { dst := some 60, op := Op.load 22 (Operand.tmp 59), type := 22, pos := "law.go:101", after := #[{ on := 0, ground := Ground.data }], guard := none }) (v := ?_) rfl (by kernel_rfl) (by kernel_rfl) (by kernel_rfl) (fun _ _ _ h => h) (Or.inl ⟨by rfl, fun W' hW' => ?_⟩) hcum ?_
                        rotate_left 1
                        · (obtain ⟨a0, p0, p1, p2, q0, q1, q2⟩ := HSU.out W' hW'; go_simp)
                          try rfl
                        try simp only [Act.put, List.setIfInBounds_toArray, List.set_cons_zero, List.set_cons_succ]
                        refine wpAnyH_take (i := 2) (oi := { dst := some 61, op := Op.move (Operand.tmp 3), type := 3, pos := "law.go:101", after := #[], guard := none }) (v := ?_) rfl (by kernel_rfl) (by kernel_rfl) (by kernel_rfl) (fun _ _ _ h => h) (Or.inl ⟨by rfl, fun W' hW' => ?_⟩) hcum ?_
                        rotate_left 1
                        · go_simp
                          try rfl
                        try simp only [Act.put, List.setIfInBounds_toArray, List.set_cons_zero, List.set_cons_succ]
                        refine wpAnyH_take (i := 3) (oi := { dst := some 62, op := Op.indexAddr 22 (Operand.tmp 60) (Operand.tmp 61), type := 0, pos := "law.go:101", after := #[{ on := 1, ground := Ground.data }, { on := 2, ground := Ground.data }], guard := none }) (v := ?_) rfl (by kernel_rfl) (by kernel_rfl) (by kernel_rfl) (fun _ _ _ h => h) (Or.inl ⟨by rfl, fun W' hW' => ?_⟩) hcum ?_
                        rotate_left 1
                        · go_simp
                          try rfl
                        try simp only [Act.put, List.setIfInBounds_toArray, List.set_cons_zero, List.set_cons_succ]
                        refine wpAnyH_take (i := 4) (oi := { dst := some 63, op := Op.load 30 (Operand.tmp 62), type := 30, pos := "law.go:101", after := #[{ on := 3, ground := Ground.data }], guard := none }) (v := ?_) rfl (by kernel_rfl) (by kernel_rfl) (by kernel_rfl) (fun _ _ _ h => h) (Or.inl ⟨by rfl, fun W' hW' => ?_⟩) hcum ?_
                        rotate_left 1
                        · (obtain ⟨a0, p0, p1, p2, q0, q1, q2⟩ := HSU.out W' hW'; go_simp)
                          try rfl
                        try simp only [Act.put, List.setIfInBounds_toArray, List.set_cons_zero, List.set_cons_succ]
                        refine wpAnyH_ready (rs := [5]) (by kernel_rfl) (by simp) ?_
                        refine AllReadyH.cons (o := { dst := some 64, op := Op.call { callee := Callee.value (Operand.func 23), args := #[Operand.tmp 63], argTypes := #[30] }, type := 4, pos := "law.go:101", after := #[{ on := 4, ground := Ground.data }], guard := none }) rfl (fun K hK => ?_) AllReadyH.nil
                        rw [if_pos (by rfl)]
                        go_simp
                        refine (refMatrix_is _ _ _ _ _ _ H1.out _ (by omega)).mono ?_
                        rintro e V1 ⟨rfl, hbe⟩
                        have hcum := hcum.trans (hbe.mono hcum.size)
                        refine hK.out _ _ hcum (fun _ => ?_)
                        clear hK hbe
                        try simp only [Act.put, List.setIfInBounds_toArray, List.set_cons_zero, List.set_cons_succ]
                        refine wpAnyH_take (i := 6) (oi := { dst := some 65, op := Op.move (Operand.tmp 64), type := 4, pos := "law.go:101", after := #[{ on := 5, ground := Ground.data }, { on := 5, ground := Ground.chain }], guard := none }) (v := ?_) rfl (by kernel_rfl) (by kernel_rfl) (by kernel_rfl) (fun _ _ _ h => h) (Or.inl ⟨by rfl, fun W' hW' => ?_⟩) hcum ?_
                        rotate_left 1
                        · go_simp
                          try rfl
                        try simp only [Act.put, List.setIfInBounds_toArray, List.set_cons_zero, List.set_cons_succ]
                        refine wpAnyH_take (i := 7) (oi := { dst := some 66, op := Op.fieldAddr 26 (Operand.tmp 1) 0, type := 0, pos := "law.go:101", after := #[{ on := 6, ground := Ground.guard }], guard := some (6, true) }) (v := ?_) rfl (by kernel_rfl) (by kernel_rfl) (by kernel_rfl) (fun _ _ _ h => h) (Or.inl ⟨by rfl, fun W' hW' => ?_⟩) hcum ?_
                        rotate_left 1
                        · go_simp
                          try rfl
                        try simp only [Act.put, List.setIfInBounds_toArray, List.set_cons_zero, List.set_cons_succ]
                        refine wpAnyH_take (i := 8) (oi := { dst := some 67, op := Op.load 22 (Operand.tmp 66), type := 22, pos := "law.go:101", after := #[{ on := 7, ground := Ground.data }, { on := 6, ground := Ground.guard }], guard := some (6, true) }) (v := ?_) rfl (by kernel_rfl) (by kernel_rfl) (by kernel_rfl) (fun _ _ _ h => h) (Or.inl ⟨by rfl, fun W' hW' => ?_⟩) hcum ?_
                        rotate_left 1
                        · (obtain ⟨a0, p0, p1, p2, q0, q1, q2⟩ := HSU.out W' hW'; go_simp)
                          try rfl
                        try simp only [Act.put, List.setIfInBounds_toArray, List.set_cons_zero, List.set_cons_succ]
                        refine wpAnyH_take (i := 9) (oi := { dst := some 68, op := Op.move (Operand.tmp 4), type := 3, pos := "law.go:101", after := #[{ on := 6, ground := Ground.guard }], guard := some (6, true) }) (v := ?_) rfl (by kernel_rfl) (by kernel_rfl) (by kernel_rfl) (fun _ _ _ h => h) (Or.inl ⟨by rfl, fun W' hW' => ?_⟩) hcum ?_
                        rotate_left 1
                        · go_simp
                          try rfl
                        try simp only [Act.put, List.setIfInBounds_toArray, List.set_cons_zero, List.set_cons_succ]
                        refine wpAnyH_take (i := 10) (oi := { dst := some 69, op := Op.indexAddr 22 (Operand.tmp 67) (Operand.tmp 68), type := 0, pos := "law.go:101", after := #[{ on := 8, ground := Ground.data }, { on := 9, ground := Ground.data }, { on := 6, ground := Ground.guard }], guard := some (6, true) }) (v := ?_) rfl (by kernel_rfl) (by kernel_rfl) (by kernel_rfl) (fun _ _ _ h => h) (Or.inl ⟨by rfl, fun W' hW' => ?_⟩) hcum ?_
                        rotate_left 1
                        · go_simp
                          try rfl
                        try simp only [Act.put, List.setIfInBounds_toArray, List.set_cons_zero, List.set_cons_succ]
                        refine wpAnyH_take (i := 11) (oi := { dst := some 70, op := Op.load 30 (Operand.tmp 69), type := 30, pos := "law.go:101", after := #[{ on := 10, ground := Ground.data }, { on := 6, ground := Ground.guard }], guard := some (6, true) }) (v := ?_) rfl (by kernel_rfl) (by kernel_rfl) (by kernel_rfl) (fun _ _ _ h => h) (Or.inl ⟨by rfl, fun W' hW' => ?_⟩) hcum ?_
                        rotate_left 1
                        · (obtain ⟨a0, p0, p1, p2, q0, q1, q2⟩ := HSU.out W' hW'; go_simp)
                          try rfl
                        try simp only [Act.put, List.setIfInBounds_toArray, List.set_cons_zero, List.set_cons_succ]
                        refine wpAnyH_ready (rs := [12]) (by kernel_rfl) (by simp) ?_
                        refine AllReadyH.cons (o := { dst := some 71, op := Op.call { callee := Callee.value (Operand.func 23), args := #[Operand.tmp 70], argTypes := #[30] }, type := 4, pos := "law.go:101", after := #[{ on := 11, ground := Ground.data }, { on := 6, ground := Ground.chain }, { on := 6, ground := Ground.guard }], guard := some (6, true) }) rfl (fun K hK => ?_) AllReadyH.nil
                        rw [if_pos (by rfl)]
                        go_simp
                        refine (refMatrix_is _ _ _ _ _ _ H2.out _ (by omega)).mono ?_
                        rintro e V2 ⟨rfl, hbe⟩
                        have hcum := hcum.trans (hbe.mono hcum.size)
                        refine hK.out _ _ hcum (fun _ => ?_)
                        clear hK hbe
                        try simp only [Act.put, List.setIfInBounds_toArray, List.set_cons_zero, List.set_cons_succ]
                        refine wpAnyH_take (i := 13) (oi := { dst := some 72, op := Op.pick (Operand.tmp 65) (Operand.tmp 71) (Operand.const (Value.bool false)), type := 4, pos := "law.go:101", after := #[{ on := 6, ground := Ground.data }, { on := 12, ground := Ground.data }], guard := none }) (v := ?_) rfl (by kernel_rfl) (by kernel_rfl) (by kernel_rfl) (fun _ _ _ h => h) (Or.inl ⟨by rfl, fun W' hW' => ?_⟩) hcum ?_
                        rotate_left 1
                        · go_simp
                          try rfl
                        try simp only [Act.put, List.setIfInBounds_toArray, List.set_cons_zero, List.set_cons_succ]
                        refine wpAnyH_take (i := 14) (oi := { dst := some 73, op := Op.move (Operand.tmp 72), type := 4, pos := "law.go:101", after := #[{ on := 13, ground := Ground.data }, { on := 12, ground := Ground.chain }], guard := none }) (v := ?_) rfl (by kernel_rfl) (by kernel_rfl) (by kernel_rfl) (fun _ _ _ h => h) (Or.inl ⟨by rfl, fun W' hW' => ?_⟩) hcum ?_
                        rotate_left 1
                        · go_simp
                          try rfl
                        try simp only [Act.put, List.setIfInBounds_toArray, List.set_cons_zero, List.set_cons_succ]
                        refine wpAnyH_take (i := 15) (oi := { dst := some 74, op := Op.fieldAddr 26 (Operand.tmp 1) 0, type := 0, pos := "law.go:101", after := #[{ on := 14, ground := Ground.guard }], guard := some (14, true) }) (v := undef) rfl (by kernel_rfl) (by kernel_rfl) (by kernel_rfl) (fun _ _ _ h => h) (Or.inr ⟨by rfl, rfl⟩) hcum ?_
                        try simp only [Act.put, List.setIfInBounds_toArray, List.set_cons_zero, List.set_cons_succ]
                        refine wpAnyH_take (i := 16) (oi := { dst := some 75, op := Op.load 22 (Operand.tmp 74), type := 22, pos := "law.go:101", after := #[{ on := 15, ground := Ground.data }, { on := 14, ground := Ground.guard }], guard := some (14, true) }) (v := undef) rfl (by kernel_rfl) (by kernel_rfl) (by kernel_rfl) (fun _ _ _ h => h) (Or.inr ⟨by rfl, rfl⟩) hcum ?_
                        try simp only [Act.put, List.setIfInBounds_toArray, List.set_cons_zero, List.set_cons_succ]
                        refine wpAnyH_take (i := 17) (oi := { dst := some 76, op := Op.move (Operand.tmp 3), type := 3, pos := "law.go:101", after := #[{ on := 14, ground := Ground.guard }], guard := some (14, true) }) (v := undef) rfl (by kernel_rfl) (by kernel_rfl) (by kernel_rfl) (fun _ _ _ h => h) (Or.inr ⟨by rfl, rfl⟩) hcum ?_
                        try simp only [Act.put, List.setIfInBounds_toArray, List.set_cons_zero, List.set_cons_succ]
                        refine wpAnyH_take (i := 18) (oi := { dst := some 77, op := Op.indexAddr 22 (Operand.tmp 75) (Operand.tmp 76), type := 0, pos := "law.go:101", after := #[{ on := 16, ground := Ground.data }, { on := 17, ground := Ground.data }, { on := 14, ground := Ground.guard }], guard := some (14, true) }) (v := undef) rfl (by kernel_rfl) (by kernel_rfl) (by kernel_rfl) (fun _ _ _ h => h) (Or.inr ⟨by rfl, rfl⟩) hcum ?_
                        try simp only [Act.put, List.setIfInBounds_toArray, List.set_cons_zero, List.set_cons_succ]
                        refine wpAnyH_take (i := 19) (oi := { dst := some 78, op := Op.fieldAddr 30 (Operand.tmp 77) 1, type := 0, pos := "law.go:101", after := #[{ on := 18, ground := Ground.data }, { on := 14, ground := Ground.guard }], guard := some (14, true) }) (v := undef) rfl (by kernel_rfl) (by kernel_rfl) (by kernel_rfl) (fun _ _ _ h => h) (Or.inr ⟨by rfl, rfl⟩) hcum ?_
                        try simp only [Act.put, List.setIfInBounds_toArray, List.set_cons_zero, List.set_cons_succ]
                        refine wpAnyH_take (i := 20) (oi := { dst := some 79, op := Op.load 3 (Operand.tmp 78), type := 3, pos := "law.go:101", after := #[{ on := 19, ground := Ground.data }, { on := 14, ground := Ground.guard }], guard := some (14, true) }) (v := undef) rfl (by kernel_rfl) (by kernel_rfl) (by kernel_rfl) (fun _ _ _ h => h) (Or.inr ⟨by rfl, rfl⟩) hcum ?_
                        try simp only [Act.put, List.setIfInBounds_toArray, List.set_cons_zero, List.set_cons_succ]
                        refine wpAnyH_take (i := 21) (oi := { dst := some 80, op := Op.fieldAddr 26 (Operand.tmp 1) 0, type := 0, pos := "law.go:101", after := #[{ on := 14, ground := Ground.guard }], guard := some (14, true) }) (v := undef) rfl (by kernel_rfl) (by kernel_rfl) (by kernel_rfl) (fun _ _ _ h => h) (Or.inr ⟨by rfl, rfl⟩) hcum ?_
                        try simp only [Act.put, List.setIfInBounds_toArray, List.set_cons_zero, List.set_cons_succ]
                        refine wpAnyH_take (i := 22) (oi := { dst := some 81, op := Op.load 22 (Operand.tmp 80), type := 22, pos := "law.go:101", after := #[{ on := 21, ground := Ground.data }, { on := 14, ground := Ground.guard }], guard := some (14, true) }) (v := undef) rfl (by kernel_rfl) (by kernel_rfl) (by kernel_rfl) (fun _ _ _ h => h) (Or.inr ⟨by rfl, rfl⟩) hcum ?_
                        try simp only [Act.put, List.setIfInBounds_toArray, List.set_cons_zero, List.set_cons_succ]
                        refine wpAnyH_take (i := 23) (oi := { dst := some 82, op := Op.move (Operand.tmp 4), type := 3, pos := "law.go:101", after := #[{ on := 14, ground := Ground.guard }], guard := some (14, true) }) (v := undef) rfl (by kernel_rfl) (by kernel_rfl) (by kernel_rfl) (fun _ _ _ h => h) (Or.inr ⟨by rfl, rfl⟩) hcum ?_
                        try simp only [Act.put, List.setIfInBounds_toArray, List.set_cons_zero, List.set_cons_succ]
                        refine wpAnyH_take (i := 24) (oi := { dst := some 83, op := Op.indexAddr 22 (Operand.tmp 81) (Operand.tmp 82), type := 0, pos := "law.go:101", after := #[{ on := 22, ground := Ground.data }, { on := 23, ground := Ground.data }, { on := 14, ground := Ground.guard }], guard := some (14, true) }) (v := undef) rfl (by kernel_rfl) (by kernel_rfl) (by kernel_rfl) (fun _ _ _ h => h) (Or.inr ⟨by rfl, rfl⟩) hcum ?_
                        try simp only [Act.put, List.setIfInBounds_toArray, List.set_cons_zero, List.set_cons_succ]
                        refine wpAnyH_take (i := 25) (oi := { dst := some 84, op := Op.fieldAddr 30 (Operand.tmp 83) 0, type := 0, pos := "law.go:101", after := #[{ on := 24, ground := Ground.data }, { on := 14, ground := Ground.guard }], guard := some (14, true) }) (v := undef) rfl (by kernel_rfl) (by kernel_rfl) (by kernel_rfl) (fun _ _ _ h => h) (Or.inr ⟨by rfl, rfl⟩) hcum ?_
                        try simp only [Act.put, List.setIfInBounds_toArray, List.set_cons_zero, List.set_cons_succ]
                        refine wpAnyH_take (i := 26) (oi := { dst := some 85, op := Op.load 3 (Operand.tmp 84), type := 3, pos := "law.go:101", after := #[{ on := 25, ground := Ground.data }, { on := 14, ground := Ground.guard }], guard := some (14, true) }) (v := undef) rfl (by kernel_rfl) (by kernel_rfl) (by kernel_rfl) (fun _ _ _ h => h) (Or.inr ⟨by rfl, rfl⟩) hcum ?_
                        try simp only [Act.put, List.setIfInBounds_toArray, List.set_cons_zero, List.set_cons_succ]
                        refine wpAnyH_take (i := 27) (oi := { dst := some 86, op := Op.binOp BinOp.eql 3 (Operand.tmp 79) (Operand.tmp 85) 3, type := 4, pos := "law.go:101", after := #[{ on := 20, ground := Ground.data }, { on := 26, ground := Ground.data }, { on := 14, ground := Ground.guard }], guard := some (14, true) }) (v := undef) rfl (by kernel_rfl) (by kernel_rfl) (by kernel_rfl) (fun _ _ _ h => h) (Or.inr ⟨by rfl, rfl⟩) hcum ?_
                        try simp only [Act.put, List.setIfInBounds_toArray, List.set_cons_zero, List.set_cons_succ]
                        refine wpAnyH_take (i := 28) (oi := { dst := some 87, op := Op.pick (Operand.tmp 73) (Operand.tmp 86) (Operand.const (Value.bool false)), type := 4, pos := "law.go:101", after := #[{ on := 14, ground := Ground.data }, { on := 27, ground := Ground.data }], guard := none }) (v := ?_) rfl (by kernel_rfl) (by kernel_rfl) (by kernel_rfl) (fun _ _ _ h => h) (Or.inl ⟨by rfl, fun W' hW' => ?_⟩) hcum ?_
                        rotate_left 1
                        · go_simp
                          try rfl
                        try simp only [Act.put, List.setIfInBounds_toArray, List.set_cons_zero, List.set_cons_succ]
                        refine wpAnyH_done (by kernel_rfl) ?_ _
                        go_wp2_with fail
                        go_meet
                        exact ⟨by rw [HKF.out], Lib.hid hcum⟩
                      · by_cases h3 : Ca = Rb
                        · have hkf : kk = true := by rw [HKK.out, mulK, h1, h2, h3]; simp
                          have H1 := Lib.hid h1
                          have H2 := Lib.hid h2
                          have hcr : (Ca == Rb) = true := by simp [h3]
                          clear h1 h2 h3
                          have HKF := Lib.hid hkf
                          clear hkf
                          refine wp_region_held (S := fun W' => Below U.heap.size U W') (by kernel_rfl) ?_
                          change wpAnyH _ _ _ _ _ 29 _ _ _
                          have hcum := (Below.refl U.heap.size U).drew
                          change wpAnyH _ _ _ _ _ _ _ _ U.drew
                          generalize U.drew = V0 at *
                          refine wpAnyH_take (i := 0) (oi := { dst := some 59, op := Op.fieldAddr 26 (Operand.tmp 1) 0, type := 0, pos := "law.go:101", after := #[], guard := none }) (v := ?_) rfl (by kernel_rfl) (by kernel_rfl) (by kernel_rfl) (fun _ _ _ h => h) (Or.inl ⟨by rfl, fun W' hW' => ?_⟩) hcum ?_
                          rotate_left 1
                          · go_simp
                            try rfl
                          try simp only [Act.put, List.setIfInBounds_toArray, List.set_cons_zero, List.set_cons_succ]
                          refine wpAnyH_take (i := 1) (oi := { dst := some 60, op := Op.load 22 (Operand.tmp 59), type := 22, pos := "law.go:101", after := #[{ on := 0, ground := Ground.data }], guard := none }) (v := ?_) rfl (by kernel_rfl) (by kernel_rfl) (by kernel_rfl) (fun _ _ _ h => h) (Or.inl ⟨by rfl, fun W' hW' => ?_⟩) hcum ?_
                          rotate_left 1
                          · (obtain ⟨a0, p0, p1, p2, q0, q1, q2⟩ := HSU.out W' hW'; go_simp)
                            try rfl
                          try simp only [Act.put, List.setIfInBounds_toArray, List.set_cons_zero, List.set_cons_succ]
                          refine wpAnyH_take (i := 2) (oi := { dst := some 61, op := Op.move (Operand.tmp 3), type := 3, pos := "law.go:101", after := #[], guard := none }) (v := ?_) rfl (by kernel_rfl) (by kernel_rfl) (by kernel_rfl) (fun _ _ _ h => h) (Or.inl ⟨by rfl, fun W' hW' => ?_⟩) hcum ?_
                          rotate_left 1
                          · go_simp
                            try rfl
                          try simp only [Act.put, List.setIfInBounds_toArray, List.set_cons_zero, List.set_cons_succ]
                          refine wpAnyH_take (i := 3) (oi := { dst := some 62, op := Op.indexAddr 22 (Operand.tmp 60) (Operand.tmp 61), type := 0, pos := "law.go:101", after := #[{ on := 1, ground := Ground.data }, { on := 2, ground := Ground.data }], guard := none }) (v := ?_) rfl (by kernel_rfl) (by kernel_rfl) (by kernel_rfl) (fun _ _ _ h => h) (Or.inl ⟨by rfl, fun W' hW' => ?_⟩) hcum ?_
                          rotate_left 1
                          · go_simp
                            try rfl
                          try simp only [Act.put, List.setIfInBounds_toArray, List.set_cons_zero, List.set_cons_succ]
                          refine wpAnyH_take (i := 4) (oi := { dst := some 63, op := Op.load 30 (Operand.tmp 62), type := 30, pos := "law.go:101", after := #[{ on := 3, ground := Ground.data }], guard := none }) (v := ?_) rfl (by kernel_rfl) (by kernel_rfl) (by kernel_rfl) (fun _ _ _ h => h) (Or.inl ⟨by rfl, fun W' hW' => ?_⟩) hcum ?_
                          rotate_left 1
                          · (obtain ⟨a0, p0, p1, p2, q0, q1, q2⟩ := HSU.out W' hW'; go_simp)
                            try rfl
                          try simp only [Act.put, List.setIfInBounds_toArray, List.set_cons_zero, List.set_cons_succ]
                          refine wpAnyH_ready (rs := [5]) (by kernel_rfl) (by simp) ?_
                          refine AllReadyH.cons (o := { dst := some 64, op := Op.call { callee := Callee.value (Operand.func 23), args := #[Operand.tmp 63], argTypes := #[30] }, type := 4, pos := "law.go:101", after := #[{ on := 4, ground := Ground.data }], guard := none }) rfl (fun K hK => ?_) AllReadyH.nil
                          rw [if_pos (by rfl)]
                          go_simp
                          refine (refMatrix_is _ _ _ _ _ _ H1.out _ (by omega)).mono ?_
                          rintro e V1 ⟨rfl, hbe⟩
                          have hcum := hcum.trans (hbe.mono hcum.size)
                          refine hK.out _ _ hcum (fun _ => ?_)
                          clear hK hbe
                          try simp only [Act.put, List.setIfInBounds_toArray, List.set_cons_zero, List.set_cons_succ]
                          refine wpAnyH_take (i := 6) (oi := { dst := some 65, op := Op.move (Operand.tmp 64), type := 4, pos := "law.go:101", after := #[{ on := 5, ground := Ground.data }, { on := 5, ground := Ground.chain }], guard := none }) (v := ?_) rfl (by kernel_rfl) (by kernel_rfl) (by kernel_rfl) (fun _ _ _ h => h) (Or.inl ⟨by rfl, fun W' hW' => ?_⟩) hcum ?_
                          rotate_left 1
                          · go_simp
                            try rfl
                          try simp only [Act.put, List.setIfInBounds_toArray, List.set_cons_zero, List.set_cons_succ]
                          refine wpAnyH_take (i := 7) (oi := { dst := some 66, op := Op.fieldAddr 26 (Operand.tmp 1) 0, type := 0, pos := "law.go:101", after := #[{ on := 6, ground := Ground.guard }], guard := some (6, true) }) (v := ?_) rfl (by kernel_rfl) (by kernel_rfl) (by kernel_rfl) (fun _ _ _ h => h) (Or.inl ⟨by rfl, fun W' hW' => ?_⟩) hcum ?_
                          rotate_left 1
                          · go_simp
                            try rfl
                          try simp only [Act.put, List.setIfInBounds_toArray, List.set_cons_zero, List.set_cons_succ]
                          refine wpAnyH_take (i := 8) (oi := { dst := some 67, op := Op.load 22 (Operand.tmp 66), type := 22, pos := "law.go:101", after := #[{ on := 7, ground := Ground.data }, { on := 6, ground := Ground.guard }], guard := some (6, true) }) (v := ?_) rfl (by kernel_rfl) (by kernel_rfl) (by kernel_rfl) (fun _ _ _ h => h) (Or.inl ⟨by rfl, fun W' hW' => ?_⟩) hcum ?_
                          rotate_left 1
                          · (obtain ⟨a0, p0, p1, p2, q0, q1, q2⟩ := HSU.out W' hW'; go_simp)
                            try rfl
                          try simp only [Act.put, List.setIfInBounds_toArray, List.set_cons_zero, List.set_cons_succ]
                          refine wpAnyH_take (i := 9) (oi := { dst := some 68, op := Op.move (Operand.tmp 4), type := 3, pos := "law.go:101", after := #[{ on := 6, ground := Ground.guard }], guard := some (6, true) }) (v := ?_) rfl (by kernel_rfl) (by kernel_rfl) (by kernel_rfl) (fun _ _ _ h => h) (Or.inl ⟨by rfl, fun W' hW' => ?_⟩) hcum ?_
                          rotate_left 1
                          · go_simp
                            try rfl
                          try simp only [Act.put, List.setIfInBounds_toArray, List.set_cons_zero, List.set_cons_succ]
                          refine wpAnyH_take (i := 10) (oi := { dst := some 69, op := Op.indexAddr 22 (Operand.tmp 67) (Operand.tmp 68), type := 0, pos := "law.go:101", after := #[{ on := 8, ground := Ground.data }, { on := 9, ground := Ground.data }, { on := 6, ground := Ground.guard }], guard := some (6, true) }) (v := ?_) rfl (by kernel_rfl) (by kernel_rfl) (by kernel_rfl) (fun _ _ _ h => h) (Or.inl ⟨by rfl, fun W' hW' => ?_⟩) hcum ?_
                          rotate_left 1
                          · go_simp
                            try rfl
                          try simp only [Act.put, List.setIfInBounds_toArray, List.set_cons_zero, List.set_cons_succ]
                          refine wpAnyH_take (i := 11) (oi := { dst := some 70, op := Op.load 30 (Operand.tmp 69), type := 30, pos := "law.go:101", after := #[{ on := 10, ground := Ground.data }, { on := 6, ground := Ground.guard }], guard := some (6, true) }) (v := ?_) rfl (by kernel_rfl) (by kernel_rfl) (by kernel_rfl) (fun _ _ _ h => h) (Or.inl ⟨by rfl, fun W' hW' => ?_⟩) hcum ?_
                          rotate_left 1
                          · (obtain ⟨a0, p0, p1, p2, q0, q1, q2⟩ := HSU.out W' hW'; go_simp)
                            try rfl
                          try simp only [Act.put, List.setIfInBounds_toArray, List.set_cons_zero, List.set_cons_succ]
                          refine wpAnyH_ready (rs := [12]) (by kernel_rfl) (by simp) ?_
                          refine AllReadyH.cons (o := { dst := some 71, op := Op.call { callee := Callee.value (Operand.func 23), args := #[Operand.tmp 70], argTypes := #[30] }, type := 4, pos := "law.go:101", after := #[{ on := 11, ground := Ground.data }, { on := 6, ground := Ground.chain }, { on := 6, ground := Ground.guard }], guard := some (6, true) }) rfl (fun K hK => ?_) AllReadyH.nil
                          rw [if_pos (by rfl)]
                          go_simp
                          refine (refMatrix_is _ _ _ _ _ _ H2.out _ (by omega)).mono ?_
                          rintro e V2 ⟨rfl, hbe⟩
                          have hcum := hcum.trans (hbe.mono hcum.size)
                          refine hK.out _ _ hcum (fun _ => ?_)
                          clear hK hbe
                          try simp only [Act.put, List.setIfInBounds_toArray, List.set_cons_zero, List.set_cons_succ]
                          refine wpAnyH_take (i := 13) (oi := { dst := some 72, op := Op.pick (Operand.tmp 65) (Operand.tmp 71) (Operand.const (Value.bool false)), type := 4, pos := "law.go:101", after := #[{ on := 6, ground := Ground.data }, { on := 12, ground := Ground.data }], guard := none }) (v := ?_) rfl (by kernel_rfl) (by kernel_rfl) (by kernel_rfl) (fun _ _ _ h => h) (Or.inl ⟨by rfl, fun W' hW' => ?_⟩) hcum ?_
                          rotate_left 1
                          · go_simp
                            try rfl
                          try simp only [Act.put, List.setIfInBounds_toArray, List.set_cons_zero, List.set_cons_succ]
                          refine wpAnyH_take (i := 14) (oi := { dst := some 73, op := Op.move (Operand.tmp 72), type := 4, pos := "law.go:101", after := #[{ on := 13, ground := Ground.data }, { on := 12, ground := Ground.chain }], guard := none }) (v := ?_) rfl (by kernel_rfl) (by kernel_rfl) (by kernel_rfl) (fun _ _ _ h => h) (Or.inl ⟨by rfl, fun W' hW' => ?_⟩) hcum ?_
                          rotate_left 1
                          · go_simp
                            try rfl
                          try simp only [Act.put, List.setIfInBounds_toArray, List.set_cons_zero, List.set_cons_succ]
                          refine wpAnyH_take (i := 15) (oi := { dst := some 74, op := Op.fieldAddr 26 (Operand.tmp 1) 0, type := 0, pos := "law.go:101", after := #[{ on := 14, ground := Ground.guard }], guard := some (14, true) }) (v := ?_) rfl (by kernel_rfl) (by kernel_rfl) (by kernel_rfl) (fun _ _ _ h => h) (Or.inl ⟨by rfl, fun W' hW' => ?_⟩) hcum ?_
                          rotate_left 1
                          · go_simp
                            try rfl
                          try simp only [Act.put, List.setIfInBounds_toArray, List.set_cons_zero, List.set_cons_succ]
                          refine wpAnyH_take (i := 16) (oi := { dst := some 75, op := Op.load 22 (Operand.tmp 74), type := 22, pos := "law.go:101", after := #[{ on := 15, ground := Ground.data }, { on := 14, ground := Ground.guard }], guard := some (14, true) }) (v := ?_) rfl (by kernel_rfl) (by kernel_rfl) (by kernel_rfl) (fun _ _ _ h => h) (Or.inl ⟨by rfl, fun W' hW' => ?_⟩) hcum ?_
                          rotate_left 1
                          · (obtain ⟨a0, p0, p1, p2, q0, q1, q2⟩ := HSU.out W' hW'; go_simp)
                            try rfl
                          try simp only [Act.put, List.setIfInBounds_toArray, List.set_cons_zero, List.set_cons_succ]
                          refine wpAnyH_take (i := 17) (oi := { dst := some 76, op := Op.move (Operand.tmp 3), type := 3, pos := "law.go:101", after := #[{ on := 14, ground := Ground.guard }], guard := some (14, true) }) (v := ?_) rfl (by kernel_rfl) (by kernel_rfl) (by kernel_rfl) (fun _ _ _ h => h) (Or.inl ⟨by rfl, fun W' hW' => ?_⟩) hcum ?_
                          rotate_left 1
                          · go_simp
                            try rfl
                          try simp only [Act.put, List.setIfInBounds_toArray, List.set_cons_zero, List.set_cons_succ]
                          refine wpAnyH_take (i := 18) (oi := { dst := some 77, op := Op.indexAddr 22 (Operand.tmp 75) (Operand.tmp 76), type := 0, pos := "law.go:101", after := #[{ on := 16, ground := Ground.data }, { on := 17, ground := Ground.data }, { on := 14, ground := Ground.guard }], guard := some (14, true) }) (v := ?_) rfl (by kernel_rfl) (by kernel_rfl) (by kernel_rfl) (fun _ _ _ h => h) (Or.inl ⟨by rfl, fun W' hW' => ?_⟩) hcum ?_
                          rotate_left 1
                          · go_simp
                            try rfl
                          try simp only [Act.put, List.setIfInBounds_toArray, List.set_cons_zero, List.set_cons_succ]
                          refine wpAnyH_take (i := 19) (oi := { dst := some 78, op := Op.fieldAddr 30 (Operand.tmp 77) 1, type := 0, pos := "law.go:101", after := #[{ on := 18, ground := Ground.data }, { on := 14, ground := Ground.guard }], guard := some (14, true) }) (v := ?_) rfl (by kernel_rfl) (by kernel_rfl) (by kernel_rfl) (fun _ _ _ h => h) (Or.inl ⟨by rfl, fun W' hW' => ?_⟩) hcum ?_
                          rotate_left 1
                          · go_simp
                            try rfl
                          try simp only [Act.put, List.setIfInBounds_toArray, List.set_cons_zero, List.set_cons_succ]
                          refine wpAnyH_take (i := 20) (oi := { dst := some 79, op := Op.load 3 (Operand.tmp 78), type := 3, pos := "law.go:101", after := #[{ on := 19, ground := Ground.data }, { on := 14, ground := Ground.guard }], guard := some (14, true) }) (v := ?_) rfl (by kernel_rfl) (by kernel_rfl) (by kernel_rfl) (fun _ _ _ h => h) (Or.inl ⟨by rfl, fun W' hW' => ?_⟩) hcum ?_
                          rotate_left 1
                          · (obtain ⟨a0, p0, p1, p2, q0, q1, q2⟩ := HSU.out W' hW'; go_simp)
                            try rfl
                          try simp only [Act.put, List.setIfInBounds_toArray, List.set_cons_zero, List.set_cons_succ]
                          refine wpAnyH_take (i := 21) (oi := { dst := some 80, op := Op.fieldAddr 26 (Operand.tmp 1) 0, type := 0, pos := "law.go:101", after := #[{ on := 14, ground := Ground.guard }], guard := some (14, true) }) (v := ?_) rfl (by kernel_rfl) (by kernel_rfl) (by kernel_rfl) (fun _ _ _ h => h) (Or.inl ⟨by rfl, fun W' hW' => ?_⟩) hcum ?_
                          rotate_left 1
                          · go_simp
                            try rfl
                          try simp only [Act.put, List.setIfInBounds_toArray, List.set_cons_zero, List.set_cons_succ]
                          refine wpAnyH_take (i := 22) (oi := { dst := some 81, op := Op.load 22 (Operand.tmp 80), type := 22, pos := "law.go:101", after := #[{ on := 21, ground := Ground.data }, { on := 14, ground := Ground.guard }], guard := some (14, true) }) (v := ?_) rfl (by kernel_rfl) (by kernel_rfl) (by kernel_rfl) (fun _ _ _ h => h) (Or.inl ⟨by rfl, fun W' hW' => ?_⟩) hcum ?_
                          rotate_left 1
                          · (obtain ⟨a0, p0, p1, p2, q0, q1, q2⟩ := HSU.out W' hW'; go_simp)
                            try rfl
                          try simp only [Act.put, List.setIfInBounds_toArray, List.set_cons_zero, List.set_cons_succ]
                          refine wpAnyH_take (i := 23) (oi := { dst := some 82, op := Op.move (Operand.tmp 4), type := 3, pos := "law.go:101", after := #[{ on := 14, ground := Ground.guard }], guard := some (14, true) }) (v := ?_) rfl (by kernel_rfl) (by kernel_rfl) (by kernel_rfl) (fun _ _ _ h => h) (Or.inl ⟨by rfl, fun W' hW' => ?_⟩) hcum ?_
                          rotate_left 1
                          · go_simp
                            try rfl
                          try simp only [Act.put, List.setIfInBounds_toArray, List.set_cons_zero, List.set_cons_succ]
                          refine wpAnyH_take (i := 24) (oi := { dst := some 83, op := Op.indexAddr 22 (Operand.tmp 81) (Operand.tmp 82), type := 0, pos := "law.go:101", after := #[{ on := 22, ground := Ground.data }, { on := 23, ground := Ground.data }, { on := 14, ground := Ground.guard }], guard := some (14, true) }) (v := ?_) rfl (by kernel_rfl) (by kernel_rfl) (by kernel_rfl) (fun _ _ _ h => h) (Or.inl ⟨by rfl, fun W' hW' => ?_⟩) hcum ?_
                          rotate_left 1
                          · go_simp
                            try rfl
                          try simp only [Act.put, List.setIfInBounds_toArray, List.set_cons_zero, List.set_cons_succ]
                          refine wpAnyH_take (i := 25) (oi := { dst := some 84, op := Op.fieldAddr 30 (Operand.tmp 83) 0, type := 0, pos := "law.go:101", after := #[{ on := 24, ground := Ground.data }, { on := 14, ground := Ground.guard }], guard := some (14, true) }) (v := ?_) rfl (by kernel_rfl) (by kernel_rfl) (by kernel_rfl) (fun _ _ _ h => h) (Or.inl ⟨by rfl, fun W' hW' => ?_⟩) hcum ?_
                          rotate_left 1
                          · go_simp
                            try rfl
                          try simp only [Act.put, List.setIfInBounds_toArray, List.set_cons_zero, List.set_cons_succ]
                          refine wpAnyH_take (i := 26) (oi := { dst := some 85, op := Op.load 3 (Operand.tmp 84), type := 3, pos := "law.go:101", after := #[{ on := 25, ground := Ground.data }, { on := 14, ground := Ground.guard }], guard := some (14, true) }) (v := ?_) rfl (by kernel_rfl) (by kernel_rfl) (by kernel_rfl) (fun _ _ _ h => h) (Or.inl ⟨by rfl, fun W' hW' => ?_⟩) hcum ?_
                          rotate_left 1
                          · (obtain ⟨a0, p0, p1, p2, q0, q1, q2⟩ := HSU.out W' hW'; go_simp)
                            try rfl
                          try simp only [Act.put, List.setIfInBounds_toArray, List.set_cons_zero, List.set_cons_succ]
                          refine wpAnyH_take (i := 27) (oi := { dst := some 86, op := Op.binOp BinOp.eql 3 (Operand.tmp 79) (Operand.tmp 85) 3, type := 4, pos := "law.go:101", after := #[{ on := 20, ground := Ground.data }, { on := 26, ground := Ground.data }, { on := 14, ground := Ground.guard }], guard := some (14, true) }) (v := ?_) rfl (by kernel_rfl) (by kernel_rfl) (by kernel_rfl) (fun _ _ _ h => h) (Or.inl ⟨by rfl, fun W' hW' => ?_⟩) hcum ?_
                          rotate_left 1
                          · go_simp
                            try rfl
                          try simp only [Act.put, List.setIfInBounds_toArray, List.set_cons_zero, List.set_cons_succ]
                          refine wpAnyH_take (i := 28) (oi := { dst := some 87, op := Op.pick (Operand.tmp 73) (Operand.tmp 86) (Operand.const (Value.bool false)), type := 4, pos := "law.go:101", after := #[{ on := 14, ground := Ground.data }, { on := 27, ground := Ground.data }], guard := none }) (v := ?_) rfl (by kernel_rfl) (by kernel_rfl) (by kernel_rfl) (fun _ _ _ h => h) (Or.inl ⟨by rfl, fun W' hW' => ?_⟩) hcum ?_
                          rotate_left 1
                          · go_simp
                            try rfl
                          try simp only [Act.put, List.setIfInBounds_toArray, List.set_cons_zero, List.set_cons_succ]
                          refine wpAnyH_done (by kernel_rfl) ?_ _
                          go_wp2_with fail
                          go_meet
                          exact ⟨by rw [HKF.out], Lib.hid hcum⟩
                        · have hkf : kk = false := by rw [HKK.out, mulK, h1, h2]; simp [h3]
                          have H1 := Lib.hid h1
                          have H2 := Lib.hid h2
                          have hcr : (Ca == Rb) = false := by simp [h3]
                          clear h1 h2 h3
                          have HKF := Lib.hid hkf
                          clear hkf
                          refine wp_region_held (S := fun W' => Below U.heap.size U W') (by kernel_rfl) ?_
                          change wpAnyH _ _ _ _ _ 29 _ _ _
                          have hcum := (Below.refl U.heap.size U).drew
                          change wpAnyH _ _ _ _ _ _ _ _ U.drew
                          generalize U.drew = V0 at *
                          refine wpAnyH_take (i := 0) (oi := { dst := some 59, op := Op.fieldAddr 26 (Operand.tmp 1) 0, type := 0, pos := "law.go:101", after := #[], guard := none }) (v := ?_) rfl (by kernel_rfl) (by kernel_rfl) (by kernel_rfl) (fun _ _ _ h => h) (Or.inl ⟨by rfl, fun W' hW' => ?_⟩) hcum ?_
                          rotate_left 1
                          · go_simp
                            try rfl
                          try simp only [Act.put, List.setIfInBounds_toArray, List.set_cons_zero, List.set_cons_succ]
                          refine wpAnyH_take (i := 1) (oi := { dst := some 60, op := Op.load 22 (Operand.tmp 59), type := 22, pos := "law.go:101", after := #[{ on := 0, ground := Ground.data }], guard := none }) (v := ?_) rfl (by kernel_rfl) (by kernel_rfl) (by kernel_rfl) (fun _ _ _ h => h) (Or.inl ⟨by rfl, fun W' hW' => ?_⟩) hcum ?_
                          rotate_left 1
                          · (obtain ⟨a0, p0, p1, p2, q0, q1, q2⟩ := HSU.out W' hW'; go_simp)
                            try rfl
                          try simp only [Act.put, List.setIfInBounds_toArray, List.set_cons_zero, List.set_cons_succ]
                          refine wpAnyH_take (i := 2) (oi := { dst := some 61, op := Op.move (Operand.tmp 3), type := 3, pos := "law.go:101", after := #[], guard := none }) (v := ?_) rfl (by kernel_rfl) (by kernel_rfl) (by kernel_rfl) (fun _ _ _ h => h) (Or.inl ⟨by rfl, fun W' hW' => ?_⟩) hcum ?_
                          rotate_left 1
                          · go_simp
                            try rfl
                          try simp only [Act.put, List.setIfInBounds_toArray, List.set_cons_zero, List.set_cons_succ]
                          refine wpAnyH_take (i := 3) (oi := { dst := some 62, op := Op.indexAddr 22 (Operand.tmp 60) (Operand.tmp 61), type := 0, pos := "law.go:101", after := #[{ on := 1, ground := Ground.data }, { on := 2, ground := Ground.data }], guard := none }) (v := ?_) rfl (by kernel_rfl) (by kernel_rfl) (by kernel_rfl) (fun _ _ _ h => h) (Or.inl ⟨by rfl, fun W' hW' => ?_⟩) hcum ?_
                          rotate_left 1
                          · go_simp
                            try rfl
                          try simp only [Act.put, List.setIfInBounds_toArray, List.set_cons_zero, List.set_cons_succ]
                          refine wpAnyH_take (i := 4) (oi := { dst := some 63, op := Op.load 30 (Operand.tmp 62), type := 30, pos := "law.go:101", after := #[{ on := 3, ground := Ground.data }], guard := none }) (v := ?_) rfl (by kernel_rfl) (by kernel_rfl) (by kernel_rfl) (fun _ _ _ h => h) (Or.inl ⟨by rfl, fun W' hW' => ?_⟩) hcum ?_
                          rotate_left 1
                          · (obtain ⟨a0, p0, p1, p2, q0, q1, q2⟩ := HSU.out W' hW'; go_simp)
                            try rfl
                          try simp only [Act.put, List.setIfInBounds_toArray, List.set_cons_zero, List.set_cons_succ]
                          refine wpAnyH_ready (rs := [5]) (by kernel_rfl) (by simp) ?_
                          refine AllReadyH.cons (o := { dst := some 64, op := Op.call { callee := Callee.value (Operand.func 23), args := #[Operand.tmp 63], argTypes := #[30] }, type := 4, pos := "law.go:101", after := #[{ on := 4, ground := Ground.data }], guard := none }) rfl (fun K hK => ?_) AllReadyH.nil
                          rw [if_pos (by rfl)]
                          go_simp
                          refine (refMatrix_is _ _ _ _ _ _ H1.out _ (by omega)).mono ?_
                          rintro e V1 ⟨rfl, hbe⟩
                          have hcum := hcum.trans (hbe.mono hcum.size)
                          refine hK.out _ _ hcum (fun _ => ?_)
                          clear hK hbe
                          try simp only [Act.put, List.setIfInBounds_toArray, List.set_cons_zero, List.set_cons_succ]
                          refine wpAnyH_take (i := 6) (oi := { dst := some 65, op := Op.move (Operand.tmp 64), type := 4, pos := "law.go:101", after := #[{ on := 5, ground := Ground.data }, { on := 5, ground := Ground.chain }], guard := none }) (v := ?_) rfl (by kernel_rfl) (by kernel_rfl) (by kernel_rfl) (fun _ _ _ h => h) (Or.inl ⟨by rfl, fun W' hW' => ?_⟩) hcum ?_
                          rotate_left 1
                          · go_simp
                            try rfl
                          try simp only [Act.put, List.setIfInBounds_toArray, List.set_cons_zero, List.set_cons_succ]
                          refine wpAnyH_take (i := 7) (oi := { dst := some 66, op := Op.fieldAddr 26 (Operand.tmp 1) 0, type := 0, pos := "law.go:101", after := #[{ on := 6, ground := Ground.guard }], guard := some (6, true) }) (v := ?_) rfl (by kernel_rfl) (by kernel_rfl) (by kernel_rfl) (fun _ _ _ h => h) (Or.inl ⟨by rfl, fun W' hW' => ?_⟩) hcum ?_
                          rotate_left 1
                          · go_simp
                            try rfl
                          try simp only [Act.put, List.setIfInBounds_toArray, List.set_cons_zero, List.set_cons_succ]
                          refine wpAnyH_take (i := 8) (oi := { dst := some 67, op := Op.load 22 (Operand.tmp 66), type := 22, pos := "law.go:101", after := #[{ on := 7, ground := Ground.data }, { on := 6, ground := Ground.guard }], guard := some (6, true) }) (v := ?_) rfl (by kernel_rfl) (by kernel_rfl) (by kernel_rfl) (fun _ _ _ h => h) (Or.inl ⟨by rfl, fun W' hW' => ?_⟩) hcum ?_
                          rotate_left 1
                          · (obtain ⟨a0, p0, p1, p2, q0, q1, q2⟩ := HSU.out W' hW'; go_simp)
                            try rfl
                          try simp only [Act.put, List.setIfInBounds_toArray, List.set_cons_zero, List.set_cons_succ]
                          refine wpAnyH_take (i := 9) (oi := { dst := some 68, op := Op.move (Operand.tmp 4), type := 3, pos := "law.go:101", after := #[{ on := 6, ground := Ground.guard }], guard := some (6, true) }) (v := ?_) rfl (by kernel_rfl) (by kernel_rfl) (by kernel_rfl) (fun _ _ _ h => h) (Or.inl ⟨by rfl, fun W' hW' => ?_⟩) hcum ?_
                          rotate_left 1
                          · go_simp
                            try rfl
                          try simp only [Act.put, List.setIfInBounds_toArray, List.set_cons_zero, List.set_cons_succ]
                          refine wpAnyH_take (i := 10) (oi := { dst := some 69, op := Op.indexAddr 22 (Operand.tmp 67) (Operand.tmp 68), type := 0, pos := "law.go:101", after := #[{ on := 8, ground := Ground.data }, { on := 9, ground := Ground.data }, { on := 6, ground := Ground.guard }], guard := some (6, true) }) (v := ?_) rfl (by kernel_rfl) (by kernel_rfl) (by kernel_rfl) (fun _ _ _ h => h) (Or.inl ⟨by rfl, fun W' hW' => ?_⟩) hcum ?_
                          rotate_left 1
                          · go_simp
                            try rfl
                          try simp only [Act.put, List.setIfInBounds_toArray, List.set_cons_zero, List.set_cons_succ]
                          refine wpAnyH_take (i := 11) (oi := { dst := some 70, op := Op.load 30 (Operand.tmp 69), type := 30, pos := "law.go:101", after := #[{ on := 10, ground := Ground.data }, { on := 6, ground := Ground.guard }], guard := some (6, true) }) (v := ?_) rfl (by kernel_rfl) (by kernel_rfl) (by kernel_rfl) (fun _ _ _ h => h) (Or.inl ⟨by rfl, fun W' hW' => ?_⟩) hcum ?_
                          rotate_left 1
                          · (obtain ⟨a0, p0, p1, p2, q0, q1, q2⟩ := HSU.out W' hW'; go_simp)
                            try rfl
                          try simp only [Act.put, List.setIfInBounds_toArray, List.set_cons_zero, List.set_cons_succ]
                          refine wpAnyH_ready (rs := [12]) (by kernel_rfl) (by simp) ?_
                          refine AllReadyH.cons (o := { dst := some 71, op := Op.call { callee := Callee.value (Operand.func 23), args := #[Operand.tmp 70], argTypes := #[30] }, type := 4, pos := "law.go:101", after := #[{ on := 11, ground := Ground.data }, { on := 6, ground := Ground.chain }, { on := 6, ground := Ground.guard }], guard := some (6, true) }) rfl (fun K hK => ?_) AllReadyH.nil
                          rw [if_pos (by rfl)]
                          go_simp
                          refine (refMatrix_is _ _ _ _ _ _ H2.out _ (by omega)).mono ?_
                          rintro e V2 ⟨rfl, hbe⟩
                          have hcum := hcum.trans (hbe.mono hcum.size)
                          refine hK.out _ _ hcum (fun _ => ?_)
                          clear hK hbe
                          try simp only [Act.put, List.setIfInBounds_toArray, List.set_cons_zero, List.set_cons_succ]
                          refine wpAnyH_take (i := 13) (oi := { dst := some 72, op := Op.pick (Operand.tmp 65) (Operand.tmp 71) (Operand.const (Value.bool false)), type := 4, pos := "law.go:101", after := #[{ on := 6, ground := Ground.data }, { on := 12, ground := Ground.data }], guard := none }) (v := ?_) rfl (by kernel_rfl) (by kernel_rfl) (by kernel_rfl) (fun _ _ _ h => h) (Or.inl ⟨by rfl, fun W' hW' => ?_⟩) hcum ?_
                          rotate_left 1
                          · go_simp
                            try rfl
                          try simp only [Act.put, List.setIfInBounds_toArray, List.set_cons_zero, List.set_cons_succ]
                          refine wpAnyH_take (i := 14) (oi := { dst := some 73, op := Op.move (Operand.tmp 72), type := 4, pos := "law.go:101", after := #[{ on := 13, ground := Ground.data }, { on := 12, ground := Ground.chain }], guard := none }) (v := ?_) rfl (by kernel_rfl) (by kernel_rfl) (by kernel_rfl) (fun _ _ _ h => h) (Or.inl ⟨by rfl, fun W' hW' => ?_⟩) hcum ?_
                          rotate_left 1
                          · go_simp
                            try rfl
                          try simp only [Act.put, List.setIfInBounds_toArray, List.set_cons_zero, List.set_cons_succ]
                          refine wpAnyH_take (i := 15) (oi := { dst := some 74, op := Op.fieldAddr 26 (Operand.tmp 1) 0, type := 0, pos := "law.go:101", after := #[{ on := 14, ground := Ground.guard }], guard := some (14, true) }) (v := ?_) rfl (by kernel_rfl) (by kernel_rfl) (by kernel_rfl) (fun _ _ _ h => h) (Or.inl ⟨by rfl, fun W' hW' => ?_⟩) hcum ?_
                          rotate_left 1
                          · go_simp
                            try rfl
                          try simp only [Act.put, List.setIfInBounds_toArray, List.set_cons_zero, List.set_cons_succ]
                          refine wpAnyH_take (i := 16) (oi := { dst := some 75, op := Op.load 22 (Operand.tmp 74), type := 22, pos := "law.go:101", after := #[{ on := 15, ground := Ground.data }, { on := 14, ground := Ground.guard }], guard := some (14, true) }) (v := ?_) rfl (by kernel_rfl) (by kernel_rfl) (by kernel_rfl) (fun _ _ _ h => h) (Or.inl ⟨by rfl, fun W' hW' => ?_⟩) hcum ?_
                          rotate_left 1
                          · (obtain ⟨a0, p0, p1, p2, q0, q1, q2⟩ := HSU.out W' hW'; go_simp)
                            try rfl
                          try simp only [Act.put, List.setIfInBounds_toArray, List.set_cons_zero, List.set_cons_succ]
                          refine wpAnyH_take (i := 17) (oi := { dst := some 76, op := Op.move (Operand.tmp 3), type := 3, pos := "law.go:101", after := #[{ on := 14, ground := Ground.guard }], guard := some (14, true) }) (v := ?_) rfl (by kernel_rfl) (by kernel_rfl) (by kernel_rfl) (fun _ _ _ h => h) (Or.inl ⟨by rfl, fun W' hW' => ?_⟩) hcum ?_
                          rotate_left 1
                          · go_simp
                            try rfl
                          try simp only [Act.put, List.setIfInBounds_toArray, List.set_cons_zero, List.set_cons_succ]
                          refine wpAnyH_take (i := 18) (oi := { dst := some 77, op := Op.indexAddr 22 (Operand.tmp 75) (Operand.tmp 76), type := 0, pos := "law.go:101", after := #[{ on := 16, ground := Ground.data }, { on := 17, ground := Ground.data }, { on := 14, ground := Ground.guard }], guard := some (14, true) }) (v := ?_) rfl (by kernel_rfl) (by kernel_rfl) (by kernel_rfl) (fun _ _ _ h => h) (Or.inl ⟨by rfl, fun W' hW' => ?_⟩) hcum ?_
                          rotate_left 1
                          · go_simp
                            try rfl
                          try simp only [Act.put, List.setIfInBounds_toArray, List.set_cons_zero, List.set_cons_succ]
                          refine wpAnyH_take (i := 19) (oi := { dst := some 78, op := Op.fieldAddr 30 (Operand.tmp 77) 1, type := 0, pos := "law.go:101", after := #[{ on := 18, ground := Ground.data }, { on := 14, ground := Ground.guard }], guard := some (14, true) }) (v := ?_) rfl (by kernel_rfl) (by kernel_rfl) (by kernel_rfl) (fun _ _ _ h => h) (Or.inl ⟨by rfl, fun W' hW' => ?_⟩) hcum ?_
                          rotate_left 1
                          · go_simp
                            try rfl
                          try simp only [Act.put, List.setIfInBounds_toArray, List.set_cons_zero, List.set_cons_succ]
                          refine wpAnyH_take (i := 20) (oi := { dst := some 79, op := Op.load 3 (Operand.tmp 78), type := 3, pos := "law.go:101", after := #[{ on := 19, ground := Ground.data }, { on := 14, ground := Ground.guard }], guard := some (14, true) }) (v := ?_) rfl (by kernel_rfl) (by kernel_rfl) (by kernel_rfl) (fun _ _ _ h => h) (Or.inl ⟨by rfl, fun W' hW' => ?_⟩) hcum ?_
                          rotate_left 1
                          · (obtain ⟨a0, p0, p1, p2, q0, q1, q2⟩ := HSU.out W' hW'; go_simp)
                            try rfl
                          try simp only [Act.put, List.setIfInBounds_toArray, List.set_cons_zero, List.set_cons_succ]
                          refine wpAnyH_take (i := 21) (oi := { dst := some 80, op := Op.fieldAddr 26 (Operand.tmp 1) 0, type := 0, pos := "law.go:101", after := #[{ on := 14, ground := Ground.guard }], guard := some (14, true) }) (v := ?_) rfl (by kernel_rfl) (by kernel_rfl) (by kernel_rfl) (fun _ _ _ h => h) (Or.inl ⟨by rfl, fun W' hW' => ?_⟩) hcum ?_
                          rotate_left 1
                          · go_simp
                            try rfl
                          try simp only [Act.put, List.setIfInBounds_toArray, List.set_cons_zero, List.set_cons_succ]
                          refine wpAnyH_take (i := 22) (oi := { dst := some 81, op := Op.load 22 (Operand.tmp 80), type := 22, pos := "law.go:101", after := #[{ on := 21, ground := Ground.data }, { on := 14, ground := Ground.guard }], guard := some (14, true) }) (v := ?_) rfl (by kernel_rfl) (by kernel_rfl) (by kernel_rfl) (fun _ _ _ h => h) (Or.inl ⟨by rfl, fun W' hW' => ?_⟩) hcum ?_
                          rotate_left 1
                          · (obtain ⟨a0, p0, p1, p2, q0, q1, q2⟩ := HSU.out W' hW'; go_simp)
                            try rfl
                          try simp only [Act.put, List.setIfInBounds_toArray, List.set_cons_zero, List.set_cons_succ]
                          refine wpAnyH_take (i := 23) (oi := { dst := some 82, op := Op.move (Operand.tmp 4), type := 3, pos := "law.go:101", after := #[{ on := 14, ground := Ground.guard }], guard := some (14, true) }) (v := ?_) rfl (by kernel_rfl) (by kernel_rfl) (by kernel_rfl) (fun _ _ _ h => h) (Or.inl ⟨by rfl, fun W' hW' => ?_⟩) hcum ?_
                          rotate_left 1
                          · go_simp
                            try rfl
                          try simp only [Act.put, List.setIfInBounds_toArray, List.set_cons_zero, List.set_cons_succ]
                          refine wpAnyH_take (i := 24) (oi := { dst := some 83, op := Op.indexAddr 22 (Operand.tmp 81) (Operand.tmp 82), type := 0, pos := "law.go:101", after := #[{ on := 22, ground := Ground.data }, { on := 23, ground := Ground.data }, { on := 14, ground := Ground.guard }], guard := some (14, true) }) (v := ?_) rfl (by kernel_rfl) (by kernel_rfl) (by kernel_rfl) (fun _ _ _ h => h) (Or.inl ⟨by rfl, fun W' hW' => ?_⟩) hcum ?_
                          rotate_left 1
                          · go_simp
                            try rfl
                          try simp only [Act.put, List.setIfInBounds_toArray, List.set_cons_zero, List.set_cons_succ]
                          refine wpAnyH_take (i := 25) (oi := { dst := some 84, op := Op.fieldAddr 30 (Operand.tmp 83) 0, type := 0, pos := "law.go:101", after := #[{ on := 24, ground := Ground.data }, { on := 14, ground := Ground.guard }], guard := some (14, true) }) (v := ?_) rfl (by kernel_rfl) (by kernel_rfl) (by kernel_rfl) (fun _ _ _ h => h) (Or.inl ⟨by rfl, fun W' hW' => ?_⟩) hcum ?_
                          rotate_left 1
                          · go_simp
                            try rfl
                          try simp only [Act.put, List.setIfInBounds_toArray, List.set_cons_zero, List.set_cons_succ]
                          refine wpAnyH_take (i := 26) (oi := { dst := some 85, op := Op.load 3 (Operand.tmp 84), type := 3, pos := "law.go:101", after := #[{ on := 25, ground := Ground.data }, { on := 14, ground := Ground.guard }], guard := some (14, true) }) (v := ?_) rfl (by kernel_rfl) (by kernel_rfl) (by kernel_rfl) (fun _ _ _ h => h) (Or.inl ⟨by rfl, fun W' hW' => ?_⟩) hcum ?_
                          rotate_left 1
                          · (obtain ⟨a0, p0, p1, p2, q0, q1, q2⟩ := HSU.out W' hW'; go_simp)
                            try rfl
                          try simp only [Act.put, List.setIfInBounds_toArray, List.set_cons_zero, List.set_cons_succ]
                          refine wpAnyH_take (i := 27) (oi := { dst := some 86, op := Op.binOp BinOp.eql 3 (Operand.tmp 79) (Operand.tmp 85) 3, type := 4, pos := "law.go:101", after := #[{ on := 20, ground := Ground.data }, { on := 26, ground := Ground.data }, { on := 14, ground := Ground.guard }], guard := some (14, true) }) (v := ?_) rfl (by kernel_rfl) (by kernel_rfl) (by kernel_rfl) (fun _ _ _ h => h) (Or.inl ⟨by rfl, fun W' hW' => ?_⟩) hcum ?_
                          rotate_left 1
                          · go_simp
                            try rfl
                          try simp only [Act.put, List.setIfInBounds_toArray, List.set_cons_zero, List.set_cons_succ]
                          refine wpAnyH_take (i := 28) (oi := { dst := some 87, op := Op.pick (Operand.tmp 73) (Operand.tmp 86) (Operand.const (Value.bool false)), type := 4, pos := "law.go:101", after := #[{ on := 14, ground := Ground.data }, { on := 27, ground := Ground.data }], guard := none }) (v := ?_) rfl (by kernel_rfl) (by kernel_rfl) (by kernel_rfl) (fun _ _ _ h => h) (Or.inl ⟨by rfl, fun W' hW' => ?_⟩) hcum ?_
                          rotate_left 1
                          · go_simp
                            try rfl
                          try simp only [Act.put, List.setIfInBounds_toArray, List.set_cons_zero, List.set_cons_succ]
                          refine wpAnyH_done (by kernel_rfl) ?_ _
                          go_wp2_with fail
                          go_meet
                          exact ⟨by rw [HKF.out], Lib.hid hcum⟩
                case rest =>
                  obtain ⟨rfl, HBx⟩ := hcut
                  have HBc := Lib.hid (HB0.out.trans (HBx.out.mono HB0.out.size))
                  have T10c := Lib.hid (T10.out.below HBx.out)
                  have HVA7 := Lib.hid (HVA.out.below HB7.out)
                  have HVB7 := Lib.hid (HVB.out.below HB7.out)
                  have hs10c : W7.heap.size < wc.heap.size := Nat.lt_of_lt_of_le hs10 HBx.out.size
                  clear a0 p0 p1 p2 q0 q1 q2 hs10 HSU HB0 T10
                  go_upto_if 87 with (fail)
                  go_cut [9] from 87 to 98 (fun e9 wx => e9 = .int .i64 mE ∧ ∃ Aw kw, Three wx W7.heap.size (.int .i64 mR) (.int .i64 mC) (.slice Aw mX.length kw) ∧ BytesV wx (.slice Aw mX.length kw) mX ∧ Hid (Below W7.heap.size W7 wx))
                  case first =>
                    as_aux_lemma =>
                      cases kk
                      · have e1 : mX = [] := HMX.out
                        have e2 : mR = 0 := HMR.out
                        have e3 : mC = 0 := HMC.out
                        have e4 : mE = 1 := HME.out
                        subst e1 e2 e3 e4
                        go_wp2_with fail
                        go_meet
                        exact ⟨rfl, none, 0, T10c.out, bytesV_nil _ _ _, HBc⟩
                      · obtain ⟨m1, m2, e⟩ := mulK_yes HKK.out.symm
                        obtain ⟨r, cc, rfl, rfl, r1, r16, c1', c16, hrc⟩ := mayM_yes m1
                        subst e
                        obtain ⟨r', cb, e, rfl, q1', q16, b1, b16, hrb⟩ := mayM_yes m2
                        obtain rfl : r' = cc := by omega
                        have HRC := Lib.hid hrc
                        have HRB := Lib.hid hrb
                        clear e m1 m2 hrc hrb
                        have e1 : mX = timesL ms ns r r' cb := HMX.out
                        have e2 : mR = (r : Int) := HMR.out
                        have e3 : mC = (cb : Int) := HMC.out
                        have e4 : mE = 0 := HME.out
                        subst e1 e2 e3 e4
                        go_upto_region 14 with (fail)
                        refine wp_region_held (S := fun W' => Below W7.heap.size W7 W') (by kernel_rfl) ?_
                        change wpAnyH _ _ _ _ _ 13 _ _ wc.drew
                        have hcum := HBc.out.drew
                        have tq := T10c.out.below (Below.refl wc.heap.size wc).drew
                        have hs10c : W7.heap.size < wc.drew.heap.size := hs10c
                        generalize wc.drew = V0 at *
                        refine wpAnyH_take (i := 0) (oi := { dst := some 88, op := Op.fieldAddr 26 (Operand.tmp 1) 0, type := 0, pos := "law.go:102", after := #[], guard := none }) (v := ?_) rfl (by kernel_rfl) (by kernel_rfl) (by kernel_rfl) (fun _ _ _ h => h) (Or.inl ⟨by rfl, fun W' hW' => ?_⟩) hcum ?_
                        rotate_left 1
                        · go_simp
                          try rfl
                        try simp only [Act.put, List.setIfInBounds_toArray, List.set_cons_zero, List.set_cons_succ]
                        refine wpAnyH_take (i := 1) (oi := { dst := some 89, op := Op.load 22 (Operand.tmp 88), type := 22, pos := "law.go:102", after := #[{ on := 0, ground := Ground.data }], guard := none }) (v := ?_) rfl (by kernel_rfl) (by kernel_rfl) (by kernel_rfl) (fun _ _ _ h => h) (Or.inl ⟨by rfl, fun W' hW' => ?_⟩) hcum ?_
                        rotate_left 1
                        · (obtain ⟨a0, p0, p1, p2, q0, q1, q2⟩ := HS.out W' hW'; go_simp)
                          try rfl
                        try simp only [Act.put, List.setIfInBounds_toArray, List.set_cons_zero, List.set_cons_succ]
                        refine wpAnyH_take (i := 2) (oi := { dst := some 90, op := Op.move (Operand.tmp 3), type := 3, pos := "law.go:102", after := #[], guard := none }) (v := ?_) rfl (by kernel_rfl) (by kernel_rfl) (by kernel_rfl) (fun _ _ _ h => h) (Or.inl ⟨by rfl, fun W' hW' => ?_⟩) hcum ?_
                        rotate_left 1
                        · go_simp
                          try rfl
                        try simp only [Act.put, List.setIfInBounds_toArray, List.set_cons_zero, List.set_cons_succ]
                        refine wpAnyH_take (i := 3) (oi := { dst := some 91, op := Op.indexAddr 22 (Operand.tmp 89) (Operand.tmp 90), type := 0, pos := "law.go:102", after := #[{ on := 1, ground := Ground.data }, { on := 2, ground := Ground.data }], guard := none }) (v := ?_) rfl (by kernel_rfl) (by kernel_rfl) (by kernel_rfl) (fun _ _ _ h => h) (Or.inl ⟨by rfl, fun W' hW' => ?_⟩) hcum ?_
                        rotate_left 1
                        · go_simp
                          try rfl
                        try simp only [Act.put, List.setIfInBounds_toArray, List.set_cons_zero, List.set_cons_succ]
                        refine wpAnyH_take (i := 4) (oi := { dst := some 92, op := Op.load 30 (Operand.tmp 91), type := 30, pos := "law.go:102", after := #[{ on := 3, ground := Ground.data }], guard := none }) (v := ?_) rfl (by kernel_rfl) (by kernel_rfl) (by kernel_rfl) (fun _ _ _ h => h) (Or.inl ⟨by rfl, fun W' hW' => ?_⟩) hcum ?_
                        rotate_left 1
                        · (obtain ⟨a0, p0, p1, p2, q0, q1, q2⟩ := HS.out W' hW'; go_simp)
                          try rfl
                        try simp only [Act.put, List.setIfInBounds_toArray, List.set_cons_zero, List.set_cons_succ]
                        refine wpAnyH_take (i := 5) (oi := { dst := some 93, op := Op.fieldAddr 26 (Operand.tmp 1) 0, type := 0, pos := "law.go:102", after := #[], guard := none }) (v := ?_) rfl (by kernel_rfl) (by kernel_rfl) (by kernel_rfl) (fun _ _ _ h => h) (Or.inl ⟨by rfl, fun W' hW' => ?_⟩) hcum ?_
                        rotate_left 1
                        · go_simp
                          try rfl
                        try simp only [Act.put, List.setIfInBounds_toArray, List.set_cons_zero, List.set_cons_succ]
                        refine wpAnyH_take (i := 6) (oi := { dst := some 94, op := Op.load 22 (Operand.tmp 93), type := 22, pos := "law.go:102", after := #[{ on := 5, ground := Ground.data }], guard := none }) (v := ?_) rfl (by kernel_rfl) (by kernel_rfl) (by kernel_rfl) (fun _ _ _ h => h) (Or.inl ⟨by rfl, fun W' hW' => ?_⟩) hcum ?_
                        rotate_left 1
                        · (obtain ⟨a0, p0, p1, p2, q0, q1, q2⟩ := HS.out W' hW'; go_simp)
                          try rfl
                        try simp only [Act.put, List.setIfInBounds_toArray, List.set_cons_zero, List.set_cons_succ]
                        refine wpAnyH_take (i := 7) (oi := { dst := some 95, op := Op.move (Operand.tmp 4), type := 3, pos := "law.go:102", after := #[], guard := none }) (v := ?_) rfl (by kernel_rfl) (by kernel_rfl) (by kernel_rfl) (fun _ _ _ h => h) (Or.inl ⟨by rfl, fun W' hW' => ?_⟩) hcum ?_
                        rotate_left 1
                        · go_simp
                          try rfl
                        try simp only [Act.put, List.setIfInBounds_toArray, List.set_cons_zero, List.set_cons_succ]
                        refine wpAnyH_take (i := 8) (oi := { dst := some 96, op := Op.indexAddr 22 (Operand.tmp 94) (Operand.tmp 95), type := 0, pos := "law.go:102", after := #[{ on := 6, ground := Ground.data }, { on := 7, ground := Ground.data }], guard := none }) (v := ?_) rfl (by kernel_rfl) (by kernel_rfl) (by kernel_rfl) (fun _ _ _ h => h) (Or.inl ⟨by rfl, fun W' hW' => ?_⟩) hcum ?_
                        rotate_left 1
                        · go_simp
                          try rfl
                        try simp only [Act.put, List.setIfInBounds_toArray, List.set_cons_zero, List.set_cons_succ]
                        refine wpAnyH_take (i := 9) (oi := { dst := some 97, op := Op.load 30 (Operand.tmp 96), type := 30, pos := "law.go:102", after := #[{ on := 8, ground := Ground.data }], guard := none }) (v := ?_) rfl (by kernel_rfl) (by kernel_rfl) (by kernel_rfl) (fun _ _ _ h => h) (Or.inl ⟨by rfl, fun W' hW' => ?_⟩) hcum ?_
                        rotate_left 1
                        · (obtain ⟨a0, p0, p1, p2, q0, q1, q2⟩ := HS.out W' hW'; go_simp)
                          try rfl
                        try simp only [Act.put, List.setIfInBounds_toArray, List.set_cons_zero, List.set_cons_succ]
                        refine wpAnyH_ready (rs := [10]) (by kernel_rfl) (by simp) ?_
                        refine AllReadyH.cons (o := { dst := some 98, op := Op.call { callee := Callee.value (Operand.func 17), args := #[Operand.tmp 92, Operand.tmp 97], argTypes := #[30, 30] }, type := 30, pos := "law.go:102", after := #[{ on := 4, ground := Ground.data }, { on := 9, ground := Ground.data }], guard := none }) rfl (fun K hK => ?_) AllReadyH.nil
                        rw [if_pos (by rfl)]
                        go_simp
                        have HC := refTimes_any r r' cb (.slice A1 ms.length c1) (.slice A2 ns.length c2) ms ns V0 (HVA7.out.below hcum) (HVB7.out.below hcum) HRC.out HRB.out r1 r16 c1' c16 b1 b16
                        unfold matV at HC
                        with_reducible refine HC.mono ?_
                        rintro e V1 ⟨v, rfl, ⟨Z, hZ1, hZ2, rfl, hblk, hlen⟩, hbe⟩
                        clear hlen
                        have tq := tq.below hbe
                        have hs10c := Nat.lt_of_lt_of_le hs10c hbe.size
                        obtain ⟨u0, u1, u2, u3, u4, u5⟩ := id tq
                        unfold matV
                        have hcum := hcum.trans (hbe.mono hcum.size)
                        refine hK.out _ _ hcum (fun _ => ?_)
                        clear hK hbe
                        try simp only [Act.put, List.setIfInBounds_toArray, List.set_cons_zero, List.set_cons_succ]
                        refine wpAnyH_take (i := 11) (oi := { dst := some 9, op := Op.assign (Operand.const (Value.int IntKind.i64 0)), type := 3, pos := "law.go:102", after := #[{ on := 10, ground := Ground.chain }, { on := 0, ground := Ground.textOnly Departure.lateStores }, { on := 1, ground := Ground.textOnly Departure.lateStores }, { on := 2, ground := Ground.textOnly Departure.lateStores }, { on := 3, ground := Ground.textOnly Departure.lateStores }, { on := 4, ground := Ground.textOnly Departure.lateStores }, { on := 5, ground := Ground.textOnly Departure.lateStores }, { on := 6, ground := Ground.textOnly Departure.lateStores }, { on := 7, ground := Ground.textOnly Departure.lateStores }, { on := 8, ground := Ground.textOnly Departure.lateStores }, { on := 9, ground := Ground.textOnly Departure.lateStores }, { on := 10, ground := Ground.textOnly Departure.lateStoresUnsure }], guard := none }) (v := ?_) rfl (by kernel_rfl) (by kernel_rfl) (by kernel_rfl) (fun _ _ _ h => h) (Or.inl ⟨by rfl, fun W' hW' => ?_⟩) hcum ?_
                        rotate_left 1
                        · go_simp
                          try rfl
                        try simp only [Act.put, List.setIfInBounds_toArray, List.set_cons_zero, List.set_cons_succ]
                        refine wpAnyH_ready (rs := [12]) (by kernel_rfl) (by simp) ?_
                        refine AllReadyH.cons (o := { dst := none, op := Op.store 30 (Operand.tmp 10) (Operand.tmp 98), type := 0, pos := "law.go:102", after := #[{ on := 10, ground := Ground.data }, { on := 11, ground := Ground.chain }, { on := 0, ground := Ground.phase }, { on := 1, ground := Ground.phase }, { on := 2, ground := Ground.phase }, { on := 3, ground := Ground.phase }, { on := 4, ground := Ground.phase }, { on := 5, ground := Ground.phase }, { on := 6, ground := Ground.phase }, { on := 7, ground := Ground.phase }, { on := 8, ground := Ground.phase }, { on := 9, ground := Ground.phase }, { on := 10, ground := Ground.phase }, { on := 11, ground := Ground.phase }], guard := none }) rfl (fun K hK => ?_) AllReadyH.nil
                        rw [if_pos (by rfl)]
                        go_simp
                        clear u0 u1 u2 u3 u4 u5
                        have tq := three_put tq (.int .i64 (r : Int)) (.int .i64 (cb : Int)) (.slice (some ⟨Z, 0, none⟩) (r * cb) (r * cb))
                        have hblk := blk_cell (blk_cell (blk_cell hblk (d := ⟨W7.heap.size, 0, none⟩) (u := .int .i64 (r : Int)) (by dsimp only; omega)) (d := ⟨W7.heap.size, 1, none⟩) (u := .int .i64 (cb : Int)) (by dsimp only; omega)) (d := ⟨W7.heap.size, 2, none⟩) (u := .slice (some ⟨Z, 0, none⟩) (r * cb) (r * cb)) (by dsimp only; omega)
                        have hcum := ((hcum.setCell (p := ⟨W7.heap.size, 0, none⟩) (Nat.le_refl _) (.int .i64 (r : Int))).setCell (p := ⟨W7.heap.size, 1, none⟩) (Nat.le_refl _) (.int .i64 (cb : Int))).setCell (p := ⟨W7.heap.size, 2, none⟩) (Nat.le_refl _) (.slice (some ⟨Z, 0, none⟩) (r * cb) (r * cb))
                        have hZ2 : Z < (((V1.setCell ⟨W7.heap.size, 0, none⟩ (.int .i64 (r : Int))).setCell ⟨W7.heap.size, 1, none⟩ (.int .i64 (cb : Int))).setCell ⟨W7.heap.size, 2, none⟩ (.slice (some ⟨Z, 0, none⟩) (r * cb) (r * cb))).heap.size := by simp only [World.size_setCell]; exact hZ2
                        refine hK.out _ _ hcum (fun _ => ?_)
                        clear hK
                        generalize (((V1.setCell ⟨W7.heap.size, 0, none⟩ (.int .i64 (r : Int))).setCell ⟨W7.heap.size, 1, none⟩ (.int .i64 (cb : Int))).setCell ⟨W7.heap.size, 2, none⟩ (.slice (some ⟨Z, 0, none⟩) (r * cb) (r * cb))) = V2 at *
                        try simp only [Act.put, List.setIfInBounds_toArray, List.set_cons_zero, List.set_cons_succ]
                        refine wpAnyH_done (by kernel_rfl) ?_ _
                        go_wp2_with fail
                        go_meet
                        refine ⟨rfl, some ⟨Z, 0, none⟩, r * cb, ?_, ?_, Lib.hid hcum⟩
                        · rw [timesL_length]; exact tq
                        · exact BytesV.of_blk hblk hZ2
                  case rest =>
                    obtain ⟨wd, rfl⟩ : ∃ wd : World, wd = wc := ⟨_, rfl⟩
                    obtain ⟨rfl, Aw, kw, tw, bw, HBd⟩ := hcut
                    have HTW := Lib.hid tw
                    have HXwc := Lib.hid bw
                    have HBr := Lib.hid (HB7.out.trans (HBd.out.mono HB7.out.size))
                    have T5c := Lib.hid (T5.out.below HBd.out)
                    have T6c := Lib.hid (T6.out.below HBd.out)
                    have T7c := Lib.hid (T7.out.below HBd.out)
                    have HX5c := Lib.hid (HX5.out.below HBd.out)
                    have HX6c := Lib.hid (HX6.out.below HBd.out)
                    have HX7c := Lib.hid (HX7.out.below HBd.out)
                    have HVAc := Lib.hid (HVA.out.below HBr.out)
                    have HVBc := Lib.hid (HVB.out.below HBr.out)
                    have HFd := Lib.hid (fun W' (h : Below wd.heap.size wd W') => HF.out W' (cum2 HBr.out h))
                    have HLD := Lib.hid (fun W' (h : Below wd.heap.size wd W') => And.intro (HFd.out W' h) (And.intro (T5c.out.below h) (And.intro (T6c.out.below h) (And.intro (T7c.out.below h) (HTW.out.below h)))))
                    have hmx3 : mX.length ≤ 9000000000000000000 := by
                      rw [HMX.out]; cases kk with
                        | false => simp [mulX]
                        | true =>
                          obtain ⟨m1, m2, e⟩ := mulK_yes HKK.out.symm
                          subst e
                          have := mulX_len true HKK.out
                          omega
                    clear tw bw HBc T10c HVA7 HVB7 hs10c T5 T6 T7 HX5 HX6 HX7 HF HFd HS HVA HVB HB7
                    go_upto_region 15 with (fail)
                    go_cut [128] from 99 to 128 (fun c wx => c = .bool false ∧ Hid (Below wd.heap.size wd wx))
                    case first =>
                      as_aux_lemma =>
                        refine wp_region_held (S := fun W' => Below wd.heap.size wd W') (by kernel_rfl) ?_
                        change wpAnyH _ _ _ _ _ 30 _ _ wd.drew
                        have hcum := (Below.refl wd.heap.size wd).drew
                        generalize wd.drew = V0 at *
                        refine wpAnyH_take (i := 0) (oi := { dst := some 99, op := Op.move (Operand.tmp 8), type := 32, pos := "law.go:104", after := #[], guard := none }) (v := ?_) rfl (by kernel_rfl) (by kernel_rfl) (by kernel_rfl) (fun _ _ _ h => h) (Or.inl ⟨by rfl, fun W' hW' => ?_⟩) hcum ?_
                        rotate_left 1
                        · go_simp
                          try rfl
                        try simp only [Act.put, List.setIfInBounds_toArray, List.set_cons_zero, List.set_cons_succ]
                        refine wpAnyH_take (i := 2) (oi := { dst := some 101, op := Op.move (Operand.tmp 9), type := 3, pos := "law.go:104", after := #[], guard := none }) (v := ?_) rfl (by kernel_rfl) (by kernel_rfl) (by kernel_rfl) (fun _ _ _ h => h) (Or.inl ⟨by rfl, fun W' hW' => ?_⟩) hcum ?_
                        rotate_left 1
                        · go_simp
                          try rfl
                        try simp only [Act.put, List.setIfInBounds_toArray, List.set_cons_zero, List.set_cons_succ]
                        refine wpAnyH_ready (rs := [1]) (by kernel_rfl) (by simp) ?_
                        refine AllReadyH.cons (o := { dst := some 100, op := Op.call { callee := Callee.value (Operand.func 13), args := #[Operand.tmp 99], argTypes := #[32] }, type := 3, pos := "law.go:104", after := #[{ on := 0, ground := Ground.data }], guard := none }) rfl (fun K hK => ?_) AllReadyH.nil
                        rw [if_pos (by rfl)]
                        go_simp
                        refine (num3_any _ _).mono ?_
                        rintro e V1 ⟨rfl, hVV⟩
                        have hbe : Below V0.heap.size V0 V1 := hVV ▸ Below.refl _ _
                        clear hVV
                        have hcum := hcum.trans (hbe.mono hcum.size)
                        refine hK.out _ _ hcum (fun _ => ?_)
                        clear hK hbe
                        try simp only [Act.put, List.setIfInBounds_toArray, List.set_cons_zero, List.set_cons_succ]
                        refine wpAnyH_take (i := 3) (oi := { dst := some 102, op := Op.binOp BinOp.neq 3 (Operand.tmp 100) (Operand.tmp 101) 3, type := 4, pos := "law.go:104", after := #[{ on := 1, ground := Ground.data }, { on := 2, ground := Ground.data }], guard := none }) (v := ?_) rfl (by kernel_rfl) (by kernel_rfl) (by kernel_rfl) (fun _ _ _ h => h) (Or.inl ⟨by rfl, fun W' hW' => ?_⟩) hcum ?_
                        rotate_left 1
                        · go_simp
                          try rfl
                        try simp only [Act.put, List.setIfInBounds_toArray, List.set_cons_zero, List.set_cons_succ]
                        refine wpAnyH_take (i := 4) (oi := { dst := some 103, op := Op.move (Operand.tmp 102), type := 4, pos := "law.go:104", after := #[{ on := 3, ground := Ground.data }, { on := 1, ground := Ground.chain }], guard := none }) (v := ?_) rfl (by kernel_rfl) (by kernel_rfl) (by kernel_rfl) (fun _ _ _ h => h) (Or.inl ⟨by rfl, fun W' hW' => ?_⟩) hcum ?_
                        rotate_left 1
                        · go_simp
                          try rfl
                        try simp only [Act.put, List.setIfInBounds_toArray, List.set_cons_zero, List.set_cons_succ]
                        refine wpAnyH_take (i := 5) (oi := { dst := some 104, op := Op.load 30 (Operand.tmp 7), type := 30, pos := "law.go:104", after := #[{ on := 4, ground := Ground.guard }], guard := some (4, false) }) (v := ?_) rfl (by kernel_rfl) (by kernel_rfl) (by kernel_rfl) (fun _ _ _ h => h) (Or.inl ⟨by rfl, fun W' hW' => ?_⟩) hcum ?_
                        rotate_left 1
                        · (obtain ⟨⟨a0, p0, p1, p2, q0, q1, q2⟩, ⟨x0, x1, x2, _, _, _⟩, ⟨y0, y1, y2, _, _, _⟩, ⟨z0, z1, z2, _, _, _⟩, ⟨v0, v1, v2, _, _, _⟩⟩ := HLD.out W' hW'; go_simp)
                          try rfl
                        try simp only [Act.put, List.setIfInBounds_toArray, List.set_cons_zero, List.set_cons_succ]
                        refine wpAnyH_take (i := 6) (oi := { dst := some 105, op := Op.load 30 (Operand.tmp 10), type := 30, pos := "law.go:104", after := #[{ on := 4, ground := Ground.guard }], guard := some (4, false) }) (v := ?_) rfl (by kernel_rfl) (by kernel_rfl) (by kernel_rfl) (fun _ _ _ h => h) (Or.inl ⟨by rfl, fun W' hW' => ?_⟩) hcum ?_
                        rotate_left 1
                        · (obtain ⟨⟨a0, p0, p1, p2, q0, q1, q2⟩, ⟨x0, x1, x2, _, _, _⟩, ⟨y0, y1, y2, _, _, _⟩, ⟨z0, z1, z2, _, _, _⟩, ⟨v0, v1, v2, _, _, _⟩⟩ := HLD.out W' hW'; go_simp)
                          try rfl
                        try simp only [Act.put, List.setIfInBounds_toArray, List.set_cons_zero, List.set_cons_succ]
                        refine wpAnyH_ready (rs := [7]) (by kernel_rfl) (by simp) ?_
                        refine AllReadyH.cons (o := { dst := some 106, op := Op.call { callee := Callee.value (Operand.func 14), args := #[Operand.tmp 104, Operand.tmp 105], argTypes := #[30, 30] }, type := 4, pos := "law.go:104", after := #[{ on := 5, ground := Ground.data }, { on := 6, ground := Ground.data }, { on := 4, ground := Ground.chain }, { on := 4, ground := Ground.guard }], guard := some (4, false) }) rfl (fun K hK => ?_) AllReadyH.nil
                        rw [if_pos (by rfl)]
                        go_simp
                        have HC := eqMatrix_yes mR mC (.slice Al mX.length kl) (.slice Aw mX.length kw) mX V1 (HX7c.out.below hcum) (HXwc.out.below hcum) hmx3
                        unfold matV at HC
                        with_reducible refine HC.mono ?_
                        rintro e V2 ⟨rfl, hbe⟩
                        clear HC
                        have hcum := hcum.trans (hbe.mono hcum.size)
                        refine hK.out _ _ hcum (fun _ => ?_)
                        clear hK hbe
                        try simp only [Act.put, List.setIfInBounds_toArray, List.set_cons_zero, List.set_cons_succ]
                        refine wpAnyH_take (i := 8) (oi := { dst := some 107, op := Op.unOp UnOp.not 4 (Operand.tmp 106), type := 4, pos := "law.go:104", after := #[{ on := 7, ground := Ground.data }, { on := 4, ground := Ground.guard }], guard := some (4, false) }) (v := ?_) rfl (by kernel_rfl) (by kernel_rfl) (by kernel_rfl) (fun _ _ _ h => h) (Or.inl ⟨by rfl, fun W' hW' => ?_⟩) hcum ?_
                        rotate_left 1
                        · go_simp
                          try rfl
                        try simp only [Act.put, List.setIfInBounds_toArray, List.set_cons_zero, List.set_cons_succ]
                        refine wpAnyH_take (i := 9) (oi := { dst := some 108, op := Op.pick (Operand.tmp 103) (Operand.const (Value.bool true)) (Operand.tmp 107), type := 4, pos := "law.go:104", after := #[{ on := 4, ground := Ground.data }, { on := 8, ground := Ground.data }], guard := none }) (v := ?_) rfl (by kernel_rfl) (by kernel_rfl) (by kernel_rfl) (fun _ _ _ h => h) (Or.inl ⟨by rfl, fun W' hW' => ?_⟩) hcum ?_
                        rotate_left 1
                        · go_simp
                          try rfl
                        try simp only [Act.put, List.setIfInBounds_toArray, List.set_cons_zero, List.set_cons_succ]
                        refine wpAnyH_take (i := 10) (oi := { dst := some 109, op := Op.move (Operand.tmp 108), type := 4, pos := "law.go:104", after := #[{ on := 9, ground := Ground.data }, { on := 7, ground := Ground.chain }], guard := none }) (v := ?_) rfl (by kernel_rfl) (by kernel_rfl) (by kernel_rfl) (fun _ _ _ h => h) (Or.inl ⟨by rfl, fun W' hW' => ?_⟩) hcum ?_
                        rotate_left 1
                        · go_simp
                          try rfl
                        try simp only [Act.put, List.setIfInBounds_toArray, List.set_cons_zero, List.set_cons_succ]
                        refine wpAnyH_take (i := 11) (oi := { dst := some 110, op := Op.load 30 (Operand.tmp 5), type := 30, pos := "law.go:104", after := #[{ on := 10, ground := Ground.guard }], guard := some (10, false) }) (v := ?_) rfl (by kernel_rfl) (by kernel_rfl) (by kernel_rfl) (fun _ _ _ h => h) (Or.inl ⟨by rfl, fun W' hW' => ?_⟩) hcum ?_
                        rotate_left 1
                        · (obtain ⟨⟨a0, p0, p1, p2, q0, q1, q2⟩, ⟨x0, x1, x2, _, _, _⟩, ⟨y0, y1, y2, _, _, _⟩, ⟨z0, z1, z2, _, _, _⟩, ⟨v0, v1, v2, _, _, _⟩⟩ := HLD.out W' hW'; go_simp)
                          try rfl
                        try simp only [Act.put, List.setIfInBounds_toArray, List.set_cons_zero, List.set_cons_succ]
                        refine wpAnyH_take (i := 12) (oi := { dst := some 111, op := Op.fieldAddr 26 (Operand.tmp 1) 0, type := 0, pos := "law.go:104", after := #[{ on := 10, ground := Ground.guard }], guard := some (10, false) }) (v := ?_) rfl (by kernel_rfl) (by kernel_rfl) (by kernel_rfl) (fun _ _ _ h => h) (Or.inl ⟨by rfl, fun W' hW' => ?_⟩) hcum ?_
                        rotate_left 1
                        · go_simp
                          try rfl
                        try simp only [Act.put, List.setIfInBounds_toArray, List.set_cons_zero, List.set_cons_succ]
                        refine wpAnyH_take (i := 13) (oi := { dst := some 112, op := Op.load 22 (Operand.tmp 111), type := 22, pos := "law.go:104", after := #[{ on := 12, ground := Ground.data }, { on := 10, ground := Ground.guard }], guard := some (10, false) }) (v := ?_) rfl (by kernel_rfl) (by kernel_rfl) (by kernel_rfl) (fun _ _ _ h => h) (Or.inl ⟨by rfl, fun W' hW' => ?_⟩) hcum ?_
                        rotate_left 1
                        · (obtain ⟨⟨a0, p0, p1, p2, q0, q1, q2⟩, ⟨x0, x1, x2, _, _, _⟩, ⟨y0, y1, y2, _, _, _⟩, ⟨z0, z1, z2, _, _, _⟩, ⟨v0, v1, v2, _, _, _⟩⟩ := HLD.out W' hW'; go_simp)
                          try rfl
                        try simp only [Act.put, List.setIfInBounds_toArray, List.set_cons_zero, List.set_cons_succ]
                        refine wpAnyH_take (i := 14) (oi := { dst := some 113, op := Op.move (Operand.tmp 3), type := 3, pos := "law.go:104", after := #[{ on := 10, ground := Ground.guard }], guard := some (10, false) }) (v := ?_) rfl (by kernel_rfl) (by kernel_rfl) (by kernel_rfl) (fun _ _ _ h => h) (Or.inl ⟨by rfl, fun W' hW' => ?_⟩) hcum ?_
                        rotate_left 1
                        · go_simp
                          try rfl
                        try simp only [Act.put, List.setIfInBounds_toArray, List.set_cons_zero, List.set_cons_succ]
                        refine wpAnyH_take (i := 15) (oi := { dst := some 114, op := Op.indexAddr 22 (Operand.tmp 112) (Operand.tmp 113), type := 0, pos := "law.go:104", after := #[{ on := 13, ground := Ground.data }, { on := 14, ground := Ground.data }, { on := 10, ground := Ground.guard }], guard := some (10, false) }) (v := ?_) rfl (by kernel_rfl) (by kernel_rfl) (by kernel_rfl) (fun _ _ _ h => h) (Or.inl ⟨by rfl, fun W' hW' => ?_⟩) hcum ?_
                        rotate_left 1
                        · go_simp
                          try rfl
                        try simp only [Act.put, List.setIfInBounds_toArray, List.set_cons_zero, List.set_cons_succ]
                        refine wpAnyH_take (i := 16) (oi := { dst := some 115, op := Op.load 30 (Operand.tmp 114), type := 30, pos := "law.go:104", after := #[{ on := 15, ground := Ground.data }, { on := 10, ground := Ground.guard }], guard := some (10, false) }) (v := ?_) rfl (by kernel_rfl) (by kernel_rfl) (by kernel_rfl) (fun _ _ _ h => h) (Or.inl ⟨by rfl, fun W' hW' => ?_⟩) hcum ?_
                        rotate_left 1
                        · (obtain ⟨⟨a0, p0, p1, p2, q0, q1, q2⟩, ⟨x0, x1, x2, _, _, _⟩, ⟨y0, y1, y2, _, _, _⟩, ⟨z0, z1, z2, _, _, _⟩, ⟨v0, v1, v2, _, _, _⟩⟩ := HLD.out W' hW'; go_simp)
                          try rfl
                        try simp only [Act.put, List.setIfInBounds_toArray, List.set_cons_zero, List.set_cons_succ]
                        refine wpAnyH_ready (rs := [17]) (by kernel_rfl) (by simp) ?_
                        refine AllReadyH.cons (o := { dst := some 116, op := Op.call { callee := Callee.value (Operand.func 14), args := #[Operand.tmp 110, Operand.tmp 115], argTypes := #[30, 30] }, type := 4, pos := "law.go:104", after := #[{ on := 11, ground := Ground.data }, { on := 16, ground := Ground.data }, { on := 10, ground := Ground.chain }, { on := 10, ground := Ground.guard }], guard := some (10, false) }) rfl (fun K hK => ?_) AllReadyH.nil
                        rw [if_pos (by rfl)]
                        go_simp
                        have HC := eqMatrix_yes Ra Ca (.slice A3 ms.length c3) (.slice A1 ms.length c1) ms V2 (HX5c.out.below hcum) (HVAc.out.below hcum) (by omega)
                        unfold matV at HC
                        with_reducible refine HC.mono ?_
                        rintro e V3 ⟨rfl, hbe⟩
                        clear HC
                        have hcum := hcum.trans (hbe.mono hcum.size)
                        refine hK.out _ _ hcum (fun _ => ?_)
                        clear hK hbe
                        try simp only [Act.put, List.setIfInBounds_toArray, List.set_cons_zero, List.set_cons_succ]
                        refine wpAnyH_take (i := 18) (oi := { dst := some 117, op := Op.unOp UnOp.not 4 (Operand.tmp 116), type := 4, pos := "law.go:104", after := #[{ on := 17, ground := Ground.data }, { on := 10, ground := Ground.guard }], guard := some (10, false) }) (v := ?_) rfl (by kernel_rfl) (by kernel_rfl) (by kernel_rfl) (fun _ _ _ h => h) (Or.inl ⟨by rfl, fun W' hW' => ?_⟩) hcum ?_
                        rotate_left 1
                        · go_simp
                          try rfl
                        try simp only [Act.put, List.setIfInBounds_toArray, List.set_cons_zero, List.set_cons_succ]
                        refine wpAnyH_take (i := 19) (oi := { dst := some 118, op := Op.pick (Operand.tmp 109) (Operand.const (Value.bool true)) (Operand.tmp 117), type := 4, pos := "law.go:104", after := #[{ on := 10, ground := Ground.data }, { on := 18, ground := Ground.data }], guard := none }) (v := ?_) rfl (by kernel_rfl) (by kernel_rfl) (by kernel_rfl) (fun _ _ _ h => h) (Or.inl ⟨by rfl, fun W' hW' => ?_⟩) hcum ?_
                        rotate_left 1
                        · go_simp
                          try rfl
                        try simp only [Act.put, List.setIfInBounds_toArray, List.set_cons_zero, List.set_cons_succ]
                        refine wpAnyH_take (i := 20) (oi := { dst := some 119, op := Op.move (Operand.tmp 118), type := 4, pos := "law.go:104", after := #[{ on := 19, ground := Ground.data }, { on := 17, ground := Ground.chain }], guard := none }) (v := ?_) rfl (by kernel_rfl) (by kernel_rfl) (by kernel_rfl) (fun _ _ _ h => h) (Or.inl ⟨by rfl, fun W' hW' => ?_⟩) hcum ?_
                        rotate_left 1
                        · go_simp
                          try rfl
                        try simp only [Act.put, List.setIfInBounds_toArray, List.set_cons_zero, List.set_cons_succ]
                        refine wpAnyH_take (i := 21) (oi := { dst := some 120, op := Op.load 30 (Operand.tmp 6), type := 30, pos := "law.go:104", after := #[{ on := 20, ground := Ground.guard }], guard := some (20, false) }) (v := ?_) rfl (by kernel_rfl) (by kernel_rfl) (by kernel_rfl) (fun _ _ _ h => h) (Or.inl ⟨by rfl, fun W' hW' => ?_⟩) hcum ?_
                        rotate_left 1
                        · (obtain ⟨⟨a0, p0, p1, p2, q0, q1, q2⟩, ⟨x0, x1, x2, _, _, _⟩, ⟨y0, y1, y2, _, _, _⟩, ⟨z0, z1, z2, _, _, _⟩, ⟨v0, v1, v2, _, _, _⟩⟩ := HLD.out W' hW'; go_simp)
                          try rfl
                        try simp only [Act.put, List.setIfInBounds_toArray, List.set_cons_zero, List.set_cons_succ]
                        refine wpAnyH_take (i := 22) (oi := { dst := some 121, op := Op.fieldAddr 26 (Operand.tmp 1) 0, type := 0, pos := "law.go:104", after := #[{ on := 20, ground := Ground.guard }], guard := some (20, false) }) (v := ?_) rfl (by kernel_rfl) (by kernel_rfl) (by kernel_rfl) (fun _ _ _ h => h) (Or.inl ⟨by rfl, fun W' hW' => ?_⟩) hcum ?_
                        rotate_left 1
                        · go_simp
                          try rfl
                        try simp only [Act.put, List.setIfInBounds_toArray, List.set_cons_zero, List.set_cons_succ]
                        refine wpAnyH_take (i := 23) (oi := { dst := some 122, op := Op.load 22 (Operand.tmp 121), type := 22, pos := "law.go:104", after := #[{ on := 22, ground := Ground.data }, { on := 20, ground := Ground.guard }], guard := some (20, false) }) (v := ?_) rfl (by kernel_rfl) (by kernel_rfl) (by kernel_rfl) (fun _ _ _ h => h) (Or.inl ⟨by rfl, fun W' hW' => ?_⟩) hcum ?_
                        rotate_left 1
                        · (obtain ⟨⟨a0, p0, p1, p2, q0, q1, q2⟩, ⟨x0, x1, x2, _, _, _⟩, ⟨y0, y1, y2, _, _, _⟩, ⟨z0, z1, z2, _, _, _⟩, ⟨v0, v1, v2, _, _, _⟩⟩ := HLD.out W' hW'; go_simp)
                          try rfl
                        try simp only [Act.put, List.setIfInBounds_toArray, List.set_cons_zero, List.set_cons_succ]
                        refine wpAnyH_take (i := 24) (oi := { dst := some 123, op := Op.move (Operand.tmp 4), type := 3, pos := "law.go:104", after := #[{ on := 20, ground := Ground.guard }], guard := some (20, false) }) (v := ?_) rfl (by kernel_rfl) (by kernel_rfl) (by kernel_rfl) (fun _ _ _ h => h) (Or.inl ⟨by rfl, fun W' hW' => ?_⟩) hcum ?_
                        rotate_left 1
                        · go_simp
                          try rfl
                        try simp only [Act.put, List.setIfInBounds_toArray, List.set_cons_zero, List.set_cons_succ]
                        refine wpAnyH_take (i := 25) (oi := { dst := some 124, op := Op.indexAddr 22 (Operand.tmp 122) (Operand.tmp 123), type := 0, pos := "law.go:104", after := #[{ on := 23, ground := Ground.data }, { on := 24, ground := Ground.data }, { on := 20, ground := Ground.guard }], guard := some (20, false) }) (v := ?_) rfl (by kernel_rfl) (by kernel_rfl) (by kernel_rfl) (fun _ _ _ h => h) (Or.inl ⟨by rfl, fun W' hW' => ?_⟩) hcum ?_
                        rotate_left 1
                        · go_simp
                          try rfl
                        try simp only [Act.put, List.setIfInBounds_toArray, List.set_cons_zero, List.set_cons_succ]
                        refine wpAnyH_take (i := 26) (oi := { dst := some 125, op := Op.load 30 (Operand.tmp 124), type := 30, pos := "law.go:104", after := #[{ on := 25, ground := Ground.data }, { on := 20, ground := Ground.guard }], guard := some (20, false) }) (v := ?_) rfl (by kernel_rfl) (by kernel_rfl) (by kernel_rfl) (fun _ _ _ h => h) (Or.inl ⟨by rfl, fun W' hW' => ?_⟩) hcum ?_
                        rotate_left 1
                        · (obtain ⟨⟨a0, p0, p1, p2, q0, q1, q2⟩, ⟨x0, x1, x2, _, _, _⟩, ⟨y0, y1, y2, _, _, _⟩, ⟨z0, z1, z2, _, _, _⟩, ⟨v0, v1, v2, _, _, _⟩⟩ := HLD.out W' hW'; go_simp)
                          try rfl
                        try simp only [Act.put, List.setIfInBounds_toArray, List.set_cons_zero, List.set_cons_succ]
                        refine wpAnyH_ready (rs := [27]) (by kernel_rfl) (by simp) ?_
                        refine AllReadyH.cons (o := { dst := some 126, op := Op.call { callee := Callee.value (Operand.func 14), args := #[Operand.tmp 120, Operand.tmp 125], argTypes := #[30, 30] }, type := 4, pos := "law.go:104", after := #[{ on := 21, ground := Ground.data }, { on := 26, ground := Ground.data }, { on := 20, ground := Ground.chain }, { on := 20, ground := Ground.guard }], guard := some (20, false) }) rfl (fun K hK => ?_) AllReadyH.nil
                        rw [if_pos (by rfl)]
                        go_simp
                        have HC := eqMatrix_yes Rb Cb (.slice A4 ns.length c4) (.slice A2 ns.length c2) ns V3 (HX6c.out.below hcum) (HVBc.out.below hcum) (by omega)
                        unfold matV at HC
                        with_reducible refine HC.mono ?_
                        rintro e V4 ⟨rfl, hbe⟩
                        clear HC
                        have hcum := hcum.trans (hbe.mono hcum.size)
                        refine hK.out _ _ hcum (fun _ => ?_)
                        clear hK hbe
                        try simp only [Act.put, List.setIfInBounds_toArray, List.set_cons_zero, List.set_cons_succ]
                        refine wpAnyH_take (i := 28) (oi := { dst := some 127, op := Op.unOp UnOp.not 4 (Operand.tmp 126), type := 4, pos := "law.go:104", after := #[{ on := 27, ground := Ground.data }, { on := 20, ground := Ground.guard }], guard := some (20, false) }) (v := ?_) rfl (by kernel_rfl) (by kernel_rfl) (by kernel_rfl) (fun _ _ _ h => h) (Or.inl ⟨by rfl, fun W' hW' => ?_⟩) hcum ?_
                        rotate_left 1
                        · go_simp
                          try rfl
                        try simp only [Act.put, List.setIfInBounds_toArray, List.set_cons_zero, List.set_cons_succ]
                        refine wpAnyH_take (i := 29) (oi := { dst := some 128, op := Op.pick (Operand.tmp 119) (Operand.const (Value.bool true)) (Operand.tmp 127), type := 4, pos := "law.go:104", after := #[{ on := 20, ground := Ground.data }, { on := 28, ground := Ground.data }], guard := none }) (v := ?_) rfl (by kernel_rfl) (by kernel_rfl) (by kernel_rfl) (fun _ _ _ h => h) (Or.inl ⟨by rfl, fun W' hW' => ?_⟩) hcum ?_
                        rotate_left 1
                        · go_simp
                          try rfl
                        try simp only [Act.put, List.setIfInBounds_toArray, List.set_cons_zero, List.set_cons_succ]
                        refine wpAnyH_done (by kernel_rfl) ?_ _
                        go_wp2_with fail
                        go_meet
                        exact ⟨rfl, Lib.hid hcum⟩
                    case rest =>
                      obtain ⟨rfl, HBe⟩ := hcut
                      have HBf := Lib.hid (HB.out.trans ((HBr.out.trans (HBe.out.mono HBr.out.size)).mono HB.out.size))
                      go_wp2_with fail
                      go_roundw
                      case rel => exact ⟨k + 1, by go_num, by omega, HBf⟩
                      case measure => simp [intOf]; omega
            · have hkd : (decide ((k : Int) < (l.length : Int)) && decide ((k : Int) < 4)) = false := by simp; omega
              by_cases h3 : k < l.length
              all_goals
                go_wp2_with fail
                go_meet
                exact HB
        case rest =>
          clear HB
          have HB := hcut
          clear hcut
          go_wp2_with fail
          obtain ⟨wo2, rfl⟩ : ∃ wo2 : World, wo2 = wc := ⟨_, rfl⟩
          go_loopw [11] (fun nn wr => ∃ n : Nat, nn = .int .i64 n ∧ n ≤ ss.length + 1 ∧ Hid (Below w1.heap.size w1 wr)) (fun nn _ => ss.length + 1 - (intOf nn).toNat)
          case atStart => exact ⟨0, rfl, by omega, HB⟩
          case round =>
            clear HB
            obtain ⟨n, rfl, hn1, HB⟩ := hrel
            obtain ⟨a0, a1, a2, _, _, _⟩ := TA1.out.below HB.out
            by_cases hnl : n ≤ ss.length
            · obtain ⟨b, o, Ra, Ca, A1, ms, c1, rfl, hb, p0, p1, p2, hva, hra, hna⟩ := mats_few (HM1.out.below HB.out) HM3.out hl0
              have HL3 := Lib.hid (textsIn_take (textsIn_below HL1.out HB.out) hnl)
              have hss3 : ss.length ≤ 3000 := Nat.le_trans (by unfold total; omega) ht3
              have HLN : Hid ((ss.take n).length = n) := by rw [Hid, List.length_take]; omega
              generalize ss.take n = L at *
              have n0 : (0 : Int) ≤ (n : Int) := by omega
              have n1 : (n : Int) ≤ (ss.length : Int) := by omega
              have n2 : (n : Int) ≤ (kL : Int) := by omega
              have HF : Hid (∀ W', Below wr.heap.size wr W' → (W'.cell? ⟨w.heap.size, 0, none⟩ = some (.slice (some ⟨b, o, none⟩) l.length c) ∧ W'.cell? ⟨w.heap.size, 2, none⟩ = some (.slice pL ss.length kL)) ∧ W'.cell? ⟨b, o + i * 3, none⟩ = some (.int .i64 Ra) ∧ W'.cell? ⟨b, o + i * 3 + 1, none⟩ = some (.int .i64 Ca) ∧ W'.cell? ⟨b, o + i * 3 + 2, none⟩ = some (.slice A1 ms.length c1)) := fun W' h =>
                ⟨⟨below_celllt a0 (cell_block a0) h, below_celllt a2 (cell_block a2) h⟩, below_celllt p0 (cell_block p0) h, below_celllt p1 (cell_block p1) h, below_celllt p2 (cell_block p2) h⟩
              have HVA := Lib.hid hva
              have HRA := Lib.hid hra
              obtain ⟨kk, hkk⟩ : ∃ kk, kk = appK Ra Ca ms.length L.length := ⟨_, rfl⟩
              have HKK := Lib.hid hkk
              clear hva hra hkk p0 p1 p2 a1 hb
              go_wp2_with fail
              refine (copyStrs_any _ L wr HL3.out (by rw [HLN.out]; omega)).mono ?_
              rintro e V1 ⟨ri, rfl, hown, hb1⟩
              have HI1 := Lib.hid (strs6_own hown)
              obtain ⟨⟨a0, a2⟩, p0, p1, p2⟩ := HF.out _ hb1
              have HB1' := Lib.hid hb1
              clear hown hb1
              go_wp2_with fail
              have HC := apply_all Ra Ca (.slice A1 ms.length c1) ri ms L V1 (HVA.out.below HB1'.out) HRA.out HI1.out (by omega) kk HKK.out.symm
              unfold matV at HC
              with_reducible refine HC.mono ?_
              rintro e V2 ⟨rx, rfl, hx, hsp, hb2⟩
              obtain ⟨eA, heA⟩ : ∃ x, x = appE kk L := ⟨_, rfl⟩
              obtain ⟨XX, hXX⟩ : ∃ x, x = appX kk ms Ra L := ⟨_, rfl⟩
              rw [← heA]
              rw [← hXX] at hx
              have HEA := Lib.hid heA
              have HXX := Lib.hid hXX
              have HX2 := Lib.hid hx
              have HSP := Lib.hid hsp
              have HI2 := Lib.hid (HI1.out.below hb2)
              have HB2' := Lib.hid (cum2 HB1'.out hb2)
              have HSV := Lib.hid HB1'.out.size
              have HS12 := Lib.hid hb2
              obtain ⟨⟨a0, a2⟩, p0, p1, p2⟩ := HF.out _ HB2'.out
              clear hb2 hx hsp heA hXX HC
              go_upto_region 24 with fail
              go_cut [166] from 151 to 166 (fun c wx => c = .bool kk ∧ Hid (Below V2.heap.size V2 wx))
              case first =>
                as_aux_lemma =>
                  cases h1 : mayM Ra Ca ms.length
                  · have HKF : Hid (kk = false) := by rw [Hid, HKK.out, appK, h1]; rfl
                    have HM := Lib.hid h1
                    clear h1
                    go_wp2_with fail
                    refine (refMatrix_is Ra Ca A1 ms.length c1 false HM.out V2 (by omega)).mono ?_
                    rintro e V3 ⟨rfl, hb3⟩
                    obtain ⟨⟨a0, a2⟩, p0, p1, p2⟩ := HF.out _ (cum2 HB2'.out hb3)
                    have HB3 := Lib.hid hb3
                    clear hb3
                    go_wp2_with fail
                    go_meet
                    exact ⟨by rw [HKF.out], HB3⟩
                  · have hKK := HKK.out
                    rw [appK, h1, HLN.out] at hKK
                    have HM := Lib.hid h1
                    clear h1
                    by_cases h2 : (n : Int) = Ca
                    · have HKF : Hid (kk = true) := by rw [Hid, hKK, decide_eq_true h2]; rfl
                      have hq : ((n : Int) == Ca) = true := by simp [h2]
                      clear hKK h2
                      go_wp2_with fail
                      refine (refMatrix_is Ra Ca A1 ms.length c1 true HM.out V2 (by omega)).mono ?_
                      rintro e V3 ⟨rfl, hb3⟩
                      obtain ⟨⟨a0, a2⟩, p0, p1, p2⟩ := HF.out _ (cum2 HB2'.out hb3)
                      have HB3 := Lib.hid hb3
                      clear hb3
                      go_wp2_with fail
                      go_meet
                      exact ⟨by rw [HKF.out], HB3⟩
                    · have HKF : Hid (kk = false) := by rw [Hid, hKK, decide_eq_false h2]; rfl
                      have hq : ((n : Int) == Ca) = false := by simp [h2]
                      clear hKK h2
                      go_wp2_with fail
                      refine (refMatrix_is Ra Ca A1 ms.length c1 true HM.out V2 (by omega)).mono ?_
                      rintro e V3 ⟨rfl, hb3⟩
                      obtain ⟨⟨a0, a2⟩, p0, p1, p2⟩ := HF.out _ (cum2 HB2'.out hb3)
                      have HB3 := Lib.hid hb3
                      clear hb3
                      go_wp2_with fail
                      go_meet
                      exact ⟨by rw [HKF.out], HB3⟩
              case rest =>
                obtain ⟨rfl, HBx⟩ := hcut
                have HB3r := Lib.hid (cum2 HB2'.out HBx.out)
                have HSL := Lib.hid HL3.out.row
                clear a0 a2 p0 p1 p2
                obtain ⟨⟨a0, a2⟩, p0, p1, p2⟩ := HF.out _ HB3r.out
                go_upto_if 166 with (fail)
                go_cut [15, 16] from 166 to 183 (fun e15 x16 wx => e15 = .int .i64 eA ∧ Strs6 wx x16 XX ∧ Hid (Below V2.heap.size V2 wx))
                case first =>
                  as_aux_lemma =>
                    cases kk
                    · have e1 : eA = 1 := HEA.out
                      have e2 : XX = [] := HXX.out
                      subst e1 e2
                      go_wp2_with fail
                      go_meet
                      exact ⟨rfl, strs6_nil _ _ _, HBx⟩
                    · have hKK := HKK.out.symm
                      unfold appK at hKK
                      simp only [Bool.and_eq_true, decide_eq_true_eq] at hKK
                      obtain ⟨m1, m2⟩ := hKK
                      obtain ⟨r, cc, rfl, e, r1, r16, c1', c16, hrc⟩ := mayM_yes m1
                      have HLC : Hid (L.length = cc) := by rw [Hid]; omega
                      have HRC := Lib.hid hrc
                      subst e
                      clear m1 m2 hrc
                      obtain ⟨mn, hmn⟩ : ∃ mn, mn = mayN L := ⟨_, rfl⟩
                      have e1 : eA = mn := by rw [hmn]; exact HEA.out
                      subst e1
                      have HMN := Lib.hid hmn
                      clear hmn
                      go_wp2_with fail
                      refine (refLanes_any (.slice pL n kL) L wc (HSL.out.below HB3r.out) (by rw [HLN.out]; omega)).mono ?_
                      rintro e V4 ⟨rfl, hb4⟩
                      rw [← HMN.out]
                      have HB4 := Lib.hid (HBx.out.trans (hb4.mono HBx.out.size))
                      have HB4r := Lib.hid (cum2 HB3r.out hb4)
                      clear hb4 a0 a2 p0 p1 p2
                      by_cases hm : eA = 0
                      · have hq : (eA == 0) = true := by simp [hm]
                        have HM0 : Hid (mayN L = 0) := by rw [Hid, ← HMN.out]; exact hm
                        have HLS : Hid (∀ s ∈ L, s.size = (L.getD 0 ByteArray.empty).size) := fun s hs => (mayN_all HM0.out s hs).1
                        have HL8 : Hid ((L.getD 0 ByteArray.empty).size ≤ 8192) := by
                          rw [Hid, ← List.getElem_eq_getD (h := by have := HLC.out; omega)]
                          exact (mayN_all HM0.out _ (List.getElem_mem _)).2
                        have HX0 : Hid (XX = applyL ms L r cc (L.getD 0 ByteArray.empty).size) := by rw [Hid, HXX.out]; simp [appX, HM0.out, HLC.out]
                        have HVA4 := Lib.hid (HVA.out.below HB4r.out)
                        have HSL4 := Lib.hid (HSL.out.below HB4r.out)
                        clear hm
                        go_upto_region 27 with (fail)
                        refine wp_region_held (S := fun W' => Below V4.heap.size V4 W') (by kernel_rfl) ?_
                        change wpAnyH _ _ _ _ _ 11 _ _ V4.drew
                        have hcum := (Below.refl V4.heap.size V4).drew
                        generalize V4.drew = V0 at *
                        refine wpAnyH_take (i := 0) (oi := { dst := some 174, op := Op.fieldAddr 26 (Operand.tmp 1) 0, type := 0, pos := "law.go:116", after := #[], guard := none }) (v := ?_) rfl (by kernel_rfl) (by kernel_rfl) (by kernel_rfl) (fun _ _ _ h => h) (Or.inl ⟨by rfl, fun W' hW' => ?_⟩) hcum ?_
                        rotate_left 1
                        · go_simp
                          try rfl
                        try simp only [Act.put, List.setIfInBounds_toArray, List.set_cons_zero, List.set_cons_succ]
                        refine wpAnyH_take (i := 1) (oi := { dst := some 175, op := Op.load 22 (Operand.tmp 174), type := 22, pos := "law.go:116", after := #[{ on := 0, ground := Ground.data }], guard := none }) (v := ?_) rfl (by kernel_rfl) (by kernel_rfl) (by kernel_rfl) (fun _ _ _ h => h) (Or.inl ⟨by rfl, fun W' hW' => ?_⟩) hcum ?_
                        rotate_left 1
                        · (obtain ⟨⟨a0, a2⟩, p0, p1, p2⟩ := HF.out _ (cum2 HB4r.out hW'); go_simp)
                          try rfl
                        try simp only [Act.put, List.setIfInBounds_toArray, List.set_cons_zero, List.set_cons_succ]
                        refine wpAnyH_take (i := 2) (oi := { dst := some 176, op := Op.move (Operand.tmp 3), type := 3, pos := "law.go:116", after := #[], guard := none }) (v := ?_) rfl (by kernel_rfl) (by kernel_rfl) (by kernel_rfl) (fun _ _ _ h => h) (Or.inl ⟨by rfl, fun W' hW' => ?_⟩) hcum ?_
                        rotate_left 1
                        · go_simp
                          try rfl
                        try simp only [Act.put, List.setIfInBounds_toArray, List.set_cons_zero, List.set_cons_succ]
                        refine wpAnyH_take (i := 3) (oi := { dst := some 177, op := Op.indexAddr 22 (Operand.tmp 175) (Operand.tmp 176), type := 0, pos := "law.go:116", after := #[{ on := 1, ground := Ground.data }, { on := 2, ground := Ground.data }], guard := none }) (v := ?_) rfl (by kernel_rfl) (by kernel_rfl) (by kernel_rfl) (fun _ _ _ h => h) (Or.inl ⟨by rfl, fun W' hW' => ?_⟩) hcum ?_
                        rotate_left 1
                        · go_simp
                          try rfl
                        try simp only [Act.put, List.setIfInBounds_toArray, List.set_cons_zero, List.set_cons_succ]
                        refine wpAnyH_take (i := 4) (oi := { dst := some 178, op := Op.load 30 (Operand.tmp 177), type := 30, pos := "law.go:116", after := #[{ on := 3, ground := Ground.data }], guard := none }) (v := ?_) rfl (by kernel_rfl) (by kernel_rfl) (by kernel_rfl) (fun _ _ _ h => h) (Or.inl ⟨by rfl, fun W' hW' => ?_⟩) hcum ?_
                        rotate_left 1
                        · (obtain ⟨⟨a0, a2⟩, p0, p1, p2⟩ := HF.out _ (cum2 HB4r.out hW'); go_simp)
                          try rfl
                        try simp only [Act.put, List.setIfInBounds_toArray, List.set_cons_zero, List.set_cons_succ]
                        refine wpAnyH_take (i := 5) (oi := { dst := some 179, op := Op.fieldAddr 26 (Operand.tmp 1) 2, type := 0, pos := "law.go:116", after := #[], guard := none }) (v := ?_) rfl (by kernel_rfl) (by kernel_rfl) (by kernel_rfl) (fun _ _ _ h => h) (Or.inl ⟨by rfl, fun W' hW' => ?_⟩) hcum ?_
                        rotate_left 1
                        · go_simp
                          try rfl
                        try simp only [Act.put, List.setIfInBounds_toArray, List.set_cons_zero, List.set_cons_succ]
                        refine wpAnyH_take (i := 6) (oi := { dst := some 180, op := Op.load 24 (Operand.tmp 179), type := 24, pos := "law.go:116", after := #[{ on := 5, ground := Ground.data }], guard := none }) (v := ?_) rfl (by kernel_rfl) (by kernel_rfl) (by kernel_rfl) (fun _ _ _ h => h) (Or.inl ⟨by rfl, fun W' hW' => ?_⟩) hcum ?_
                        rotate_left 1
                        · (obtain ⟨⟨a0, a2⟩, p0, p1, p2⟩ := HF.out _ (cum2 HB4r.out hW'); go_simp)
                          try rfl
                        try simp only [Act.put, List.setIfInBounds_toArray, List.set_cons_zero, List.set_cons_succ]
                        refine wpAnyH_take (i := 7) (oi := { dst := some 181, op := Op.move (Operand.tmp 11), type := 3, pos := "law.go:116", after := #[], guard := none }) (v := ?_) rfl (by kernel_rfl) (by kernel_rfl) (by kernel_rfl) (fun _ _ _ h => h) (Or.inl ⟨by rfl, fun W' hW' => ?_⟩) hcum ?_
                        rotate_left 1
                        · go_simp
                          try rfl
                        try simp only [Act.put, List.setIfInBounds_toArray, List.set_cons_zero, List.set_cons_succ]
                        refine wpAnyH_take (i := 8) (oi := { dst := some 182, op := Op.slice 24 (Operand.tmp 180) none (some (Operand.tmp 181)) none, type := 24, pos := "law.go:116", after := #[{ on := 6, ground := Ground.data }, { on := 7, ground := Ground.data }], guard := none }) (v := ?_) rfl (by kernel_rfl) (by kernel_rfl) (by kernel_rfl) (fun _ _ _ h => h) (Or.inl ⟨by rfl, fun W' hW' => ?_⟩) hcum ?_
                        rotate_left 1
                        · go_simp
                          try rfl
                        try simp only [Act.put, List.setIfInBounds_toArray, List.set_cons_zero, List.set_cons_succ]
                        refine wpAnyH_ready (rs := [9]) (by kernel_rfl) (by simp) ?_
                        refine AllReadyH.cons (o := { dst := some 183, op := Op.call { callee := Callee.value (Operand.func 34), args := #[Operand.tmp 178, Operand.tmp 182], argTypes := #[30, 24] }, type := 24, pos := "law.go:116", after := #[{ on := 4, ground := Ground.data }, { on := 8, ground := Ground.data }], guard := none }) rfl (fun K hK => ?_) AllReadyH.nil
                        rw [if_pos (by rfl)]
                        go_simp
                        have HC := refApply_any r cc (L.getD 0 ByteArray.empty).size (.slice A1 ms.length c1) (.slice pL n kL) ms L V0 (HVA4.out.below hcum) (HSL4.out.below hcum) HRC.out HLC.out HLS.out HL8.out r1 r16 c1' c16
                        unfold matV at HC
                        with_reducible refine HC.mono ?_
                        rintro e V1 ⟨x, rfl, hown, hbe⟩
                        have hsx := strs6_own hown
                        clear HC hown
                        have hcum := hcum.trans (hbe.mono hcum.size)
                        refine hK.out _ _ hcum (fun _ => ?_)
                        clear hK hbe
                        try simp only [Act.put, List.setIfInBounds_toArray, List.set_cons_zero, List.set_cons_succ]
                        refine wpAnyH_take (i := 10) (oi := { dst := some 16, op := Op.assign (Operand.tmp 183), type := 24, pos := "law.go:116", after := #[{ on := 9, ground := Ground.data }, { on := 9, ground := Ground.chain }, { on := 0, ground := Ground.phase }, { on := 1, ground := Ground.phase }, { on := 2, ground := Ground.phase }, { on := 3, ground := Ground.phase }, { on := 4, ground := Ground.phase }, { on := 5, ground := Ground.phase }, { on := 6, ground := Ground.phase }, { on := 7, ground := Ground.phase }, { on := 8, ground := Ground.phase }, { on := 9, ground := Ground.phase }], guard := none }) (v := ?_) rfl (by kernel_rfl) (by kernel_rfl) (by kernel_rfl) (fun _ _ _ h => h) (Or.inl ⟨by rfl, fun W' hW' => ?_⟩) hcum ?_
                        rotate_left 1
                        · go_simp
                          try rfl
                        try simp only [Act.put, List.setIfInBounds_toArray, List.set_cons_zero, List.set_cons_succ]
                        refine wpAnyH_done (by kernel_rfl) ?_ _
                        go_wp2_with fail
                        go_meet
                        exact ⟨rfl, by rw [HX0.out]; exact hsx, Lib.hid (HB4.out.trans (hcum.mono HB4.out.size))⟩
                      · have hq : (eA == 0) = false := by simp [hm]
                        have HX0 : Hid (XX = []) := by
                          rw [Hid, HXX.out, appX, ← HMN.out, hq]; rfl
                        clear hm
                        go_wp2_with fail
                        go_meet
                        exact ⟨rfl, by rw [HX0.out]; exact strs6_nil _ _ _, HB4⟩
                case rest =>
                  obtain ⟨wd, rfl⟩ : ∃ wd : World, wd = wc := ⟨_, rfl⟩
                  obtain ⟨rfl, hx16, HBy⟩ := hcut
                  have HX16 := Lib.hid hx16
                  have HBYr := Lib.hid (cum2 HB2'.out HBy.out)
                  have hXl : XX.length ≤ 16 := by rw [HXX.out]; exact appX_len kk HKK.out
                  clear hx16 a0 a2 p0 p1 p2
                  have HE1 := Lib.hid (eqStrs6_yes rx u16 XX wd (HX2.out.below HBy.out) HX16.out (by omega))
                  obtain ⟨⟨a0, a2⟩, p0, p1, p2⟩ := HF.out _ HBYr.out
                  go_wp2_with (first | (go_at_call 13; refine (num3_any _ _).mono ?_; rintro e wn ⟨rfl, rfl⟩))
                  refine HE1.out.mono ?_
                  rintro e V6 ⟨rfl, hb6⟩
                  have HB6 := Lib.hid (HBy.out.trans (hb6.mono HBy.out.size))
                  have HB6r := Lib.hid (cum2 HBYr.out hb6)
                  clear hb6 a0 a2 p0 p1 p2 HE1
                  obtain ⟨⟨a0, a2⟩, p0, p1, p2⟩ := HF.out _ HB6r.out
                  go_wp2_with (fail)
                  refine (eqStrs6_yes ri (.slice pL n kL) L V6 (HI2.out.below HB6.out) (HSL.out.below HB6r.out) (by rw [HLN.out]; omega)).mono ?_
                  rintro e V7 ⟨rfl, hb7⟩
                  have HB7 := Lib.hid (HB6.out.trans (hb7.mono HB6.out.size))
                  have HB7r := Lib.hid (cum2 HB6r.out hb7)
                  clear hb7 a0 a2 p0 p1 p2
                  obtain ⟨⟨a0, a2⟩, p0, p1, p2⟩ := HF.out _ HB7r.out
                  go_wp2_with (fail)
                  refine (strings_any V1.heap.size rx V7 (HSP.out.below HB7.out) (by
                    intro A n' c' e
                    obtain ⟨A', c'', e'⟩ := HX2.out.shape
                    rw [e'] at e
                    cases e
                    omega)).mono ?_
                  rintro e V8 ⟨rfl, hb8⟩
                  have HB8 := Lib.hid (cum2 (cum2 HS12.out (HB7.out)) (Below.refl _ _))
                  have HB8v := Lib.hid (HB8.out.trans hb8)
                  have HB8r := Lib.hid (cum2 HB1'.out HB8v.out)
                  clear hb8 a0 a2 p0 p1 p2
                  obtain ⟨⟨a0, a2⟩, p0, p1, p2⟩ := HF.out _ HB8r.out
                  go_wp2_with (fail)
                  refine (eqStrs6_yes ri (.slice pL n kL) L V8 (HI1.out.below HB8v.out) (HSL.out.below HB8r.out) (by rw [HLN.out]; omega)).mono ?_
                  rintro e V9 ⟨rfl, hb9⟩
                  have HB9 := Lib.hid (HB.out.trans ((cum2 HB8r.out hb9).mono HB.out.size))
                  clear hb9 a0 a2 p0 p1 p2
                  go_wp2_with (fail)
                  go_roundw
                  case rel => exact ⟨n + 1, by go_num, by omega, HB9⟩
                  case measure => simp [intOf]; omega
            · have hnd : decide ((n : Int) ≤ (ss.length : Int)) = false := by simp; omega
              go_wp2_with fail
              go_roundw
              case rel => exact ⟨i + 1, by go_num, by omega, HB⟩
              case measure => simp [intOf]; omega
      · have hid : (decide ((i : Int) < (l.length : Int)) && decide ((i : Int) < 4)) = false := by simp; omega
        have HB2 := Lib.hid (HB1.out.trans (HB.out.mono HB1.out.size))
        by_cases h3 : i < l.length
        all_goals
          go_wp2_with fail
          refine (wakes3_any _).mono ?_
          rintro e w5 ⟨rfl, hb5⟩
          have hfin := HB2.out.trans (hb5.mono HB2.out.size)
          clear hb5
          go_wp2_with fail
          go_ret
          exact ⟨rfl, hfin⟩
  · go_wp2_with fail
    go_ret
    exact ⟨rfl, HB1.out⟩
end Go.Proofs.Ytibinkppbdeofaa
