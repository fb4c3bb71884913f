/- MatrixTells: the law's walk. -/
import Derived.Test.YtibinkppbdeofaaPk17LawMatrixTells
import Derived.Test.YtibinkppbdeofaaPk18LawMatrixTells
import Derived.Test.YtibinkppbdeofaaPk22LawMatrixTells
import Derived.Test.YtibinkppbdeofaaPk09LawMatrixTells
import Derived.OrdersHeld
import Derived.Deep.RegionHeld
import Derived.Deep.RegionHeld3
import Derived.Deep.CutBlock
namespace Go.Proofs.Ytibinkppbdeofaa
open Go.ChangeShapes Go.WideShapes Go.ChangeAt Go.RowKit Go.Joins Go.Shelf
set_option linter.unusedVariables false
set_option linter.unusedSimpArgs false

theorem mats_few {w : World} {A : Option Addr} {n c : Nat} {l : List M3} (h : MatsIn w (.slice A n c) l) (hf : ∀ k, k < l.length → lenV (l.getD k (0, 0, .slice none 0 0)).2.2 ≤ 3000) {k : Nat} (hk : k < l.length) :
    ∃ b o R C A' ns k', A = some ⟨b, o, none⟩ ∧ b < w.heap.size ∧ w.cell? ⟨b, o + k * 3, none⟩ = some (.int .i64 R) ∧ w.cell? ⟨b, o + k * 3 + 1, none⟩ = some (.int .i64 C) ∧ w.cell? ⟨b, o + k * 3 + 2, none⟩ = some (.slice A' ns.length k') ∧ BytesV w (.slice A' ns.length k') ns ∧ RoomV (.slice A' ns.length k') ns ∧ ns.length ≤ 3000 := by
  obtain ⟨A1, c1, e, _, h⟩ := h
  cases e
  obtain ⟨b, o, rfl, hb, k0, k1, k2, ⟨ns, hns, A3, k3, e3, h3, h4⟩, _⟩ := h k hk
  have hl := hf k hk
  rw [e3] at k2 hns hl
  exact ⟨b, o, _, _, A3, ns, k3, rfl, hb, k0, k1, k2, hns, ⟨A3, k3, rfl, h3, h4⟩, hl⟩
theorem numsIn_below {w w' : World} {v : Value} {zs : List Int} (hN : NumsIn w v zs) (hbe : Below w.heap.size w w') : NumsIn w' v zs := by
  refine ⟨hN.1, ?_⟩
  rcases hN.2 with h | ⟨b, o, c, e, h0, hm, hb, hc⟩
  · exact Or.inl h
  · exact Or.inr ⟨b, o, c, e, h0, hm, Nat.lt_of_lt_of_le hb hbe.size, fun i hi => below_celllt (hc i hi) hb hbe⟩

set_option maxRecDepth 100000 in
theorem num0_is (x r : Int) (b : Bool) (hb : (decide (0 ≤ x) && decide (x ≤ r)) = b) (w : World) :
    Calls Try.prog 26 #[.int .i64 x, .int .i64 r] w fun e w' => e = .returned (.bool b) ∧ w = w' := by
  cases h1 : decide (0 ≤ x)
  · rw [h1] at hb
    have HB : Hid (b = false) := by rw [Hid, ← hb]; rfl
    clear hb
    go_enter Try.func26, Try.ntmps26
    go_wp2_with fail
    go_ret
    exact ⟨by rw [HB.out]; rfl, rfl⟩
  · cases h2 : decide (x ≤ r)
    · rw [h1, h2] at hb
      have HB : Hid (b = false) := by rw [Hid, ← hb]; rfl
      clear hb
      go_enter Try.func26, Try.ntmps26
      go_wp2_with fail
      go_ret
      exact ⟨by rw [HB.out]; rfl, rfl⟩
    · rw [h1, h2] at hb
      have HB : Hid (b = true) := by rw [Hid, ← hb]; rfl
      clear hb
      go_enter Try.func26, Try.ntmps26
      go_wp2_with fail
      go_ret
      exact ⟨by rw [HB.out]; rfl, rfl⟩
theorem num0_bad {R x : Int} : (decide (0 ≤ x) && decide (x ≤ R - 1)) = !badI R x := by
  rw [badI, Bool.eq_iff_iff]
  simp
  omega

set_option maxRecDepth 100000 in
set_option maxHeartbeats 40000000 in
theorem matrixTells_walk (vM vN vL : Value) (l : List M3) (zs : List Int) (ss : List ByteArray) (w : World) (hM : MatsIn w vM l) (hN : NumsIn w vN zs) (hL : TextsIn w vL ss) (hR : Reach3 l zs) (hRL : RoomL vL) :
    Calls Try.prog 6 #[.agg #[vM, vN, vL]] w fun e w' => e = .returned (.bool true) ∧ Below w.heap.size w w' := by
  have tA := Three.new w vM vN vL 26
  have hbe := (Below.refl w.heap.size w).alloc (Nat.le_refl _) (.cells #[vM, vN, vL] 26)
  have TA := Lib.hid tA
  have HBE := Lib.hid hbe
  have HM := Lib.hid (hM.below hbe)
  have HN := Lib.hid (numsIn_below hN hbe)
  have HHX := Lib.hid (heavy3_any vM vN vL l zs ss (w.alloc (.cells #[vM, vN, vL] 26)) (hM.below hbe) (numsIn_below hN hbe) (textsIn_below hL hbe) hR)
  obtain ⟨zp, zc, rfl⟩ : ∃ p c, vN = .slice p zs.length c := by
    rcases hN.2 with ⟨e, p, c, rfl⟩ | ⟨b, o, c, rfl, _⟩
    · exact ⟨_, _, by rw [e]; rfl⟩
    · exact ⟨_, _, rfl⟩
  obtain ⟨A, c, rfl, hll, hMx⟩ := hM
  obtain ⟨pL, kL, rfl, hLx⟩ := hL
  obtain ⟨a0, a1, a2, _, _, _⟩ := tA
  clear hbe hN hR hMx hLx hRL
  go_enter Try.func6, Try.ntmps6
  go_wp2_with fail
  clear a0 a1 a2
  generalize w.alloc (.cells #[.slice A l.length c, .slice zp zs.length zc, .slice pL ss.length kL] 26) = W0 at *
  refine HHX.out.mono ?_
  rintro e w1 ⟨bo, rfl, hfew, hb1⟩
  have TA1 := Lib.hid (TA.out.below hb1)
  have HM1 := Lib.hid (HM.out.below hb1)
  have HN1 := Lib.hid (numsIn_below HN.out hb1)
  have HB1 := Lib.hid (HBE.out.trans (hb1.mono HBE.out.size))
  have HFW := Lib.hid hfew
  clear hb1 TA HM HN HHX hfew
  cases bo
  · obtain ⟨hl3, hz3, ht3, hm3⟩ := HFW.out rfl
    have HM3 := Lib.hid hm3
    clear HFW hm3
    go_upto_block 0 with fail
    obtain ⟨ws, rfl⟩ : ∃ ws : World, ws = w1 := ⟨_, rfl⟩
    go_cut [] from 29 to 199 (fun wx => Hid (Below ws.heap.size ws wx))
    case first =>
      go_wp2_with fail
      go_loopw [3] (fun nn wr => ∃ i : Nat, nn = .int .i64 i ∧ i ≤ 4 ∧ Hid (Below ws.heap.size ws wr)) (fun nn _ => 4 - (intOf nn).toNat)
      case atStart => exact ⟨0, rfl, by omega, Lib.hid (Below.refl _ _)⟩
      case round =>
        obtain ⟨i, rfl, hi4, HB⟩ := hrel
        obtain ⟨a0, a1, a2, _, _, _⟩ := TA1.out.below HB.out
        by_cases hil : i < l.length ∧ i < 4
        · obtain ⟨hl0, hi3⟩ := hil
          have hid1 : decide ((i : Int) < (l.length : Int)) = true := by simp; omega
          have hid2 : decide ((i : Int) < 4) = true := by simp; omega
          have i0 : (0 : Int) ≤ (i : Int) := by omega
          have i1 : (i : Int) < (l.length : Int) := by omega
          obtain ⟨b, o, Ra, Ca, A1, ms, c1, rfl, hb, p0, p1, p2, hva, hra, hna⟩ := mats_few (HM1.out.below HB.out) HM3.out hl0
          have HF : Hid (∀ W', Below wr.heap.size wr W' → (W'.cell? ⟨w.heap.size, 0, none⟩ = some (.slice (some ⟨b, o, none⟩) l.length c) ∧ W'.cell? ⟨w.heap.size, 1, none⟩ = some (.slice zp zs.length zc)) ∧ W'.cell? ⟨b, o + i * 3, none⟩ = some (.int .i64 Ra) ∧ W'.cell? ⟨b, o + i * 3 + 1, none⟩ = some (.int .i64 Ca) ∧ W'.cell? ⟨b, o + i * 3 + 2, none⟩ = some (.slice A1 ms.length c1)) := fun W' h =>
            ⟨⟨below_celllt a0 (cell_block a0) h, below_celllt a1 (cell_block a1) h⟩, below_celllt p0 (cell_block p0) h, below_celllt p1 (cell_block p1) h, below_celllt p2 (cell_block p2) h⟩
          have HVA := Lib.hid hva
          have HRA := Lib.hid hra
          have HNR := Lib.hid (numsIn_below HN1.out HB.out)
          have hna' : ms.length ≤ 100000 := by omega
          have hwlt := cell_block a0
          dsimp only at hwlt
          clear hva hra a2
          obtain ⟨kk, hkk⟩ : ∃ kk, kk = mayM Ra Ca ms.length := ⟨_, rfl⟩
          have HKK := Lib.hid hkk
          obtain ⟨ff, hff⟩ : ∃ ff, ff = fullK Ra Ca ms := ⟨_, rfl⟩
          have HFF := Lib.hid hff
          obtain ⟨kp, hkp⟩ : ∃ kp, kp = pickK Ra Ca ms.length zs := ⟨_, rfl⟩
          have HKP := Lib.hid hkp
          clear hkk hff hkp
          -- the copy
          go_wp2_with fail
          have HC := copyMat_any Ra Ca (.slice A1 ms.length c1) ms wr HVA.out hna'
          unfold matV at HC
          with_reducible refine HC.mono ?_
          rintro e V1 ⟨r3, X3, rfl, hown, hX3, hb1⟩
          obtain ⟨A3, c3, rfl, r3a, r3b⟩ := hown.2.1
          have HR3 := Lib.hid hown.2.1
          obtain ⟨o4, ho4⟩ : ∃ o, o = (Obj.cells #[.int .i64 Ra, .int .i64 Ca, .slice A3 ms.length c3] 30) := ⟨_, rfl⟩
          have t4 := Three.new V1 (.int .i64 Ra) (.int .i64 Ca) (.slice A3 ms.length c3) 30
          rw [← ho4] at t4
          have hal := (Below.refl V1.heap.size V1).alloc (Nat.le_refl _) o4
          have HB4 := Lib.hid (cum2 hb1 hal)
          have HX4 := Lib.hid (hown.1.below hal)
          have T4 := Lib.hid t4
          have hs4 : V1.heap.size < (V1.alloc o4).heap.size := by simp
          have hs41 := hb1.size
          obtain ⟨x0, x1, x2, _, _, _⟩ := t4
          rw [ho4] at x0 x1 x2
          obtain ⟨⟨a0, a1⟩, p0, p1, p2⟩ := HF.out _ HB4.out
          rw [ho4] at a0 a1 p0 p1 p2
          clear hal hb1 hown hX3 HC
          go_upto_region 7 with fail
          rw [← ho4]
          clear x0 x1 x2 ho4 a0 a1 p0 p1 p2
          generalize V1.alloc o4 = W4 at *
          generalize V1.heap.size = b4 at *
          obtain ⟨x0, x1, x2, _, _, _⟩ := T4.out
          obtain ⟨⟨a0, a1⟩, p0, p1, p2⟩ := HF.out _ HB4.out
          -- whether it may be
          go_wp2_with fail
          refine (refMatrix_is Ra Ca A1 ms.length c1 kk HKK.out.symm W4 (by omega)).mono ?_
          rintro e W5 ⟨rfl, hb5⟩
          have HB5 := Lib.hid (cum2 HB4.out hb5)
          have HX5 := Lib.hid (HX4.out.below hb5)
          have T5 := Lib.hid (T4.out.below hb5)
          have hs5 := Nat.lt_of_lt_of_le hs4 hb5.size
          clear hb5 x0 x1 x2 a0 a1 p0 p1 p2 T4 HX4 HB4 hs4
          obtain ⟨x0, x1, x2, _, _, _⟩ := T5.out
          -- its rank
          go_wp2_with fail
          have HC := rank_all Ra Ca (.slice A3 ms.length c3) ms W5 HX5.out HR3.out hna' kk HKK.out.symm
          unfold matV at HC
          with_reducible refine HC.mono ?_
          rintro e W6 ⟨rfl, hb6⟩
          have HB6 := Lib.hid (cum2 HB5.out hb6)
          have HX6 := Lib.hid (HX5.out.below hb6)
          have T6 := Lib.hid (T5.out.below hb6)
          have hs6 := Nat.lt_of_lt_of_le hs5 hb6.size
          clear hb6 x0 x1 x2 T5 HX5 HB5 HC hs5
          obtain ⟨x0, x1, x2, _, _, _⟩ := T6.out
          obtain ⟨rv, hrv⟩ : ∃ x, x = rkV kk Ra Ca ms := ⟨_, rfl⟩
          obtain ⟨eK, heK⟩ : ∃ x, x = mulE kk := ⟨_, rfl⟩
          rw [← hrv, ← heK]
          have HRV := Lib.hid hrv
          have HEK := Lib.hid heK
          clear hrv heK
          -- its inverse
          go_wp2_with fail
          have HC := inv_all Ra Ca (.slice A3 ms.length c3) ms W6 HX6.out HR3.out hna'
          unfold matV at HC
          with_reducible refine HC.mono ?_
          rintro e W7 ⟨vi, rfl, hvi, hspi, hb7⟩
          obtain ⟨Ai, ki, rfl⟩ := hvi.shape
          obtain ⟨Xi, ni, hsn, hXi⟩ := hspi.now
          rw [← HFF.out]
          rw [← HFF.out] at hvi
          obtain ⟨iR, hiR⟩ : ∃ x, x = mulR ff Ra := ⟨_, rfl⟩
          obtain ⟨iE, hiE⟩ : ∃ x, x = invF Ra Ca ms := ⟨_, rfl⟩
          obtain ⟨iX, hiX⟩ : ∃ x, x = invX ff Ra ms := ⟨_, rfl⟩
          rw [← hiR, ← hiE, ← hiX]
          rw [← hiX] at hvi
          rw [← HFF.out, ← hiX] at hsn
          have HIR := Lib.hid hiR
          have HIE := Lib.hid hiE
          have HIX := Lib.hid hiX
          clear hiR hiE hiX hspi
          obtain ⟨o8, ho8⟩ : ∃ o, o = (Obj.cells #[.int .i64 iR, .int .i64 iR, .slice Ai iX.length ki] 30) := ⟨_, rfl⟩
          have t8 := Three.new W7 (.int .i64 iR) (.int .i64 iR) (.slice Ai iX.length ki) 30
          rw [← ho8] at t8
          have hal := (Below.refl W7.heap.size W7).alloc (Nat.le_refl _) o8
          have hb8 := cum2 hb7 hal
          have HB68 := Lib.hid hb8
          have HB8 := Lib.hid (cum2 HB6.out hb8)
          have HX8 := Lib.hid (HX6.out.below hb8)
          have T8 := Lib.hid (T6.out.below hb8)
          have TX8 := Lib.hid t8
          have HI8 := Lib.hid (hvi.below hal)
          have HSP8 := Lib.hid (hsn.below hal)
          have HXI := Lib.hid hXi
          have hs8 : W7.heap.size < (W7.alloc o8).heap.size := by simp
          have hs67 := hb7.size
          obtain ⟨z0, z1, z2, _, _, _⟩ := t8
          rw [ho8] at z0 z1 z2
          obtain ⟨x0, x1, x2, _, _, _⟩ := T8.out
          rw [ho8] at x0 x1 x2
          obtain ⟨⟨a0, a1⟩, p0, p1, p2⟩ := HF.out _ HB8.out
          rw [ho8] at a0 a1 p0 p1 p2
          clear hal hb7 hb8 hvi hsn hXi HC
          go_upto_region 10 with fail
          rw [← ho8]
          clear x0 x1 x2 z0 z1 z2 ho8 a0 a1 p0 p1 p2
          generalize W7.alloc o8 = W8 at *
          generalize W7.heap.size = b8 at *
          obtain ⟨x0, x1, x2, _, _, _⟩ := T8.out
          obtain ⟨⟨a0, a1⟩, p0, p1, p2⟩ := HF.out _ HB8.out
          -- some of its rows
          go_wp2_with fail
          have HC := pick_all Ra Ca (.slice A3 ms.length c3) (.slice zp zs.length zc) ms zs W8 HX8.out HR3.out (numsIn_below HNR.out HB8.out) hna' kp HKP.out.symm
          unfold matV at HC
          with_reducible refine HC.mono ?_
          rintro e W9 ⟨vp, rfl, hvp, hspp, hb9⟩
          obtain ⟨Ap, kpp, rfl⟩ := hvp.shape
          obtain ⟨Xp, np, hsn, hXp⟩ := hspp.now
          obtain ⟨pR, hpR⟩ : ∃ x, x = mulR kp (zs.length : Int) := ⟨_, rfl⟩
          obtain ⟨pC, hpC⟩ : ∃ x, x = mulR kp Ca := ⟨_, rfl⟩
          obtain ⟨pE, hpE⟩ : ∃ x, x = mulE kp := ⟨_, rfl⟩
          obtain ⟨pX, hpX⟩ : ∃ x, x = pickX kp ms Ca zs := ⟨_, rfl⟩
          rw [← hpR, ← hpC, ← hpE, ← hpX]
          rw [← hpX] at hvp
          rw [← hpX] at hsn
          have HPR := Lib.hid hpR
          have HPC := Lib.hid hpC
          have HPE := Lib.hid hpE
          have HPX := Lib.hid hpX
          clear hpR hpC hpE hpX hspp
          obtain ⟨o10, ho10⟩ : ∃ o, o = (Obj.cells #[.int .i64 pR, .int .i64 pC, .slice Ap pX.length kpp] 30) := ⟨_, rfl⟩
          have t10 := Three.new W9 (.int .i64 pR) (.int .i64 pC) (.slice Ap pX.length kpp) 30
          rw [← ho10] at t10
          have hal := (Below.refl W9.heap.size W9).alloc (Nat.le_refl _) o10
          have hb10 := cum2 hb9 hal
          have HB810 := Lib.hid hb10
          have HB10 := Lib.hid (cum2 HB8.out hb10)
          have HB610 := Lib.hid (cum2 HB68.out hb10)
          have HX10 := Lib.hid (HX8.out.below hb10)
          have T10 := Lib.hid (T8.out.below hb10)
          have TX10 := Lib.hid (TX8.out.below hb10)
          have TP10 := Lib.hid t10
          have HI10 := Lib.hid (HI8.out.below hb10)
          have HP10 := Lib.hid (hvp.below hal)
          have HSP10 := Lib.hid (HSP8.out.below hb10)
          have HSQ10 := Lib.hid (hsn.below hal)
          have HXP := Lib.hid hXp
          have hs10 : W9.heap.size < (W9.alloc o10).heap.size := by simp
          have hs89 := hb9.size
          obtain ⟨z0, z1, z2, _, _, _⟩ := t10
          rw [ho10] at z0 z1 z2
          clear hal hb9 hb10 hvp hsn hXp HC T8 TX8 HX8 HI8 HSP8 HB8 HB68 x0 x1 x2 a0 a1 p0 p1 p2
          go_upto_region 12 with fail
          rw [← ho10]
          clear z0 z1 z2 ho10
          generalize W9.alloc o10 = W10 at *
          generalize W9.heap.size = b10 at *
          -- the page's own: two boxes
          have hc16 := (Below.refl W10.heap.size W10).alloc (Nat.le_refl _) (.cells #[.int .i64 0, .int .i64 0, .slice none 0 0] 30)
          have t16 := (Three.new W10 (.int .i64 0) (.int .i64 0) (.slice none 0 0) 30).alloc (.cells #[.int .i64 0, .int .i64 0, .slice none 0 0] 30)
          have t17 := Three.new (W10.alloc (.cells #[.int .i64 0, .int .i64 0, .slice none 0 0] 30)) (.int .i64 0) (.int .i64 0) (.slice none 0 0) 30
          rw [World.size_alloc] at t17
          have hc17 : Below W10.heap.size W10 ((W10.alloc (.cells #[.int .i64 0, .int .i64 0, .slice none 0 0] 30)).alloc (.cells #[.int .i64 0, .int .i64 0, .slice none 0 0] 30)) := hc16.alloc (by simp) _
          have hs17 : W10.heap.size + 1 < ((W10.alloc (.cells #[.int .i64 0, .int .i64 0, .slice none 0 0] 30)).alloc (.cells #[.int .i64 0, .int .i64 0, .slice none 0 0] 30)).heap.size := by simp
          have T16 := Lib.hid t16
          have T17 := Lib.hid t17
          have HC17 := Lib.hid hc17
          clear t16 t17 hc16 hc17
          go_upto_if 69 with fail
          generalize (W10.alloc (.cells #[.int .i64 0, .int .i64 0, .slice none 0 0] 30)).alloc (.cells #[.int .i64 0, .int .i64 0, .slice none 0 0] 30) = U at *
          go_cut [12, 13, 14, 15] from 69 to 135 (fun e12 e13 e14 e15 wx => e12 = .int .i64 eK ∧ e13 = .int .i64 iE ∧ e14 = .int .i64 pE ∧ e15 = .int .i64 rv ∧ ∃ Aw kw Ad kd, Three wx W10.heap.size (.int .i64 iR) (.int .i64 iR) (.slice Aw iX.length kw) ∧ BytesV wx (.slice Aw iX.length kw) iX ∧
            Three wx (W10.heap.size + 1) (.int .i64 pR) (.int .i64 pC) (.slice Ad pX.length kd) ∧ BytesV wx (.slice Ad pX.length kd) pX ∧ Hid (Below W10.heap.size W10 wx))
          case first =>
            as_aux_lemma =>
              have HFW : Hid (∀ W', Below W10.heap.size W10 W' → (W'.cell? ⟨w.heap.size, 0, none⟩ = some (.slice (some ⟨b, o, none⟩) l.length c) ∧ W'.cell? ⟨w.heap.size, 1, none⟩ = some (.slice zp zs.length zc)) ∧ W'.cell? ⟨b, o + i * 3, none⟩ = some (.int .i64 Ra) ∧ W'.cell? ⟨b, o + i * 3 + 1, none⟩ = some (.int .i64 Ca) ∧ W'.cell? ⟨b, o + i * 3 + 2, none⟩ = some (.slice A1 ms.length c1)) := fun W' h => HF.out W' (cum2 HB10.out h)
              have HVA10 := Lib.hid (HVA.out.below HB10.out)
              have HN10 := Lib.hid (numsIn_below HNR.out HB10.out)
              clear HX10 HR3 T10 TX10 TP10 HI10 HP10 HSP10 HSQ10 HXI HXP HB810 HB610 HB10 HVA HNR HF
              cases kk
              · have hm : mayM Ra Ca ms.length = false := HKK.out.symm
                have hf : ff = false := by rw [HFF.out, fullK, sqK, hm]; rfl
                have hp : kp = false := by rw [HKP.out, pickK, hm]; rfl
                have e1 : eK = 1 := HEK.out
                have e2 : iE = 1 := by rw [HIE.out, invF, sqK, hm]; rfl
                have e3 : pE = 1 := by rw [HPE.out, hp]; rfl
                have e4 : rv = 0 := HRV.out
                have e5 : iR = 0 := by rw [HIR.out, hf]; rfl
                have e6 : iX = [] := by rw [HIX.out, hf]; rfl
                have e7 : pR = 0 := by rw [HPR.out, hp]; rfl
                have e8 : pC = 0 := by rw [HPC.out, hp]; rfl
                have e9 : pX = [] := by rw [HPX.out, hp]; rfl
                clear hm hf hp
                subst e1 e2 e3 e4 e5 e6 e7 e8 e9
                go_wp2_with fail
                go_meet
                exact ⟨rfl, rfl, rfl, rfl, none, 0, none, 0, T16.out, bytesV_nil _ _ _, T17.out, bytesV_nil _ _ _, HC17⟩
              · obtain ⟨r, cc, rfl, rfl, r1, r16, c1', c16, hrc⟩ := mayM_yes HKK.out.symm
                have HRC := Lib.hid hrc
                have e1 : eK = 0 := HEK.out
                have e4 : rv = ((rankL r cc ms : Nat) : Int) := HRV.out
                subst e1
                have HE4 := Lib.hid e4
                clear hrc e4
                obtain ⟨⟨a0, a1⟩, p0, p1, p2⟩ := HFW.out _ HC17.out
                go_wp2_with fail
                have HC := refRank_any r cc (.slice A1 ms.length c1) ms U (HVA10.out.below HC17.out) HRC.out r1 r16 c1' c16
                unfold matV at HC
                with_reducible refine HC.mono ?_
                rintro e U1 ⟨rfl, hbu⟩
                have HC1 := Lib.hid (HC17.out.trans (hbu.mono HC17.out.size))
                have T16a := Lib.hid (T16.out.below hbu)
                have T17a := Lib.hid (T17.out.below hbu)
                have hs1 := Nat.lt_of_lt_of_le hs17 hbu.size
                rw [← HE4.out]
                clear HC hbu T16 T17 HC17 hs17 a0 a1 p0 p1 p2 HRV HEK
                go_upto_region 15 with fail
                obtain ⟨sq, hsq⟩ : ∃ sq, sq = ((r : Int) == (cc : Int)) := ⟨_, rfl⟩
                have hq : ((r : Int) == (cc : Int)) = sq := hsq.symm
                have HSQ := Lib.hid hsq
                clear hsq
                go_cut [88] from 76 to 88 (fun cv wx => cv = .bool sq ∧ Hid (Below W10.heap.size W10 wx ∧ Below U1.heap.size U1 wx))
                case first =>
                  as_aux_lemma =>
                    refine wp_region_held (S := fun W' => Below U1.heap.size U1 W') (by kernel_rfl) ?_
                    change wpAnyH _ _ _ _ _ 13 _ _ U1.drew
                    have hcum := (Below.refl U1.heap.size U1).drew
                    generalize U1.drew = V0 at *
                    refine wpAnyH_take (i := 0) (oi := { dst := some 76, op := Op.fieldAddr 26 (Operand.tmp 1) 0, type := 0, pos := "law.go:53", after := #[], guard := none }) (v := ?_) rfl (by kernel_rfl) (by kernel_rfl) (by kernel_rfl) (fun _ _ _ h => h) (Or.inl ⟨by rfl, fun W' hW' => ?_⟩) hcum ?_
                    rotate_left 1
                    · go_simp
                      try rfl
                    try simp only [Act.put, List.setIfInBounds_toArray, List.set_cons_zero, List.set_cons_succ]
                    refine wpAnyH_take (i := 1) (oi := { dst := some 77, op := Op.load 22 (Operand.tmp 76), type := 22, pos := "law.go:53", after := #[{ on := 0, ground := Ground.data }], guard := none }) (v := ?_) rfl (by kernel_rfl) (by kernel_rfl) (by kernel_rfl) (fun _ _ _ h => h) (Or.inl ⟨by rfl, fun W' hW' => ?_⟩) hcum ?_
                    rotate_left 1
                    · (obtain ⟨⟨a0, a1⟩, p0, p1, p2⟩ := HFW.out W' (HC1.out.trans (hW'.mono HC1.out.size)); go_simp)
                      try rfl
                    try simp only [Act.put, List.setIfInBounds_toArray, List.set_cons_zero, List.set_cons_succ]
                    refine wpAnyH_take (i := 2) (oi := { dst := some 78, op := Op.move (Operand.tmp 3), type := 3, pos := "law.go:53", after := #[], guard := none }) (v := ?_) rfl (by kernel_rfl) (by kernel_rfl) (by kernel_rfl) (fun _ _ _ h => h) (Or.inl ⟨by rfl, fun W' hW' => ?_⟩) hcum ?_
                    rotate_left 1
                    · go_simp
                      try rfl
                    try simp only [Act.put, List.setIfInBounds_toArray, List.set_cons_zero, List.set_cons_succ]
                    refine wpAnyH_take (i := 3) (oi := { dst := some 79, op := Op.indexAddr 22 (Operand.tmp 77) (Operand.tmp 78), type := 0, pos := "law.go:53", after := #[{ on := 1, ground := Ground.data }, { on := 2, ground := Ground.data }], guard := none }) (v := ?_) rfl (by kernel_rfl) (by kernel_rfl) (by kernel_rfl) (fun _ _ _ h => h) (Or.inl ⟨by rfl, fun W' hW' => ?_⟩) hcum ?_
                    rotate_left 1
                    · go_simp
                      try rfl
                    try simp only [Act.put, List.setIfInBounds_toArray, List.set_cons_zero, List.set_cons_succ]
                    refine wpAnyH_take (i := 4) (oi := { dst := some 80, op := Op.fieldAddr 30 (Operand.tmp 79) 0, type := 0, pos := "law.go:53", after := #[{ on := 3, ground := Ground.data }], guard := none }) (v := ?_) rfl (by kernel_rfl) (by kernel_rfl) (by kernel_rfl) (fun _ _ _ h => h) (Or.inl ⟨by rfl, fun W' hW' => ?_⟩) hcum ?_
                    rotate_left 1
                    · go_simp
                      try rfl
                    try simp only [Act.put, List.setIfInBounds_toArray, List.set_cons_zero, List.set_cons_succ]
                    refine wpAnyH_take (i := 5) (oi := { dst := some 81, op := Op.load 3 (Operand.tmp 80), type := 3, pos := "law.go:53", after := #[{ on := 4, ground := Ground.data }], guard := none }) (v := ?_) rfl (by kernel_rfl) (by kernel_rfl) (by kernel_rfl) (fun _ _ _ h => h) (Or.inl ⟨by rfl, fun W' hW' => ?_⟩) hcum ?_
                    rotate_left 1
                    · (obtain ⟨⟨a0, a1⟩, p0, p1, p2⟩ := HFW.out W' (HC1.out.trans (hW'.mono HC1.out.size)); go_simp)
                      try rfl
                    try simp only [Act.put, List.setIfInBounds_toArray, List.set_cons_zero, List.set_cons_succ]
                    refine wpAnyH_take (i := 6) (oi := { dst := some 82, op := Op.fieldAddr 26 (Operand.tmp 1) 0, type := 0, pos := "law.go:53", after := #[], guard := none }) (v := ?_) rfl (by kernel_rfl) (by kernel_rfl) (by kernel_rfl) (fun _ _ _ h => h) (Or.inl ⟨by rfl, fun W' hW' => ?_⟩) hcum ?_
                    rotate_left 1
                    · go_simp
                      try rfl
                    try simp only [Act.put, List.setIfInBounds_toArray, List.set_cons_zero, List.set_cons_succ]
                    refine wpAnyH_take (i := 7) (oi := { dst := some 83, op := Op.load 22 (Operand.tmp 82), type := 22, pos := "law.go:53", after := #[{ on := 6, ground := Ground.data }], guard := none }) (v := ?_) rfl (by kernel_rfl) (by kernel_rfl) (by kernel_rfl) (fun _ _ _ h => h) (Or.inl ⟨by rfl, fun W' hW' => ?_⟩) hcum ?_
                    rotate_left 1
                    · (obtain ⟨⟨a0, a1⟩, p0, p1, p2⟩ := HFW.out W' (HC1.out.trans (hW'.mono HC1.out.size)); go_simp)
                      try rfl
                    try simp only [Act.put, List.setIfInBounds_toArray, List.set_cons_zero, List.set_cons_succ]
                    refine wpAnyH_take (i := 8) (oi := { dst := some 84, op := Op.move (Operand.tmp 3), type := 3, pos := "law.go:53", after := #[], guard := none }) (v := ?_) rfl (by kernel_rfl) (by kernel_rfl) (by kernel_rfl) (fun _ _ _ h => h) (Or.inl ⟨by rfl, fun W' hW' => ?_⟩) hcum ?_
                    rotate_left 1
                    · go_simp
                      try rfl
                    try simp only [Act.put, List.setIfInBounds_toArray, List.set_cons_zero, List.set_cons_succ]
                    refine wpAnyH_take (i := 9) (oi := { dst := some 85, op := Op.indexAddr 22 (Operand.tmp 83) (Operand.tmp 84), type := 0, pos := "law.go:53", after := #[{ on := 7, ground := Ground.data }, { on := 8, ground := Ground.data }], guard := none }) (v := ?_) rfl (by kernel_rfl) (by kernel_rfl) (by kernel_rfl) (fun _ _ _ h => h) (Or.inl ⟨by rfl, fun W' hW' => ?_⟩) hcum ?_
                    rotate_left 1
                    · go_simp
                      try rfl
                    try simp only [Act.put, List.setIfInBounds_toArray, List.set_cons_zero, List.set_cons_succ]
                    refine wpAnyH_take (i := 10) (oi := { dst := some 86, op := Op.fieldAddr 30 (Operand.tmp 85) 1, type := 0, pos := "law.go:53", after := #[{ on := 9, ground := Ground.data }], guard := none }) (v := ?_) rfl (by kernel_rfl) (by kernel_rfl) (by kernel_rfl) (fun _ _ _ h => h) (Or.inl ⟨by rfl, fun W' hW' => ?_⟩) hcum ?_
                    rotate_left 1
                    · go_simp
                      try rfl
                    try simp only [Act.put, List.setIfInBounds_toArray, List.set_cons_zero, List.set_cons_succ]
                    refine wpAnyH_take (i := 11) (oi := { dst := some 87, op := Op.load 3 (Operand.tmp 86), type := 3, pos := "law.go:53", after := #[{ on := 10, ground := Ground.data }], guard := none }) (v := ?_) rfl (by kernel_rfl) (by kernel_rfl) (by kernel_rfl) (fun _ _ _ h => h) (Or.inl ⟨by rfl, fun W' hW' => ?_⟩) hcum ?_
                    rotate_left 1
                    · (obtain ⟨⟨a0, a1⟩, p0, p1, p2⟩ := HFW.out W' (HC1.out.trans (hW'.mono HC1.out.size)); go_simp)
                      try rfl
                    try simp only [Act.put, List.setIfInBounds_toArray, List.set_cons_zero, List.set_cons_succ]
                    refine wpAnyH_take (i := 12) (oi := { dst := some 88, op := Op.binOp BinOp.eql 3 (Operand.tmp 81) (Operand.tmp 87) 3, type := 4, pos := "law.go:53", after := #[{ on := 5, ground := Ground.data }, { on := 11, ground := Ground.data }], guard := none }) (v := ?_) rfl (by kernel_rfl) (by kernel_rfl) (by kernel_rfl) (fun _ _ _ h => h) (Or.inl ⟨by rfl, fun W' hW' => ?_⟩) hcum ?_
                    rotate_left 1
                    · go_simp
                      try rfl
                    try simp only [Act.put, List.setIfInBounds_toArray, List.set_cons_zero, List.set_cons_succ]
                    refine wpAnyH_done (by kernel_rfl) ?_ _
                    go_wp2_with fail
                    go_meet
                    exact ⟨rfl, Lib.hid ⟨HC1.out.trans (hcum.mono HC1.out.size), hcum⟩⟩
                case rest =>
                  obtain ⟨wq, rfl⟩ : ∃ wq : World, wq = wc := ⟨_, rfl⟩
                  obtain ⟨rfl, HCQ⟩ := hcut
                  have HC2 := Lib.hid HCQ.out.1
                  have T16b := Lib.hid (T16a.out.below HCQ.out.2)
                  have T17b := Lib.hid (T17a.out.below HCQ.out.2)
                  have hs2 := Nat.lt_of_lt_of_le hs1 HCQ.out.2.size
                  clear HCQ T16a T17a HC1 hs1 hq
                  go_upto_if 88 with fail
                  go_cut [13] from 88 to 99 (fun e13 wx => e13 = .int .i64 iE ∧ ∃ Aw kw, Three wx W10.heap.size (.int .i64 iR) (.int .i64 iR) (.slice Aw iX.length kw) ∧ BytesV wx (.slice Aw iX.length kw) iX ∧ Three wx (W10.heap.size + 1) (.int .i64 0) (.int .i64 0) (.slice none 0 0) ∧ Hid (Below W10.heap.size W10 wx))
                  case first =>
                    as_aux_lemma =>
                      cases sq
                      · have hne : ¬ ((r : Int) = (cc : Int)) := by
                          intro h
                          have := HSQ.out
                          rw [h] at this
                          simp at this
                        have hs : sqK (r : Int) (cc : Int) ms.length = false := by rw [sqK, decide_eq_false hne, Bool.and_false]
                        have hf : ff = false := by rw [HFF.out, fullK, hs]; rfl
                        have e2 : iE = 1 := by rw [HIE.out, invF, hs]; rfl
                        have e5 : iR = 0 := by rw [HIR.out, hf]; rfl
                        have e6 : iX = [] := by rw [HIX.out, hf]; rfl
                        clear hs hf hne
                        subst e2 e5 e6
                        go_wp2_with fail
                        go_meet
                        exact ⟨rfl, none, 0, T16b.out, bytesV_nil _ _ _, T17b.out, HC2⟩
                      · have he : (r : Int) = (cc : Int) := by simpa using HSQ.out.symm
                        obtain rfl : r = cc := by omega
                        have hs : sqK (r : Int) (r : Int) ms.length = true := by rw [sqK, ← HKK.out]; simp
                        have hff : ff = decide (rankL r r ms = r) := by rw [HFF.out, fullK, hs]; simp
                        have hq2 : (((rankL r r ms : Nat) : Int) == (r : Int)) = ff := by
                          rw [hff, Bool.eq_iff_iff]; simp; omega
                        have HIE' : Hid (iE = if ff then 0 else 3) := by rw [Hid, HIE.out, invF, hs, ← HFF.out]; rfl
                        have HQ2 := Lib.hid hq2
                        clear he hs hff hq2
                        obtain ⟨⟨a0, a1⟩, p0, p1, p2⟩ := HFW.out _ HC2.out
                        go_wp2_with fail
                        have HC := refInvert_any r (.slice A1 ms.length c1) ms wq (HVA10.out.below HC2.out) HRC.out r1 r16
                        unfold matV at HC
                        with_reducible refine HC.mono ?_
                        rintro e V2 ⟨vj, rfl, hvj, hb2⟩
                        obtain ⟨Aj, kj, rfl⟩ := hvj.shape
                        rw [HQ2.out]
                        obtain ⟨oj, hoj⟩ : ∃ o, o = (Obj.cells #[.int .i64 (r : Int), .int .i64 (r : Int), .slice Aj (invO r ms).length kj] 30) := ⟨_, rfl⟩
                        have tj := Three.new V2 (.int .i64 (r : Int)) (.int .i64 (r : Int)) (.slice Aj (invO r ms).length kj) 30
                        rw [← hoj] at tj
                        have hal := (Below.refl V2.heap.size V2).alloc (Nat.le_refl _) oj
                        have hb3 := cum2 hb2 hal
                        have HC3 := Lib.hid (HC2.out.trans (hb3.mono HC2.out.size))
                        have T16c := Lib.hid (T16b.out.below hb3)
                        have T17c := Lib.hid (T17b.out.below hb3)
                        have TJ := Lib.hid tj
                        have HJ := Lib.hid (hvj.below hal)
                        obtain ⟨z0, z1, z2, _, _, _⟩ := tj
                        rw [hoj] at z0 z1 z2
                        clear hal hb2 hb3 hvj HC T16b T17b HC2 a0 a1 p0 p1 p2
                        go_upto_if 98 with fail
                        rw [← hoj]
                        clear z0 z1 z2 hoj
                        generalize V2.alloc oj = U3 at *
                        generalize V2.heap.size = b18 at *
                        cases ff
                        · have e2 : iE = 3 := HIE'.out
                          have e5 : iR = 0 := HIR.out
                          have e6 : iX = [] := HIX.out
                          subst e2 e5 e6
                          go_wp2_with fail
                          go_meet
                          exact ⟨rfl, none, 0, T16c.out, bytesV_nil _ _ _, T17c.out, HC3⟩
                        · have e2 : iE = 0 := HIE'.out
                          have e5 : iR = (r : Int) := HIR.out
                          have e6 : iX = invO r ms := HIX.out
                          subst e2 e5 e6
                          go_upto_region 19 with fail
                          refine wp_region_held (S := fun W' => Below W10.heap.size W10 W') (by kernel_rfl) ?_
                          change wpAnyH _ _ _ _ _ 3 _ _ U3.drew
                          have hcum := HC3.out.drew
                          have tq := T16c.out.below (Below.refl U3.heap.size U3).drew
                          have tr := T17c.out.below (Below.refl U3.heap.size U3).drew
                          have hbv := HJ.out.below (Below.refl U3.heap.size U3).drew
                          have hbo := hbv
                          obtain ⟨z0, z1, z2, _, _, _⟩ := TJ.out.below (Below.refl U3.heap.size U3).drew
                          obtain ⟨u0, u1, u2, u3, u4, u5⟩ := id tq
                          generalize U3.drew = V0 at *
                          refine wpAnyH_take (i := 1) (oi := { dst := some 13, op := Op.assign (Operand.const (Value.int IntKind.i64 0)), type := 3, pos := "law.go:56", after := #[{ on := 0, ground := Ground.textOnly Departure.lateStores }], guard := none }) (v := ?_) rfl (by kernel_rfl) (by kernel_rfl) (by kernel_rfl) (fun _ _ _ h => h) (Or.inl ⟨by rfl, fun W' hW' => ?_⟩) hcum ?_
                          rotate_left 1
                          · go_simp
                            try rfl
                          try simp only [Act.put, List.setIfInBounds_toArray, List.set_cons_zero, List.set_cons_succ]
                          refine wpAnyH_ready (rs := [0]) (by kernel_rfl) (by simp) ?_
                          refine AllReadyH.cons (o := { dst := some 99, op := Op.load 30 (Operand.tmp 18), type := 30, pos := "law.go:56", after := #[{ on := 1, ground := Ground.gcOnly Departure.lateStores }], guard := none }) rfl (fun K hK => ?_) AllReadyH.nil
                          rw [if_pos (by rfl)]
                          go_simp
                          refine hK.out _ _ hcum (fun _ => ?_)
                          clear hK
                          obtain ⟨V1, rfl⟩ : ∃ V, V = V0 := ⟨_, rfl⟩
                          try simp only [Act.put, List.setIfInBounds_toArray, List.set_cons_zero, List.set_cons_succ]
                          refine wpAnyH_ready (rs := [2]) (by kernel_rfl) (by simp) ?_
                          refine AllReadyH.cons (o := { dst := none, op := Op.store 30 (Operand.tmp 16) (Operand.tmp 99), type := 0, pos := "law.go:56", after := #[{ on := 0, ground := Ground.data }, { on := 1, ground := Ground.chain }, { on := 0, ground := Ground.phase }, { on := 1, ground := Ground.phase }], guard := none }) rfl (fun K hK => ?_) AllReadyH.nil
                          rw [if_pos (by rfl)]
                          go_simp
                          clear u0 u1 u2 u3 u4 u5
                          have hbv := bytesV_three hbv tq (.int .i64 (r : Int)) (.int .i64 (r : Int)) (.slice Aj (invO r ms).length kj)
                          have hbo := bytesV_three hbo tq (.int .i64 (r : Int)) (.int .i64 (r : Int)) (.slice Aj (invO r ms).length kj)
                          have tq := three_put tq (.int .i64 (r : Int)) (.int .i64 (r : Int)) (.slice Aj (invO r ms).length kj)
                          have tr := three_cell (three_cell (three_cell (tr) (d := ⟨W10.heap.size, 0, none⟩) (u := (.int .i64 (r : Int))) (by dsimp only; omega)) (d := ⟨W10.heap.size, 1, none⟩) (u := (.int .i64 (r : Int))) (by dsimp only; omega)) (d := ⟨W10.heap.size, 2, none⟩) (u := (.slice Aj (invO r ms).length kj)) (by dsimp only; omega)
                          have hcum := ((hcum.setCell (p := ⟨W10.heap.size, 0, none⟩) (by dsimp only; omega) (.int .i64 (r : Int))).setCell (p := ⟨W10.heap.size, 1, none⟩) (by dsimp only; omega) (.int .i64 (r : Int))).setCell (p := ⟨W10.heap.size, 2, none⟩) (by dsimp only; omega) (.slice Aj (invO r ms).length kj)
                          refine hK.out _ _ hcum (fun _ => ?_)
                          clear hK
                          generalize (((V1.setCell ⟨W10.heap.size, 0, none⟩ (.int .i64 (r : Int))).setCell ⟨W10.heap.size, 1, none⟩ (.int .i64 (r : Int))).setCell ⟨W10.heap.size, 2, none⟩ (.slice Aj (invO r ms).length kj)) = V2 at *
                          try simp only [Act.put, List.setIfInBounds_toArray, List.set_cons_zero, List.set_cons_succ]
                          refine wpAnyH_done (by kernel_rfl) ?_ _
                          go_wp2_with fail
                          go_meet
                          exact ⟨rfl, Aj, kj, tq, hbv, tr, Lib.hid hcum⟩
                  case rest =>
                    obtain ⟨wq2, rfl⟩ : ∃ wq2 : World, wq2 = wc := ⟨_, rfl⟩
                    obtain ⟨rfl, Aw, kw, t16, hi16, t17, HC4⟩ := hcut
                    have T16d := Lib.hid t16
                    have T17d := Lib.hid t17
                    have HId := Lib.hid hi16
                    clear t16 t17 hi16 HC2 T16b T17b hs2
                    obtain ⟨⟨a0, a1⟩, p0, p1, p2⟩ := HFW.out _ HC4.out
                    obtain ⟨g0, hg0⟩ : ∃ g0, g0 = decide (1 ≤ (zs.length : Int) ∧ (zs.length : Int) ≤ 16) := ⟨_, rfl⟩
                    have HG0 := Lib.hid hg0
                    clear hg0
                    go_upto_block 2 with (first | (go_at_call 25; refine (between3_any (zs.length : Int) g0 HG0.out.symm _).mono ?_; rintro e w' ⟨rfl, rfl⟩))
                    clear a0 a1 p0 p1 p2
                    go_cut [20] from 104 to 126 (fun gv wx => gv = .bool kp ∧ Hid (Below wq2.heap.size wq2 wx))
                    case first =>
                      as_aux_lemma =>
                        go_wp2_with fail
                        go_loopw [20, 21] (fun gv ii wx => ∃ (k : Nat) (gb : Bool), ii = .int .i64 k ∧ gv = .bool gb ∧ k ≤ zs.length ∧ Hid (gb = (g0 && !(zs.take k).any (badI (r : Int)))) ∧ Hid (Below wq2.heap.size wq2 wx)) (fun _ ii _ => zs.length - (intOf ii).toNat)
                        case atStart => exact ⟨0, g0, rfl, rfl, by omega, by simp [Hid], Lib.hid (Below.refl _ _)⟩
                        case round =>
                          obtain ⟨wq, rfl⟩ : ∃ wq : World, wq = wr := ⟨_, rfl⟩
                          obtain ⟨k, gb, rfl, rfl, hk, HGB, HBq⟩ := hrel
                          have HCr := Lib.hid (HC4.out.trans (HBq.out.mono HC4.out.size))
                          obtain ⟨⟨a0, a1⟩, p0, p1, p2⟩ := HFW.out _ HCr.out
                          by_cases hlt : k < zs.length
                          · obtain ⟨p', cap', eN, hS⟩ := numsIn_slice HN10.out
                            cases eN
                            obtain ⟨bz, oz, x, rfl, hx, HX, hcell0⟩ := num_at hS HN10.out.1 hlt
                            have HZC : Hid (∀ W', Below W10.heap.size W10 W' → W'.cell? ⟨bz, oz + k, none⟩ = some (.int .i64 x)) := fun W' h => below_celllt hcell0 (cell_block hcell0) h
                            have k0 : (0 : Int) ≤ (k : Int) := by omega
                            have k1 : (k : Int) < (zs.length : Int) := by omega
                            have w1 : IntKind.i64.wrap ((r : Int) - 1) = (r : Int) - 1 := IntWalk.i64_in _ (by omega)
                            have HT : Hid ((!(zs.take (k + 1)).any (badI (r : Int))) = (!(zs.take k).any (badI (r : Int)) && !badI (r : Int) x)) := by
                              rw [Hid, List.take_succ_eq_append_getElem hlt, List.any_append, Bool.not_or]
                              simp [HX.out, List.getD, hlt]
                            clear hcell0 hS
                            go_upto_region 24 with fail
                            clear a0 a1 p0 p1 p2
                            cases gb
                            · -- no more
                              refine wp_region_held (S := fun W' => Below wq.heap.size wq W') (by kernel_rfl) ?_
                              change wpAnyH _ _ _ _ _ 17 _ _ wq.drew
                              have hcum := (Below.refl wq.heap.size wq).drew
                              generalize wq.drew = V0 at *
                              refine wpAnyH_take (i := 0) (oi := { dst := some 111, op := Op.move (Operand.tmp 20), type := 4, pos := "law.go:61", after := #[], guard := none }) (v := ?_) rfl (by kernel_rfl) (by kernel_rfl) (by kernel_rfl) (fun _ _ _ h => h) (Or.inl ⟨by rfl, fun W' hW' => ?_⟩) hcum ?_
                              rotate_left 1
                              · go_simp
                                try rfl
                              try simp only [Act.put, List.setIfInBounds_toArray, List.set_cons_zero, List.set_cons_succ]
                              refine wpAnyH_take (i := 1) (oi := { dst := some 112, op := Op.move (Operand.tmp 111), type := 4, pos := "law.go:61", after := #[{ on := 0, ground := Ground.data }], guard := none }) (v := ?_) rfl (by kernel_rfl) (by kernel_rfl) (by kernel_rfl) (fun _ _ _ h => h) (Or.inl ⟨by rfl, fun W' hW' => ?_⟩) hcum ?_
                              rotate_left 1
                              · go_simp
                                try rfl
                              try simp only [Act.put, List.setIfInBounds_toArray, List.set_cons_zero, List.set_cons_succ]
                              refine wpAnyH_take (i := 2) (oi := { dst := some 113, op := Op.fieldAddr 26 (Operand.tmp 1) 1, type := 0, pos := "law.go:61", after := #[{ on := 1, ground := Ground.guard }], guard := some (1, true) }) (v := undef) rfl (by kernel_rfl) (by kernel_rfl) (by kernel_rfl) (fun _ _ _ h => h) (Or.inr ⟨by rfl, rfl⟩) hcum ?_
                              try simp only [Act.put, List.setIfInBounds_toArray, List.set_cons_zero, List.set_cons_succ]
                              refine wpAnyH_take (i := 3) (oi := { dst := some 114, op := Op.load 23 (Operand.tmp 113), type := 23, pos := "law.go:61", after := #[{ on := 2, ground := Ground.data }, { on := 1, ground := Ground.guard }], guard := some (1, true) }) (v := undef) rfl (by kernel_rfl) (by kernel_rfl) (by kernel_rfl) (fun _ _ _ h => h) (Or.inr ⟨by rfl, rfl⟩) hcum ?_
                              try simp only [Act.put, List.setIfInBounds_toArray, List.set_cons_zero, List.set_cons_succ]
                              refine wpAnyH_take (i := 4) (oi := { dst := some 115, op := Op.move (Operand.tmp 21), type := 3, pos := "law.go:61", after := #[{ on := 1, ground := Ground.guard }], guard := some (1, true) }) (v := undef) rfl (by kernel_rfl) (by kernel_rfl) (by kernel_rfl) (fun _ _ _ h => h) (Or.inr ⟨by rfl, rfl⟩) hcum ?_
                              try simp only [Act.put, List.setIfInBounds_toArray, List.set_cons_zero, List.set_cons_succ]
                              refine wpAnyH_take (i := 5) (oi := { dst := some 116, op := Op.indexAddr 23 (Operand.tmp 114) (Operand.tmp 115), type := 0, pos := "law.go:61", after := #[{ on := 3, ground := Ground.data }, { on := 4, ground := Ground.data }, { on := 1, ground := Ground.guard }], guard := some (1, true) }) (v := undef) rfl (by kernel_rfl) (by kernel_rfl) (by kernel_rfl) (fun _ _ _ h => h) (Or.inr ⟨by rfl, rfl⟩) hcum ?_
                              try simp only [Act.put, List.setIfInBounds_toArray, List.set_cons_zero, List.set_cons_succ]
                              refine wpAnyH_take (i := 6) (oi := { dst := some 117, op := Op.load 3 (Operand.tmp 116), type := 3, pos := "law.go:61", after := #[{ on := 5, ground := Ground.data }, { on := 1, ground := Ground.guard }], guard := some (1, true) }) (v := undef) rfl (by kernel_rfl) (by kernel_rfl) (by kernel_rfl) (fun _ _ _ h => h) (Or.inr ⟨by rfl, rfl⟩) hcum ?_
                              try simp only [Act.put, List.setIfInBounds_toArray, List.set_cons_zero, List.set_cons_succ]
                              refine wpAnyH_take (i := 7) (oi := { dst := some 118, op := Op.fieldAddr 26 (Operand.tmp 1) 0, type := 0, pos := "law.go:61", after := #[{ on := 1, ground := Ground.guard }], guard := some (1, true) }) (v := undef) rfl (by kernel_rfl) (by kernel_rfl) (by kernel_rfl) (fun _ _ _ h => h) (Or.inr ⟨by rfl, rfl⟩) hcum ?_
                              try simp only [Act.put, List.setIfInBounds_toArray, List.set_cons_zero, List.set_cons_succ]
                              refine wpAnyH_take (i := 8) (oi := { dst := some 119, op := Op.load 22 (Operand.tmp 118), type := 22, pos := "law.go:61", after := #[{ on := 7, ground := Ground.data }, { on := 1, ground := Ground.guard }], guard := some (1, true) }) (v := undef) rfl (by kernel_rfl) (by kernel_rfl) (by kernel_rfl) (fun _ _ _ h => h) (Or.inr ⟨by rfl, rfl⟩) hcum ?_
                              try simp only [Act.put, List.setIfInBounds_toArray, List.set_cons_zero, List.set_cons_succ]
                              refine wpAnyH_take (i := 9) (oi := { dst := some 120, op := Op.move (Operand.tmp 3), type := 3, pos := "law.go:61", after := #[{ on := 1, ground := Ground.guard }], guard := some (1, true) }) (v := undef) rfl (by kernel_rfl) (by kernel_rfl) (by kernel_rfl) (fun _ _ _ h => h) (Or.inr ⟨by rfl, rfl⟩) hcum ?_
                              try simp only [Act.put, List.setIfInBounds_toArray, List.set_cons_zero, List.set_cons_succ]
                              refine wpAnyH_take (i := 10) (oi := { dst := some 121, op := Op.indexAddr 22 (Operand.tmp 119) (Operand.tmp 120), type := 0, pos := "law.go:61", after := #[{ on := 8, ground := Ground.data }, { on := 9, ground := Ground.data }, { on := 1, ground := Ground.guard }], guard := some (1, true) }) (v := undef) rfl (by kernel_rfl) (by kernel_rfl) (by kernel_rfl) (fun _ _ _ h => h) (Or.inr ⟨by rfl, rfl⟩) hcum ?_
                              try simp only [Act.put, List.setIfInBounds_toArray, List.set_cons_zero, List.set_cons_succ]
                              refine wpAnyH_take (i := 11) (oi := { dst := some 122, op := Op.fieldAddr 30 (Operand.tmp 121) 0, type := 0, pos := "law.go:61", after := #[{ on := 10, ground := Ground.data }, { on := 1, ground := Ground.guard }], guard := some (1, true) }) (v := undef) rfl (by kernel_rfl) (by kernel_rfl) (by kernel_rfl) (fun _ _ _ h => h) (Or.inr ⟨by rfl, rfl⟩) hcum ?_
                              try simp only [Act.put, List.setIfInBounds_toArray, List.set_cons_zero, List.set_cons_succ]
                              refine wpAnyH_take (i := 12) (oi := { dst := some 123, op := Op.load 3 (Operand.tmp 122), type := 3, pos := "law.go:61", after := #[{ on := 11, ground := Ground.data }, { on := 1, ground := Ground.guard }], guard := some (1, true) }) (v := undef) rfl (by kernel_rfl) (by kernel_rfl) (by kernel_rfl) (fun _ _ _ h => h) (Or.inr ⟨by rfl, rfl⟩) hcum ?_
                              try simp only [Act.put, List.setIfInBounds_toArray, List.set_cons_zero, List.set_cons_succ]
                              refine wpAnyH_take (i := 13) (oi := { dst := some 124, op := Op.binOp BinOp.sub 3 (Operand.tmp 123) (Operand.const (Value.int IntKind.i64 1)) 3, type := 3, pos := "law.go:61", after := #[{ on := 12, ground := Ground.data }, { on := 1, ground := Ground.guard }], guard := some (1, true) }) (v := undef) rfl (by kernel_rfl) (by kernel_rfl) (by kernel_rfl) (fun _ _ _ h => h) (Or.inr ⟨by rfl, rfl⟩) hcum ?_
                              try simp only [Act.put, List.setIfInBounds_toArray, List.set_cons_zero, List.set_cons_succ]
                              refine wpAnyH_take (i := 14) (oi := { dst := some 125, op := Op.call { callee := Callee.value (Operand.func 26), args := #[Operand.tmp 117, Operand.tmp 124], argTypes := #[3, 3] }, type := 4, pos := "law.go:61", after := #[{ on := 6, ground := Ground.data }, { on := 13, ground := Ground.data }, { on := 1, ground := Ground.chain }, { on := 1, ground := Ground.guard }], guard := some (1, true) }) (v := undef) rfl (by kernel_rfl) (by kernel_rfl) (by kernel_rfl) (fun _ _ _ h => h) (Or.inr ⟨by rfl, rfl⟩) hcum ?_
                              try simp only [Act.put, List.setIfInBounds_toArray, List.set_cons_zero, List.set_cons_succ]
                              refine wpAnyH_take (i := 15) (oi := { dst := some 126, op := Op.pick (Operand.tmp 112) (Operand.tmp 125) (Operand.const (Value.bool false)), type := 4, pos := "law.go:61", after := #[{ on := 1, ground := Ground.data }, { on := 14, ground := Ground.data }], guard := none }) (v := ?_) rfl (by kernel_rfl) (by kernel_rfl) (by kernel_rfl) (fun _ _ _ h => h) (Or.inl ⟨by rfl, fun W' hW' => ?_⟩) hcum ?_
                              rotate_left 1
                              · go_simp
                                try rfl
                              try simp only [Act.put, List.setIfInBounds_toArray, List.set_cons_zero, List.set_cons_succ]
                              refine wpAnyH_take (i := 16) (oi := { dst := some 20, op := Op.assign (Operand.tmp 126), type := 4, pos := "law.go:61", after := #[{ on := 15, ground := Ground.data }, { on := 14, ground := Ground.chain }, { on := 0, ground := Ground.phase }, { on := 1, ground := Ground.phase }, { on := 2, ground := Ground.phase }, { on := 3, ground := Ground.phase }, { on := 4, ground := Ground.phase }, { on := 5, ground := Ground.phase }, { on := 6, ground := Ground.phase }, { on := 7, ground := Ground.phase }, { on := 8, ground := Ground.phase }, { on := 9, ground := Ground.phase }, { on := 10, ground := Ground.phase }, { on := 11, ground := Ground.phase }, { on := 12, ground := Ground.phase }, { on := 13, ground := Ground.phase }, { on := 14, ground := Ground.phase }, { on := 15, ground := Ground.phase }], guard := none }) (v := ?_) rfl (by kernel_rfl) (by kernel_rfl) (by kernel_rfl) (fun _ _ _ h => h) (Or.inl ⟨by rfl, fun W' hW' => ?_⟩) hcum ?_
                              rotate_left 1
                              · go_simp
                                try rfl
                              try simp only [Act.put, List.setIfInBounds_toArray, List.set_cons_zero, List.set_cons_succ]
                              refine wpAnyH_done (by kernel_rfl) ?_ _
                              have HBn := Lib.hid (HBq.out.trans (hcum.mono HBq.out.size))
                              go_wp2_with fail
                              go_roundw
                              case rel => exact ⟨k + 1, _, by go_num, rfl, by omega, by rw [Hid, HT.out, ← Bool.and_assoc, ← HGB.out]; rfl, HBn⟩
                              case measure => simp [intOf]; omega
                            · -- it goes on
                              refine wp_region_held (S := fun W' => Below wq.heap.size wq W') (by kernel_rfl) ?_
                              change wpAnyH _ _ _ _ _ 17 _ _ wq.drew
                              have hcum := (Below.refl wq.heap.size wq).drew
                              generalize wq.drew = V0 at *
                              refine wpAnyH_take (i := 0) (oi := { dst := some 111, op := Op.move (Operand.tmp 20), type := 4, pos := "law.go:61", after := #[], guard := none }) (v := ?_) rfl (by kernel_rfl) (by kernel_rfl) (by kernel_rfl) (fun _ _ _ h => h) (Or.inl ⟨by rfl, fun W' hW' => ?_⟩) hcum ?_
                              rotate_left 1
                              · go_simp
                                try rfl
                              try simp only [Act.put, List.setIfInBounds_toArray, List.set_cons_zero, List.set_cons_succ]
                              refine wpAnyH_take (i := 1) (oi := { dst := some 112, op := Op.move (Operand.tmp 111), type := 4, pos := "law.go:61", after := #[{ on := 0, ground := Ground.data }], guard := none }) (v := ?_) rfl (by kernel_rfl) (by kernel_rfl) (by kernel_rfl) (fun _ _ _ h => h) (Or.inl ⟨by rfl, fun W' hW' => ?_⟩) hcum ?_
                              rotate_left 1
                              · go_simp
                                try rfl
                              try simp only [Act.put, List.setIfInBounds_toArray, List.set_cons_zero, List.set_cons_succ]
                              refine wpAnyH_take (i := 2) (oi := { dst := some 113, op := Op.fieldAddr 26 (Operand.tmp 1) 1, type := 0, pos := "law.go:61", after := #[{ on := 1, ground := Ground.guard }], guard := some (1, true) }) (v := ?_) rfl (by kernel_rfl) (by kernel_rfl) (by kernel_rfl) (fun _ _ _ h => h) (Or.inl ⟨by rfl, fun W' hW' => ?_⟩) hcum ?_
                              rotate_left 1
                              · go_simp
                                try rfl
                              try simp only [Act.put, List.setIfInBounds_toArray, List.set_cons_zero, List.set_cons_succ]
                              refine wpAnyH_take (i := 3) (oi := { dst := some 114, op := Op.load 23 (Operand.tmp 113), type := 23, pos := "law.go:61", after := #[{ on := 2, ground := Ground.data }, { on := 1, ground := Ground.guard }], guard := some (1, true) }) (v := ?_) rfl (by kernel_rfl) (by kernel_rfl) (by kernel_rfl) (fun _ _ _ h => h) (Or.inl ⟨by rfl, fun W' hW' => ?_⟩) hcum ?_
                              rotate_left 1
                              · (obtain ⟨⟨a0, a1⟩, p0, p1, p2⟩ := HFW.out W' (HCr.out.trans (hW'.mono HCr.out.size)); have hzc := HZC.out W' (HCr.out.trans (hW'.mono HCr.out.size)); go_simp)
                                try rfl
                              try simp only [Act.put, List.setIfInBounds_toArray, List.set_cons_zero, List.set_cons_succ]
                              refine wpAnyH_take (i := 4) (oi := { dst := some 115, op := Op.move (Operand.tmp 21), type := 3, pos := "law.go:61", after := #[{ on := 1, ground := Ground.guard }], guard := some (1, true) }) (v := ?_) rfl (by kernel_rfl) (by kernel_rfl) (by kernel_rfl) (fun _ _ _ h => h) (Or.inl ⟨by rfl, fun W' hW' => ?_⟩) hcum ?_
                              rotate_left 1
                              · go_simp
                                try rfl
                              try simp only [Act.put, List.setIfInBounds_toArray, List.set_cons_zero, List.set_cons_succ]
                              refine wpAnyH_take (i := 5) (oi := { dst := some 116, op := Op.indexAddr 23 (Operand.tmp 114) (Operand.tmp 115), type := 0, pos := "law.go:61", after := #[{ on := 3, ground := Ground.data }, { on := 4, ground := Ground.data }, { on := 1, ground := Ground.guard }], guard := some (1, true) }) (v := ?_) rfl (by kernel_rfl) (by kernel_rfl) (by kernel_rfl) (fun _ _ _ h => h) (Or.inl ⟨by rfl, fun W' hW' => ?_⟩) hcum ?_
                              rotate_left 1
                              · go_simp
                                try rfl
                              try simp only [Act.put, List.setIfInBounds_toArray, List.set_cons_zero, List.set_cons_succ]
                              refine wpAnyH_take (i := 6) (oi := { dst := some 117, op := Op.load 3 (Operand.tmp 116), type := 3, pos := "law.go:61", after := #[{ on := 5, ground := Ground.data }, { on := 1, ground := Ground.guard }], guard := some (1, true) }) (v := ?_) rfl (by kernel_rfl) (by kernel_rfl) (by kernel_rfl) (fun _ _ _ h => h) (Or.inl ⟨by rfl, fun W' hW' => ?_⟩) hcum ?_
                              rotate_left 1
                              · (obtain ⟨⟨a0, a1⟩, p0, p1, p2⟩ := HFW.out W' (HCr.out.trans (hW'.mono HCr.out.size)); have hzc := HZC.out W' (HCr.out.trans (hW'.mono HCr.out.size)); go_simp)
                                try rfl
                              try simp only [Act.put, List.setIfInBounds_toArray, List.set_cons_zero, List.set_cons_succ]
                              refine wpAnyH_take (i := 7) (oi := { dst := some 118, op := Op.fieldAddr 26 (Operand.tmp 1) 0, type := 0, pos := "law.go:61", after := #[{ on := 1, ground := Ground.guard }], guard := some (1, true) }) (v := ?_) rfl (by kernel_rfl) (by kernel_rfl) (by kernel_rfl) (fun _ _ _ h => h) (Or.inl ⟨by rfl, fun W' hW' => ?_⟩) hcum ?_
                              rotate_left 1
                              · go_simp
                                try rfl
                              try simp only [Act.put, List.setIfInBounds_toArray, List.set_cons_zero, List.set_cons_succ]
                              refine wpAnyH_take (i := 8) (oi := { dst := some 119, op := Op.load 22 (Operand.tmp 118), type := 22, pos := "law.go:61", after := #[{ on := 7, ground := Ground.data }, { on := 1, ground := Ground.guard }], guard := some (1, true) }) (v := ?_) rfl (by kernel_rfl) (by kernel_rfl) (by kernel_rfl) (fun _ _ _ h => h) (Or.inl ⟨by rfl, fun W' hW' => ?_⟩) hcum ?_
                              rotate_left 1
                              · (obtain ⟨⟨a0, a1⟩, p0, p1, p2⟩ := HFW.out W' (HCr.out.trans (hW'.mono HCr.out.size)); have hzc := HZC.out W' (HCr.out.trans (hW'.mono HCr.out.size)); go_simp)
                                try rfl
                              try simp only [Act.put, List.setIfInBounds_toArray, List.set_cons_zero, List.set_cons_succ]
                              refine wpAnyH_take (i := 9) (oi := { dst := some 120, op := Op.move (Operand.tmp 3), type := 3, pos := "law.go:61", after := #[{ on := 1, ground := Ground.guard }], guard := some (1, true) }) (v := ?_) rfl (by kernel_rfl) (by kernel_rfl) (by kernel_rfl) (fun _ _ _ h => h) (Or.inl ⟨by rfl, fun W' hW' => ?_⟩) hcum ?_
                              rotate_left 1
                              · go_simp
                                try rfl
                              try simp only [Act.put, List.setIfInBounds_toArray, List.set_cons_zero, List.set_cons_succ]
                              refine wpAnyH_take (i := 10) (oi := { dst := some 121, op := Op.indexAddr 22 (Operand.tmp 119) (Operand.tmp 120), type := 0, pos := "law.go:61", after := #[{ on := 8, ground := Ground.data }, { on := 9, ground := Ground.data }, { on := 1, ground := Ground.guard }], guard := some (1, true) }) (v := ?_) rfl (by kernel_rfl) (by kernel_rfl) (by kernel_rfl) (fun _ _ _ h => h) (Or.inl ⟨by rfl, fun W' hW' => ?_⟩) hcum ?_
                              rotate_left 1
                              · go_simp
                                try rfl
                              try simp only [Act.put, List.setIfInBounds_toArray, List.set_cons_zero, List.set_cons_succ]
                              refine wpAnyH_take (i := 11) (oi := { dst := some 122, op := Op.fieldAddr 30 (Operand.tmp 121) 0, type := 0, pos := "law.go:61", after := #[{ on := 10, ground := Ground.data }, { on := 1, ground := Ground.guard }], guard := some (1, true) }) (v := ?_) rfl (by kernel_rfl) (by kernel_rfl) (by kernel_rfl) (fun _ _ _ h => h) (Or.inl ⟨by rfl, fun W' hW' => ?_⟩) hcum ?_
                              rotate_left 1
                              · go_simp
                                try rfl
                              try simp only [Act.put, List.setIfInBounds_toArray, List.set_cons_zero, List.set_cons_succ]
                              refine wpAnyH_take (i := 12) (oi := { dst := some 123, op := Op.load 3 (Operand.tmp 122), type := 3, pos := "law.go:61", after := #[{ on := 11, ground := Ground.data }, { on := 1, ground := Ground.guard }], guard := some (1, true) }) (v := ?_) rfl (by kernel_rfl) (by kernel_rfl) (by kernel_rfl) (fun _ _ _ h => h) (Or.inl ⟨by rfl, fun W' hW' => ?_⟩) hcum ?_
                              rotate_left 1
                              · (obtain ⟨⟨a0, a1⟩, p0, p1, p2⟩ := HFW.out W' (HCr.out.trans (hW'.mono HCr.out.size)); have hzc := HZC.out W' (HCr.out.trans (hW'.mono HCr.out.size)); go_simp)
                                try rfl
                              try simp only [Act.put, List.setIfInBounds_toArray, List.set_cons_zero, List.set_cons_succ]
                              refine wpAnyH_take (i := 13) (oi := { dst := some 124, op := Op.binOp BinOp.sub 3 (Operand.tmp 123) (Operand.const (Value.int IntKind.i64 1)) 3, type := 3, pos := "law.go:61", after := #[{ on := 12, ground := Ground.data }, { on := 1, ground := Ground.guard }], guard := some (1, true) }) (v := ?_) rfl (by kernel_rfl) (by kernel_rfl) (by kernel_rfl) (fun _ _ _ h => h) (Or.inl ⟨by rfl, fun W' hW' => ?_⟩) hcum ?_
                              rotate_left 1
                              · go_simp
                                try rfl
                              try simp only [Act.put, List.setIfInBounds_toArray, List.set_cons_zero, List.set_cons_succ]
                              refine wpAnyH_ready (rs := [14]) (by kernel_rfl) (by simp) ?_
                              refine AllReadyH.cons (o := { dst := some 125, op := Op.call { callee := Callee.value (Operand.func 26), args := #[Operand.tmp 117, Operand.tmp 124], argTypes := #[3, 3] }, type := 4, pos := "law.go:61", after := #[{ on := 6, ground := Ground.data }, { on := 13, ground := Ground.data }, { on := 1, ground := Ground.chain }, { on := 1, ground := Ground.guard }], guard := some (1, true) }) rfl (fun K hK => ?_) AllReadyH.nil
                              rw [if_pos (by rfl)]
                              go_simp
                              refine (num0_is x ((r : Int) - 1) (!badI (r : Int) x) num0_bad V0).mono ?_
                              rintro e V1 ⟨rfl, hVV⟩
                              have hbe : Below V0.heap.size V0 V1 := hVV ▸ Below.refl _ _
                              clear hVV
                              have hcum := hcum.trans (hbe.mono hcum.size)
                              refine hK.out _ _ hcum (fun _ => ?_)
                              clear hK hbe
                              try simp only [Act.put, List.setIfInBounds_toArray, List.set_cons_zero, List.set_cons_succ]
                              refine wpAnyH_take (i := 15) (oi := { dst := some 126, op := Op.pick (Operand.tmp 112) (Operand.tmp 125) (Operand.const (Value.bool false)), type := 4, pos := "law.go:61", after := #[{ on := 1, ground := Ground.data }, { on := 14, ground := Ground.data }], guard := none }) (v := ?_) rfl (by kernel_rfl) (by kernel_rfl) (by kernel_rfl) (fun _ _ _ h => h) (Or.inl ⟨by rfl, fun W' hW' => ?_⟩) hcum ?_
                              rotate_left 1
                              · go_simp
                                try rfl
                              try simp only [Act.put, List.setIfInBounds_toArray, List.set_cons_zero, List.set_cons_succ]
                              refine wpAnyH_take (i := 16) (oi := { dst := some 20, op := Op.assign (Operand.tmp 126), type := 4, pos := "law.go:61", after := #[{ on := 15, ground := Ground.data }, { on := 14, ground := Ground.chain }, { on := 0, ground := Ground.phase }, { on := 1, ground := Ground.phase }, { on := 2, ground := Ground.phase }, { on := 3, ground := Ground.phase }, { on := 4, ground := Ground.phase }, { on := 5, ground := Ground.phase }, { on := 6, ground := Ground.phase }, { on := 7, ground := Ground.phase }, { on := 8, ground := Ground.phase }, { on := 9, ground := Ground.phase }, { on := 10, ground := Ground.phase }, { on := 11, ground := Ground.phase }, { on := 12, ground := Ground.phase }, { on := 13, ground := Ground.phase }, { on := 14, ground := Ground.phase }, { on := 15, ground := Ground.phase }], guard := none }) (v := ?_) rfl (by kernel_rfl) (by kernel_rfl) (by kernel_rfl) (fun _ _ _ h => h) (Or.inl ⟨by rfl, fun W' hW' => ?_⟩) hcum ?_
                              rotate_left 1
                              · go_simp
                                try rfl
                              try simp only [Act.put, List.setIfInBounds_toArray, List.set_cons_zero, List.set_cons_succ]
                              refine wpAnyH_done (by kernel_rfl) ?_ _
                              have HBn := Lib.hid (HBq.out.trans (hcum.mono HBq.out.size))
                              go_wp2_with fail
                              go_roundw
                              case rel => exact ⟨k + 1, _, by go_num, rfl, by omega, by have hgt := HGB.out; rw [Hid, HT.out, ← Bool.and_assoc, ← hgt, Bool.true_and], HBn⟩
                              case measure => simp [intOf]; omega
                          · have hke : k = zs.length := by omega
                            have HKE : Hid (gb = kp) := by
                              rw [Hid, HGB.out, hke, List.take_length, HKP.out, pickK, ← HKK.out, HG0.out, Bool.true_and]
                            have hkd : decide ((k : Int) < (zs.length : Int)) = false := by simp; omega
                            clear hke
                            go_wp2_with fail
                            go_meet
                            exact ⟨by rw [HKE.out], HBq⟩
                    case rest =>
                      obtain ⟨U6, rfl⟩ : ∃ U6 : World, U6 = wc := ⟨_, rfl⟩
                      obtain ⟨rfl, HB6c⟩ := hcut
                      have T16f := Lib.hid (T16d.out.below HB6c.out)
                      have T17f := Lib.hid (T17d.out.below HB6c.out)
                      have HIf := Lib.hid (HId.out.below HB6c.out)
                      have HC6 := Lib.hid (HC4.out.trans (HB6c.out.mono HC4.out.size))
                      clear T16d T17d HId HB6c HC4
                      cases kp
                      · have e3 : pE = 1 := HPE.out
                        have e7 : pR = 0 := HPR.out
                        have e8 : pC = 0 := HPC.out
                        have e9 : pX = [] := HPX.out
                        subst e3 e7 e8 e9
                        go_wp2_with fail
                        go_meet
                        exact ⟨rfl, rfl, rfl, rfl, Aw, kw, none, 0, T16f.out, HIf.out, T17f.out, bytesV_nil _ _ _, HC6⟩
                      · have e3 : pE = 0 := HPE.out
                        have e7 : pR = (zs.length : Int) := HPR.out
                        have e8 : pC = (cc : Int) := HPC.out
                        have e9 : pX = pickL ms cc zs := HPX.out
                        subst e3 e7 e8 e9
                        go_upto_region 26 with fail
                        refine wp_region_held (S := fun W' => Below W10.heap.size W10 W') (by kernel_rfl) ?_
                        change wpAnyH _ _ _ _ _ 10 _ _ U6.drew
                        have hcum := HC6.out.drew
                        have tq := T17f.out.below (Below.refl U6.heap.size U6).drew
                        have tr := T16f.out.below (Below.refl U6.heap.size U6).drew
                        have hbo := HIf.out.below (Below.refl U6.heap.size U6).drew
                        obtain ⟨u0, u1, u2, u3, u4, u5⟩ := id tq
                        generalize U6.drew = V0 at *
                        refine wpAnyH_take (i := 0) (oi := { dst := some 128, op := Op.fieldAddr 26 (Operand.tmp 1) 0, type := 0, pos := "law.go:64", after := #[], guard := none }) (v := ?_) rfl (by kernel_rfl) (by kernel_rfl) (by kernel_rfl) (fun _ _ _ h => h) (Or.inl ⟨by rfl, fun W' hW' => ?_⟩) hcum ?_
                        rotate_left 1
                        · go_simp
                          try rfl
                        try simp only [Act.put, List.setIfInBounds_toArray, List.set_cons_zero, List.set_cons_succ]
                        refine wpAnyH_take (i := 1) (oi := { dst := some 129, op := Op.load 22 (Operand.tmp 128), type := 22, pos := "law.go:64", after := #[{ on := 0, ground := Ground.data }], guard := none }) (v := ?_) rfl (by kernel_rfl) (by kernel_rfl) (by kernel_rfl) (fun _ _ _ h => h) (Or.inl ⟨by rfl, fun W' hW' => ?_⟩) hcum ?_
                        rotate_left 1
                        · (obtain ⟨⟨a0, a1⟩, p0, p1, p2⟩ := HFW.out W' hW'; go_simp)
                          try rfl
                        try simp only [Act.put, List.setIfInBounds_toArray, List.set_cons_zero, List.set_cons_succ]
                        refine wpAnyH_take (i := 2) (oi := { dst := some 130, op := Op.move (Operand.tmp 3), type := 3, pos := "law.go:64", after := #[], guard := none }) (v := ?_) rfl (by kernel_rfl) (by kernel_rfl) (by kernel_rfl) (fun _ _ _ h => h) (Or.inl ⟨by rfl, fun W' hW' => ?_⟩) hcum ?_
                        rotate_left 1
                        · go_simp
                          try rfl
                        try simp only [Act.put, List.setIfInBounds_toArray, List.set_cons_zero, List.set_cons_succ]
                        refine wpAnyH_take (i := 3) (oi := { dst := some 131, op := Op.indexAddr 22 (Operand.tmp 129) (Operand.tmp 130), type := 0, pos := "law.go:64", after := #[{ on := 1, ground := Ground.data }, { on := 2, ground := Ground.data }], guard := none }) (v := ?_) rfl (by kernel_rfl) (by kernel_rfl) (by kernel_rfl) (fun _ _ _ h => h) (Or.inl ⟨by rfl, fun W' hW' => ?_⟩) hcum ?_
                        rotate_left 1
                        · go_simp
                          try rfl
                        try simp only [Act.put, List.setIfInBounds_toArray, List.set_cons_zero, List.set_cons_succ]
                        refine wpAnyH_take (i := 4) (oi := { dst := some 132, op := Op.load 30 (Operand.tmp 131), type := 30, pos := "law.go:64", after := #[{ on := 3, ground := Ground.data }], guard := none }) (v := ?_) rfl (by kernel_rfl) (by kernel_rfl) (by kernel_rfl) (fun _ _ _ h => h) (Or.inl ⟨by rfl, fun W' hW' => ?_⟩) hcum ?_
                        rotate_left 1
                        · (obtain ⟨⟨a0, a1⟩, p0, p1, p2⟩ := HFW.out W' hW'; go_simp)
                          try rfl
                        try simp only [Act.put, List.setIfInBounds_toArray, List.set_cons_zero, List.set_cons_succ]
                        refine wpAnyH_take (i := 5) (oi := { dst := some 133, op := Op.fieldAddr 26 (Operand.tmp 1) 1, type := 0, pos := "law.go:64", after := #[], guard := none }) (v := ?_) rfl (by kernel_rfl) (by kernel_rfl) (by kernel_rfl) (fun _ _ _ h => h) (Or.inl ⟨by rfl, fun W' hW' => ?_⟩) hcum ?_
                        rotate_left 1
                        · go_simp
                          try rfl
                        try simp only [Act.put, List.setIfInBounds_toArray, List.set_cons_zero, List.set_cons_succ]
                        refine wpAnyH_take (i := 6) (oi := { dst := some 134, op := Op.load 23 (Operand.tmp 133), type := 23, pos := "law.go:64", after := #[{ on := 5, ground := Ground.data }], guard := none }) (v := ?_) rfl (by kernel_rfl) (by kernel_rfl) (by kernel_rfl) (fun _ _ _ h => h) (Or.inl ⟨by rfl, fun W' hW' => ?_⟩) hcum ?_
                        rotate_left 1
                        · (obtain ⟨⟨a0, a1⟩, p0, p1, p2⟩ := HFW.out W' hW'; go_simp)
                          try rfl
                        try simp only [Act.put, List.setIfInBounds_toArray, List.set_cons_zero, List.set_cons_succ]
                        refine wpAnyH_ready (rs := [7]) (by kernel_rfl) (by simp) ?_
                        refine AllReadyH.cons (o := { dst := some 135, op := Op.call { callee := Callee.value (Operand.func 27), args := #[Operand.tmp 132, Operand.tmp 134], argTypes := #[30, 23] }, type := 30, pos := "law.go:64", after := #[{ on := 4, ground := Ground.data }, { on := 6, ground := Ground.data }], guard := none }) rfl (fun K hK => ?_) AllReadyH.nil
                        rw [if_pos (by rfl)]
                        go_simp
                        have HC := refPick_all r cc (.slice A1 ms.length c1) (.slice zp zs.length zc) ms zs V0 (HVA10.out.below hcum) HRA.out (numsIn_below HN10.out hcum) HKP.out.symm
                        unfold matV at HC
                        with_reducible refine HC.mono ?_
                        rintro e V1 ⟨vd, rfl, hbv, hbe⟩
                        obtain ⟨Ad, kd, rfl⟩ := hbv.shape
                        have tq := tq.below hbe
                        have tr := tr.below hbe
                        have hbo := hbo.below hbe
                        clear HC u0 u1 u2 u3 u4 u5
                        obtain ⟨u0, u1, u2, u3, u4, u5⟩ := id tq
                        have hcum := hcum.trans (hbe.mono hcum.size)
                        refine hK.out _ _ hcum (fun _ => ?_)
                        clear hK hbe
                        try simp only [Act.put, List.setIfInBounds_toArray, List.set_cons_zero, List.set_cons_succ]
                        refine wpAnyH_take (i := 8) (oi := { dst := some 14, op := Op.assign (Operand.const (Value.int IntKind.i64 0)), type := 3, pos := "law.go:64", after := #[{ on := 7, ground := Ground.chain }, { on := 0, ground := Ground.textOnly Departure.lateStores }, { on := 1, ground := Ground.textOnly Departure.lateStores }, { on := 2, ground := Ground.textOnly Departure.lateStores }, { on := 3, ground := Ground.textOnly Departure.lateStores }, { on := 4, ground := Ground.textOnly Departure.lateStores }, { on := 5, ground := Ground.textOnly Departure.lateStores }, { on := 6, ground := Ground.textOnly Departure.lateStores }, { on := 7, ground := Ground.textOnly Departure.lateStoresUnsure }], guard := none }) (v := ?_) rfl (by kernel_rfl) (by kernel_rfl) (by kernel_rfl) (fun _ _ _ h => h) (Or.inl ⟨by rfl, fun W' hW' => ?_⟩) hcum ?_
                        rotate_left 1
                        · go_simp
                          try rfl
                        try simp only [Act.put, List.setIfInBounds_toArray, List.set_cons_zero, List.set_cons_succ]
                        refine wpAnyH_ready (rs := [9]) (by kernel_rfl) (by simp) ?_
                        refine AllReadyH.cons (o := { dst := none, op := Op.store 30 (Operand.tmp 17) (Operand.tmp 135), type := 0, pos := "law.go:64", after := #[{ on := 7, ground := Ground.data }, { on := 8, ground := Ground.chain }, { on := 0, ground := Ground.phase }, { on := 1, ground := Ground.phase }, { on := 2, ground := Ground.phase }, { on := 3, ground := Ground.phase }, { on := 4, ground := Ground.phase }, { on := 5, ground := Ground.phase }, { on := 6, ground := Ground.phase }, { on := 7, ground := Ground.phase }, { on := 8, ground := Ground.phase }], guard := none }) rfl (fun K hK => ?_) AllReadyH.nil
                        rw [if_pos (by rfl)]
                        go_simp
                        clear u0 u1 u2 u3 u4 u5
                        have hbv := bytesV_three hbv tq (.int .i64 (zs.length : Int)) (.int .i64 (cc : Int)) (.slice Ad (pickL ms cc zs).length kd)
                        have hbo := bytesV_three hbo tq (.int .i64 (zs.length : Int)) (.int .i64 (cc : Int)) (.slice Ad (pickL ms cc zs).length kd)
                        have tq := three_put tq (.int .i64 (zs.length : Int)) (.int .i64 (cc : Int)) (.slice Ad (pickL ms cc zs).length kd)
                        have tr := three_cell (three_cell (three_cell (tr) (d := ⟨W10.heap.size + 1, 0, none⟩) (u := (.int .i64 (zs.length : Int))) (by dsimp only; omega)) (d := ⟨W10.heap.size + 1, 1, none⟩) (u := (.int .i64 (cc : Int))) (by dsimp only; omega)) (d := ⟨W10.heap.size + 1, 2, none⟩) (u := (.slice Ad (pickL ms cc zs).length kd)) (by dsimp only; omega)
                        have hcum := ((hcum.setCell (p := ⟨W10.heap.size + 1, 0, none⟩) (by dsimp only; omega) (.int .i64 (zs.length : Int))).setCell (p := ⟨W10.heap.size + 1, 1, none⟩) (by dsimp only; omega) (.int .i64 (cc : Int))).setCell (p := ⟨W10.heap.size + 1, 2, none⟩) (by dsimp only; omega) (.slice Ad (pickL ms cc zs).length kd)
                        refine hK.out _ _ hcum (fun _ => ?_)
                        clear hK
                        generalize (((V1.setCell ⟨W10.heap.size + 1, 0, none⟩ (.int .i64 (zs.length : Int))).setCell ⟨W10.heap.size + 1, 1, none⟩ (.int .i64 (cc : Int))).setCell ⟨W10.heap.size + 1, 2, none⟩ (.slice Ad (pickL ms cc zs).length kd)) = V2 at *
                        try simp only [Act.put, List.setIfInBounds_toArray, List.set_cons_zero, List.set_cons_succ]
                        refine wpAnyH_done (by kernel_rfl) ?_ _
                        go_wp2_with fail
                        go_meet
                        exact ⟨rfl, rfl, rfl, rfl, Aw, kw, Ad, kd, tr, hbo, tq, hbv, Lib.hid hcum⟩
          case rest =>
            obtain ⟨wd, rfl⟩ : ∃ wd : World, wd = wc := ⟨_, rfl⟩
            obtain ⟨rfl, rfl, rfl, rfl, Aw, kw, Ad, kd, t16, hi16, t17, hp17, HCw⟩ := hcut
            have TW := Lib.hid t16
            have HWd := Lib.hid hi16
            have TD := Lib.hid t17
            have HDd := Lib.hid hp17
            have HBd := Lib.hid (cum2 HB10.out HCw.out)
            have HB6d := Lib.hid (cum2 HB610.out HCw.out)
            have Td := Lib.hid (T10.out.below HCw.out)
            have TXd := Lib.hid (TX10.out.below HCw.out)
            have TPd := Lib.hid (TP10.out.below HCw.out)
            have HXd := Lib.hid (HX10.out.below HCw.out)
            have HId := Lib.hid (HI10.out.below HCw.out)
            have HPd := Lib.hid (HP10.out.below HCw.out)
            have HSPd := Lib.hid (HSP10.out.below HCw.out)
            have HSQd := Lib.hid (HSQ10.out.below HCw.out)
            have HVd := Lib.hid (HVA.out.below HBd.out)
            have hix3 : iX.length ≤ 9000000000000000000 := by
              obtain ⟨_, _, e, h, _⟩ := HSPd.out
              cases e
              omega
            have hpx3 : pX.length ≤ 9000000000000000000 := by
              obtain ⟨_, _, e, h, _⟩ := HSQd.out
              cases e
              omega
            have HLD := Lib.hid (fun W' (h : Below wd.heap.size wd W') => And.intro (HF.out W' (cum2 HBd.out h)) (And.intro (Td.out.below h) (And.intro (TXd.out.below h) (And.intro (TPd.out.below h) (And.intro (TW.out.below h) (TD.out.below h))))))
            clear t16 hi16 t17 hp17 T16 T17 HC17 T10 TX10 TP10 HX10 HI10 HP10 HSP10 HSQ10 hs17
            go_upto_region 27 with fail
            go_cut [185] from 136 to 185 (fun cv wx => cv = .bool false ∧ Hid (Below wd.heap.size wd wx))
            case first =>
              as_aux_lemma =>
                refine wp_region_held (S := fun W' => Below wd.heap.size wd W') (by kernel_rfl) ?_
                change wpAnyH _ _ _ _ _ 50 _ _ wd.drew
                have hcum := (Below.refl wd.heap.size wd).drew
                generalize wd.drew = V0 at *
                refine wpAnyH_take (i := 0) (oi := { dst := some 136, op := Op.load 30 (Operand.tmp 4), type := 30, pos := "law.go:67", after := #[], guard := none }) (v := ?_) rfl (by kernel_rfl) (by kernel_rfl) (by kernel_rfl) (fun _ _ _ h => h) (Or.inl ⟨by rfl, fun W' hW' => ?_⟩) hcum ?_
                rotate_left 1
                · (obtain ⟨⟨⟨a0, a1⟩, p0, p1, p2⟩, ⟨x0, x1, x2, _, _, _⟩, ⟨y0, y1, y2, _, _, _⟩, ⟨z0, z1, z2, _, _, _⟩, ⟨v0, v1, v2, _, _, _⟩, ⟨s0, s1, s2, _, _, _⟩⟩ := HLD.out W' hW'; go_simp)
                  try rfl
                try simp only [Act.put, List.setIfInBounds_toArray, List.set_cons_zero, List.set_cons_succ]
                refine wpAnyH_take (i := 3) (oi := { dst := some 139, op := Op.move (Operand.tmp 12), type := 3, pos := "law.go:67", after := #[], guard := none }) (v := ?_) rfl (by kernel_rfl) (by kernel_rfl) (by kernel_rfl) (fun _ _ _ h => h) (Or.inl ⟨by rfl, fun W' hW' => ?_⟩) hcum ?_
                rotate_left 1
                · go_simp
                  try rfl
                try simp only [Act.put, List.setIfInBounds_toArray, List.set_cons_zero, List.set_cons_succ]
                refine wpAnyH_ready (rs := [1]) (by kernel_rfl) (by simp) ?_
                refine AllReadyH.cons (o := { dst := some 137, op := Op.call { callee := Callee.value (Operand.func 28), args := #[Operand.tmp 136], argTypes := #[30] }, type := 32, pos := "law.go:67", after := #[{ on := 0, ground := Ground.data }], guard := none }) rfl (fun K hK => ?_) AllReadyH.nil
                rw [if_pos (by rfl)]
                go_simp
                have HC := check_is Ra Ca A3 ms.length c3 kk HKK.out.symm V0 (by omega)
                unfold matV at HC
                with_reducible refine HC.mono ?_
                rintro e V1 ⟨rfl, hbe⟩
                clear HC
                rw [← HEK.out]
                have hcum := hcum.trans (hbe.mono hcum.size)
                refine hK.out _ _ hcum (fun _ => ?_)
                clear hK hbe
                try simp only [Act.put, List.setIfInBounds_toArray, List.set_cons_zero, List.set_cons_succ]
                refine wpAnyH_ready (rs := [2]) (by kernel_rfl) (by simp) ?_
                refine AllReadyH.cons (o := { dst := some 138, op := Op.call { callee := Callee.value (Operand.func 13), args := #[Operand.tmp 137], argTypes := #[32] }, type := 3, pos := "law.go:67", after := #[{ on := 1, ground := Ground.data }, { on := 1, ground := Ground.chain }], guard := none }) rfl (fun K hK => ?_) AllReadyH.nil
                rw [if_pos (by rfl)]
                go_simp
                refine (num3_any _ _).mono ?_
                rintro e V2 ⟨rfl, hVV⟩
                have hbe : Below V1.heap.size V1 V2 := hVV ▸ Below.refl _ _
                clear hVV
                have hcum := hcum.trans (hbe.mono hcum.size)
                refine hK.out _ _ hcum (fun _ => ?_)
                clear hK hbe
                try simp only [Act.put, List.setIfInBounds_toArray, List.set_cons_zero, List.set_cons_succ]
                refine wpAnyH_take (i := 4) (oi := { dst := some 140, op := Op.binOp BinOp.neq 3 (Operand.tmp 138) (Operand.tmp 139) 3, type := 4, pos := "law.go:67", after := #[{ on := 2, ground := Ground.data }, { on := 3, ground := Ground.data }], guard := none }) (v := ?_) rfl (by kernel_rfl) (by kernel_rfl) (by kernel_rfl) (fun _ _ _ h => h) (Or.inl ⟨by rfl, fun W' hW' => ?_⟩) hcum ?_
                rotate_left 1
                · go_simp
                  try rfl
                try simp only [Act.put, List.setIfInBounds_toArray, List.set_cons_zero, List.set_cons_succ]
                refine wpAnyH_take (i := 5) (oi := { dst := some 141, op := Op.move (Operand.tmp 140), type := 4, pos := "law.go:67", after := #[{ on := 4, ground := Ground.data }, { on := 2, ground := Ground.chain }], guard := none }) (v := ?_) rfl (by kernel_rfl) (by kernel_rfl) (by kernel_rfl) (fun _ _ _ h => h) (Or.inl ⟨by rfl, fun W' hW' => ?_⟩) hcum ?_
                rotate_left 1
                · go_simp
                  try rfl
                try simp only [Act.put, List.setIfInBounds_toArray, List.set_cons_zero, List.set_cons_succ]
                refine wpAnyH_take (i := 6) (oi := { dst := some 142, op := Op.move (Operand.tmp 7), type := 32, pos := "law.go:67", after := #[{ on := 5, ground := Ground.guard }], guard := some (5, false) }) (v := ?_) rfl (by kernel_rfl) (by kernel_rfl) (by kernel_rfl) (fun _ _ _ h => h) (Or.inl ⟨by rfl, fun W' hW' => ?_⟩) hcum ?_
                rotate_left 1
                · go_simp
                  try rfl
                try simp only [Act.put, List.setIfInBounds_toArray, List.set_cons_zero, List.set_cons_succ]
                refine wpAnyH_take (i := 8) (oi := { dst := some 144, op := Op.move (Operand.tmp 12), type := 3, pos := "law.go:67", after := #[{ on := 5, ground := Ground.guard }], guard := some (5, false) }) (v := ?_) rfl (by kernel_rfl) (by kernel_rfl) (by kernel_rfl) (fun _ _ _ h => h) (Or.inl ⟨by rfl, fun W' hW' => ?_⟩) hcum ?_
                rotate_left 1
                · go_simp
                  try rfl
                try simp only [Act.put, List.setIfInBounds_toArray, List.set_cons_zero, List.set_cons_succ]
                refine wpAnyH_ready (rs := [7]) (by kernel_rfl) (by simp) ?_
                refine AllReadyH.cons (o := { dst := some 143, op := Op.call { callee := Callee.value (Operand.func 13), args := #[Operand.tmp 142], argTypes := #[32] }, type := 3, pos := "law.go:67", after := #[{ on := 6, ground := Ground.data }, { on := 5, ground := Ground.chain }, { on := 5, ground := Ground.guard }], guard := some (5, false) }) rfl (fun K hK => ?_) AllReadyH.nil
                rw [if_pos (by rfl)]
                go_simp
                refine (num3_any _ _).mono ?_
                rintro e V3 ⟨rfl, hVV⟩
                have hbe : Below V2.heap.size V2 V3 := hVV ▸ Below.refl _ _
                clear hVV
                have hcum := hcum.trans (hbe.mono hcum.size)
                refine hK.out _ _ hcum (fun _ => ?_)
                clear hK hbe
                try simp only [Act.put, List.setIfInBounds_toArray, List.set_cons_zero, List.set_cons_succ]
                refine wpAnyH_take (i := 9) (oi := { dst := some 145, op := Op.binOp BinOp.neq 3 (Operand.tmp 143) (Operand.tmp 144) 3, type := 4, pos := "law.go:67", after := #[{ on := 7, ground := Ground.data }, { on := 8, ground := Ground.data }, { on := 5, ground := Ground.guard }], guard := some (5, false) }) (v := ?_) rfl (by kernel_rfl) (by kernel_rfl) (by kernel_rfl) (fun _ _ _ h => h) (Or.inl ⟨by rfl, fun W' hW' => ?_⟩) hcum ?_
                rotate_left 1
                · go_simp
                  try rfl
                try simp only [Act.put, List.setIfInBounds_toArray, List.set_cons_zero, List.set_cons_succ]
                refine wpAnyH_take (i := 10) (oi := { dst := some 146, op := Op.pick (Operand.tmp 141) (Operand.const (Value.bool true)) (Operand.tmp 145), type := 4, pos := "law.go:67", after := #[{ on := 5, ground := Ground.data }, { on := 9, ground := Ground.data }], guard := none }) (v := ?_) rfl (by kernel_rfl) (by kernel_rfl) (by kernel_rfl) (fun _ _ _ h => h) (Or.inl ⟨by rfl, fun W' hW' => ?_⟩) hcum ?_
                rotate_left 1
                · go_simp
                  try rfl
                try simp only [Act.put, List.setIfInBounds_toArray, List.set_cons_zero, List.set_cons_succ]
                refine wpAnyH_take (i := 11) (oi := { dst := some 147, op := Op.move (Operand.tmp 146), type := 4, pos := "law.go:67", after := #[{ on := 10, ground := Ground.data }, { on := 7, ground := Ground.chain }], guard := none }) (v := ?_) rfl (by kernel_rfl) (by kernel_rfl) (by kernel_rfl) (fun _ _ _ h => h) (Or.inl ⟨by rfl, fun W' hW' => ?_⟩) hcum ?_
                rotate_left 1
                · go_simp
                  try rfl
                try simp only [Act.put, List.setIfInBounds_toArray, List.set_cons_zero, List.set_cons_succ]
                refine wpAnyH_take (i := 12) (oi := { dst := some 148, op := Op.move (Operand.tmp 9), type := 32, pos := "law.go:67", after := #[{ on := 11, ground := Ground.guard }], guard := some (11, false) }) (v := ?_) rfl (by kernel_rfl) (by kernel_rfl) (by kernel_rfl) (fun _ _ _ h => h) (Or.inl ⟨by rfl, fun W' hW' => ?_⟩) hcum ?_
                rotate_left 1
                · go_simp
                  try rfl
                try simp only [Act.put, List.setIfInBounds_toArray, List.set_cons_zero, List.set_cons_succ]
                refine wpAnyH_take (i := 14) (oi := { dst := some 150, op := Op.move (Operand.tmp 13), type := 3, pos := "law.go:67", after := #[{ on := 11, ground := Ground.guard }], guard := some (11, false) }) (v := ?_) rfl (by kernel_rfl) (by kernel_rfl) (by kernel_rfl) (fun _ _ _ h => h) (Or.inl ⟨by rfl, fun W' hW' => ?_⟩) hcum ?_
                rotate_left 1
                · go_simp
                  try rfl
                try simp only [Act.put, List.setIfInBounds_toArray, List.set_cons_zero, List.set_cons_succ]
                refine wpAnyH_ready (rs := [13]) (by kernel_rfl) (by simp) ?_
                refine AllReadyH.cons (o := { dst := some 149, op := Op.call { callee := Callee.value (Operand.func 13), args := #[Operand.tmp 148], argTypes := #[32] }, type := 3, pos := "law.go:67", after := #[{ on := 12, ground := Ground.data }, { on := 11, ground := Ground.chain }, { on := 11, ground := Ground.guard }], guard := some (11, false) }) rfl (fun K hK => ?_) AllReadyH.nil
                rw [if_pos (by rfl)]
                go_simp
                refine (num3_any _ _).mono ?_
                rintro e V4 ⟨rfl, hVV⟩
                have hbe : Below V3.heap.size V3 V4 := hVV ▸ Below.refl _ _
                clear hVV
                have hcum := hcum.trans (hbe.mono hcum.size)
                refine hK.out _ _ hcum (fun _ => ?_)
                clear hK hbe
                try simp only [Act.put, List.setIfInBounds_toArray, List.set_cons_zero, List.set_cons_succ]
                refine wpAnyH_take (i := 15) (oi := { dst := some 151, op := Op.binOp BinOp.neq 3 (Operand.tmp 149) (Operand.tmp 150) 3, type := 4, pos := "law.go:67", after := #[{ on := 13, ground := Ground.data }, { on := 14, ground := Ground.data }, { on := 11, ground := Ground.guard }], guard := some (11, false) }) (v := ?_) rfl (by kernel_rfl) (by kernel_rfl) (by kernel_rfl) (fun _ _ _ h => h) (Or.inl ⟨by rfl, fun W' hW' => ?_⟩) hcum ?_
                rotate_left 1
                · go_simp
                  try rfl
                try simp only [Act.put, List.setIfInBounds_toArray, List.set_cons_zero, List.set_cons_succ]
                refine wpAnyH_take (i := 16) (oi := { dst := some 152, op := Op.pick (Operand.tmp 147) (Operand.const (Value.bool true)) (Operand.tmp 151), type := 4, pos := "law.go:67", after := #[{ on := 11, ground := Ground.data }, { on := 15, ground := Ground.data }], guard := none }) (v := ?_) rfl (by kernel_rfl) (by kernel_rfl) (by kernel_rfl) (fun _ _ _ h => h) (Or.inl ⟨by rfl, fun W' hW' => ?_⟩) hcum ?_
                rotate_left 1
                · go_simp
                  try rfl
                try simp only [Act.put, List.setIfInBounds_toArray, List.set_cons_zero, List.set_cons_succ]
                refine wpAnyH_take (i := 17) (oi := { dst := some 153, op := Op.move (Operand.tmp 152), type := 4, pos := "law.go:67", after := #[{ on := 16, ground := Ground.data }, { on := 13, ground := Ground.chain }], guard := none }) (v := ?_) rfl (by kernel_rfl) (by kernel_rfl) (by kernel_rfl) (fun _ _ _ h => h) (Or.inl ⟨by rfl, fun W' hW' => ?_⟩) hcum ?_
                rotate_left 1
                · go_simp
                  try rfl
                try simp only [Act.put, List.setIfInBounds_toArray, List.set_cons_zero, List.set_cons_succ]
                refine wpAnyH_take (i := 18) (oi := { dst := some 154, op := Op.move (Operand.tmp 11), type := 32, pos := "law.go:67", after := #[{ on := 17, ground := Ground.guard }], guard := some (17, false) }) (v := ?_) rfl (by kernel_rfl) (by kernel_rfl) (by kernel_rfl) (fun _ _ _ h => h) (Or.inl ⟨by rfl, fun W' hW' => ?_⟩) hcum ?_
                rotate_left 1
                · go_simp
                  try rfl
                try simp only [Act.put, List.setIfInBounds_toArray, List.set_cons_zero, List.set_cons_succ]
                refine wpAnyH_take (i := 20) (oi := { dst := some 156, op := Op.move (Operand.tmp 14), type := 3, pos := "law.go:67", after := #[{ on := 17, ground := Ground.guard }], guard := some (17, false) }) (v := ?_) rfl (by kernel_rfl) (by kernel_rfl) (by kernel_rfl) (fun _ _ _ h => h) (Or.inl ⟨by rfl, fun W' hW' => ?_⟩) hcum ?_
                rotate_left 1
                · go_simp
                  try rfl
                try simp only [Act.put, List.setIfInBounds_toArray, List.set_cons_zero, List.set_cons_succ]
                refine wpAnyH_ready (rs := [19]) (by kernel_rfl) (by simp) ?_
                refine AllReadyH.cons (o := { dst := some 155, op := Op.call { callee := Callee.value (Operand.func 13), args := #[Operand.tmp 154], argTypes := #[32] }, type := 3, pos := "law.go:67", after := #[{ on := 18, ground := Ground.data }, { on := 17, ground := Ground.chain }, { on := 17, ground := Ground.guard }], guard := some (17, false) }) rfl (fun K hK => ?_) AllReadyH.nil
                rw [if_pos (by rfl)]
                go_simp
                refine (num3_any _ _).mono ?_
                rintro e V5 ⟨rfl, hVV⟩
                have hbe : Below V4.heap.size V4 V5 := hVV ▸ Below.refl _ _
                clear hVV
                have hcum := hcum.trans (hbe.mono hcum.size)
                refine hK.out _ _ hcum (fun _ => ?_)
                clear hK hbe
                try simp only [Act.put, List.setIfInBounds_toArray, List.set_cons_zero, List.set_cons_succ]
                refine wpAnyH_take (i := 21) (oi := { dst := some 157, op := Op.binOp BinOp.neq 3 (Operand.tmp 155) (Operand.tmp 156) 3, type := 4, pos := "law.go:67", after := #[{ on := 19, ground := Ground.data }, { on := 20, ground := Ground.data }, { on := 17, ground := Ground.guard }], guard := some (17, false) }) (v := ?_) rfl (by kernel_rfl) (by kernel_rfl) (by kernel_rfl) (fun _ _ _ h => h) (Or.inl ⟨by rfl, fun W' hW' => ?_⟩) hcum ?_
                rotate_left 1
                · go_simp
                  try rfl
                try simp only [Act.put, List.setIfInBounds_toArray, List.set_cons_zero, List.set_cons_succ]
                refine wpAnyH_take (i := 22) (oi := { dst := some 158, op := Op.pick (Operand.tmp 153) (Operand.const (Value.bool true)) (Operand.tmp 157), type := 4, pos := "law.go:67", after := #[{ on := 17, ground := Ground.data }, { on := 21, ground := Ground.data }], guard := none }) (v := ?_) rfl (by kernel_rfl) (by kernel_rfl) (by kernel_rfl) (fun _ _ _ h => h) (Or.inl ⟨by rfl, fun W' hW' => ?_⟩) hcum ?_
                rotate_left 1
                · go_simp
                  try rfl
                try simp only [Act.put, List.setIfInBounds_toArray, List.set_cons_zero, List.set_cons_succ]
                refine wpAnyH_take (i := 23) (oi := { dst := some 159, op := Op.move (Operand.tmp 158), type := 4, pos := "law.go:67", after := #[{ on := 22, ground := Ground.data }, { on := 19, ground := Ground.chain }], guard := none }) (v := ?_) rfl (by kernel_rfl) (by kernel_rfl) (by kernel_rfl) (fun _ _ _ h => h) (Or.inl ⟨by rfl, fun W' hW' => ?_⟩) hcum ?_
                rotate_left 1
                · go_simp
                  try rfl
                try simp only [Act.put, List.setIfInBounds_toArray, List.set_cons_zero, List.set_cons_succ]
                refine wpAnyH_take (i := 24) (oi := { dst := some 160, op := Op.move (Operand.tmp 6), type := 3, pos := "law.go:67", after := #[{ on := 23, ground := Ground.guard }], guard := some (23, false) }) (v := ?_) rfl (by kernel_rfl) (by kernel_rfl) (by kernel_rfl) (fun _ _ _ h => h) (Or.inl ⟨by rfl, fun W' hW' => ?_⟩) hcum ?_
                rotate_left 1
                · go_simp
                  try rfl
                try simp only [Act.put, List.setIfInBounds_toArray, List.set_cons_zero, List.set_cons_succ]
                refine wpAnyH_take (i := 25) (oi := { dst := some 161, op := Op.move (Operand.tmp 15), type := 3, pos := "law.go:67", after := #[{ on := 23, ground := Ground.guard }], guard := some (23, false) }) (v := ?_) rfl (by kernel_rfl) (by kernel_rfl) (by kernel_rfl) (fun _ _ _ h => h) (Or.inl ⟨by rfl, fun W' hW' => ?_⟩) hcum ?_
                rotate_left 1
                · go_simp
                  try rfl
                try simp only [Act.put, List.setIfInBounds_toArray, List.set_cons_zero, List.set_cons_succ]
                refine wpAnyH_take (i := 26) (oi := { dst := some 162, op := Op.binOp BinOp.neq 3 (Operand.tmp 160) (Operand.tmp 161) 3, type := 4, pos := "law.go:67", after := #[{ on := 24, ground := Ground.data }, { on := 25, ground := Ground.data }, { on := 23, ground := Ground.guard }], guard := some (23, false) }) (v := ?_) rfl (by kernel_rfl) (by kernel_rfl) (by kernel_rfl) (fun _ _ _ h => h) (Or.inl ⟨by rfl, fun W' hW' => ?_⟩) hcum ?_
                rotate_left 1
                · go_simp
                  try rfl
                try simp only [Act.put, List.setIfInBounds_toArray, List.set_cons_zero, List.set_cons_succ]
                refine wpAnyH_take (i := 27) (oi := { dst := some 163, op := Op.pick (Operand.tmp 159) (Operand.const (Value.bool true)) (Operand.tmp 162), type := 4, pos := "law.go:67", after := #[{ on := 23, ground := Ground.data }, { on := 26, ground := Ground.data }], guard := none }) (v := ?_) rfl (by kernel_rfl) (by kernel_rfl) (by kernel_rfl) (fun _ _ _ h => h) (Or.inl ⟨by rfl, fun W' hW' => ?_⟩) hcum ?_
                rotate_left 1
                · go_simp
                  try rfl
                try simp only [Act.put, List.setIfInBounds_toArray, List.set_cons_zero, List.set_cons_succ]
                refine wpAnyH_take (i := 28) (oi := { dst := some 164, op := Op.move (Operand.tmp 163), type := 4, pos := "law.go:67", after := #[{ on := 27, ground := Ground.data }, { on := 23, ground := Ground.chain }], guard := none }) (v := ?_) rfl (by kernel_rfl) (by kernel_rfl) (by kernel_rfl) (fun _ _ _ h => h) (Or.inl ⟨by rfl, fun W' hW' => ?_⟩) hcum ?_
                rotate_left 1
                · go_simp
                  try rfl
                try simp only [Act.put, List.setIfInBounds_toArray, List.set_cons_zero, List.set_cons_succ]
                refine wpAnyH_take (i := 29) (oi := { dst := some 165, op := Op.load 30 (Operand.tmp 8), type := 30, pos := "law.go:67", after := #[{ on := 28, ground := Ground.guard }], guard := some (28, false) }) (v := ?_) rfl (by kernel_rfl) (by kernel_rfl) (by kernel_rfl) (fun _ _ _ h => h) (Or.inl ⟨by rfl, fun W' hW' => ?_⟩) hcum ?_
                rotate_left 1
                · (obtain ⟨⟨⟨a0, a1⟩, p0, p1, p2⟩, ⟨x0, x1, x2, _, _, _⟩, ⟨y0, y1, y2, _, _, _⟩, ⟨z0, z1, z2, _, _, _⟩, ⟨v0, v1, v2, _, _, _⟩, ⟨s0, s1, s2, _, _, _⟩⟩ := HLD.out W' hW'; go_simp)
                  try rfl
                try simp only [Act.put, List.setIfInBounds_toArray, List.set_cons_zero, List.set_cons_succ]
                refine wpAnyH_take (i := 30) (oi := { dst := some 166, op := Op.load 30 (Operand.tmp 16), type := 30, pos := "law.go:67", after := #[{ on := 28, ground := Ground.guard }], guard := some (28, false) }) (v := ?_) rfl (by kernel_rfl) (by kernel_rfl) (by kernel_rfl) (fun _ _ _ h => h) (Or.inl ⟨by rfl, fun W' hW' => ?_⟩) hcum ?_
                rotate_left 1
                · (obtain ⟨⟨⟨a0, a1⟩, p0, p1, p2⟩, ⟨x0, x1, x2, _, _, _⟩, ⟨y0, y1, y2, _, _, _⟩, ⟨z0, z1, z2, _, _, _⟩, ⟨v0, v1, v2, _, _, _⟩, ⟨s0, s1, s2, _, _, _⟩⟩ := HLD.out W' hW'; go_simp)
                  try rfl
                try simp only [Act.put, List.setIfInBounds_toArray, List.set_cons_zero, List.set_cons_succ]
                refine wpAnyH_ready (rs := [31]) (by kernel_rfl) (by simp) ?_
                refine AllReadyH.cons (o := { dst := some 167, op := Op.call { callee := Callee.value (Operand.func 14), args := #[Operand.tmp 165, Operand.tmp 166], argTypes := #[30, 30] }, type := 4, pos := "law.go:67", after := #[{ on := 29, ground := Ground.data }, { on := 30, ground := Ground.data }, { on := 28, ground := Ground.chain }, { on := 28, ground := Ground.guard }], guard := some (28, false) }) rfl (fun K hK => ?_) AllReadyH.nil
                rw [if_pos (by rfl)]
                go_simp
                have HC := eqMatrix_yes iR iR (.slice Ai iX.length ki) (.slice Aw iX.length kw) iX V5 (HId.out.below hcum) (HWd.out.below hcum) hix3
                unfold matV at HC
                with_reducible refine HC.mono ?_
                rintro e V6 ⟨rfl, hbe⟩
                clear HC
                have hcum := hcum.trans (hbe.mono hcum.size)
                refine hK.out _ _ hcum (fun _ => ?_)
                clear hK hbe
                try simp only [Act.put, List.setIfInBounds_toArray, List.set_cons_zero, List.set_cons_succ]
                refine wpAnyH_take (i := 32) (oi := { dst := some 168, op := Op.unOp UnOp.not 4 (Operand.tmp 167), type := 4, pos := "law.go:67", after := #[{ on := 31, ground := Ground.data }, { on := 28, ground := Ground.guard }], guard := some (28, false) }) (v := ?_) rfl (by kernel_rfl) (by kernel_rfl) (by kernel_rfl) (fun _ _ _ h => h) (Or.inl ⟨by rfl, fun W' hW' => ?_⟩) hcum ?_
                rotate_left 1
                · go_simp
                  try rfl
                try simp only [Act.put, List.setIfInBounds_toArray, List.set_cons_zero, List.set_cons_succ]
                refine wpAnyH_take (i := 33) (oi := { dst := some 169, op := Op.pick (Operand.tmp 164) (Operand.const (Value.bool true)) (Operand.tmp 168), type := 4, pos := "law.go:67", after := #[{ on := 28, ground := Ground.data }, { on := 32, ground := Ground.data }], guard := none }) (v := ?_) rfl (by kernel_rfl) (by kernel_rfl) (by kernel_rfl) (fun _ _ _ h => h) (Or.inl ⟨by rfl, fun W' hW' => ?_⟩) hcum ?_
                rotate_left 1
                · go_simp
                  try rfl
                try simp only [Act.put, List.setIfInBounds_toArray, List.set_cons_zero, List.set_cons_succ]
                refine wpAnyH_take (i := 34) (oi := { dst := some 170, op := Op.move (Operand.tmp 169), type := 4, pos := "law.go:67", after := #[{ on := 33, ground := Ground.data }, { on := 31, ground := Ground.chain }], guard := none }) (v := ?_) rfl (by kernel_rfl) (by kernel_rfl) (by kernel_rfl) (fun _ _ _ h => h) (Or.inl ⟨by rfl, fun W' hW' => ?_⟩) hcum ?_
                rotate_left 1
                · go_simp
                  try rfl
                try simp only [Act.put, List.setIfInBounds_toArray, List.set_cons_zero, List.set_cons_succ]
                refine wpAnyH_take (i := 35) (oi := { dst := some 171, op := Op.load 30 (Operand.tmp 10), type := 30, pos := "law.go:67", after := #[{ on := 34, ground := Ground.guard }], guard := some (34, false) }) (v := ?_) rfl (by kernel_rfl) (by kernel_rfl) (by kernel_rfl) (fun _ _ _ h => h) (Or.inl ⟨by rfl, fun W' hW' => ?_⟩) hcum ?_
                rotate_left 1
                · (obtain ⟨⟨⟨a0, a1⟩, p0, p1, p2⟩, ⟨x0, x1, x2, _, _, _⟩, ⟨y0, y1, y2, _, _, _⟩, ⟨z0, z1, z2, _, _, _⟩, ⟨v0, v1, v2, _, _, _⟩, ⟨s0, s1, s2, _, _, _⟩⟩ := HLD.out W' hW'; go_simp)
                  try rfl
                try simp only [Act.put, List.setIfInBounds_toArray, List.set_cons_zero, List.set_cons_succ]
                refine wpAnyH_take (i := 36) (oi := { dst := some 172, op := Op.load 30 (Operand.tmp 17), type := 30, pos := "law.go:67", after := #[{ on := 34, ground := Ground.guard }], guard := some (34, false) }) (v := ?_) rfl (by kernel_rfl) (by kernel_rfl) (by kernel_rfl) (fun _ _ _ h => h) (Or.inl ⟨by rfl, fun W' hW' => ?_⟩) hcum ?_
                rotate_left 1
                · (obtain ⟨⟨⟨a0, a1⟩, p0, p1, p2⟩, ⟨x0, x1, x2, _, _, _⟩, ⟨y0, y1, y2, _, _, _⟩, ⟨z0, z1, z2, _, _, _⟩, ⟨v0, v1, v2, _, _, _⟩, ⟨s0, s1, s2, _, _, _⟩⟩ := HLD.out W' hW'; go_simp)
                  try rfl
                try simp only [Act.put, List.setIfInBounds_toArray, List.set_cons_zero, List.set_cons_succ]
                refine wpAnyH_ready (rs := [37]) (by kernel_rfl) (by simp) ?_
                refine AllReadyH.cons (o := { dst := some 173, op := Op.call { callee := Callee.value (Operand.func 14), args := #[Operand.tmp 171, Operand.tmp 172], argTypes := #[30, 30] }, type := 4, pos := "law.go:67", after := #[{ on := 35, ground := Ground.data }, { on := 36, ground := Ground.data }, { on := 34, ground := Ground.chain }, { on := 34, ground := Ground.guard }], guard := some (34, false) }) rfl (fun K hK => ?_) AllReadyH.nil
                rw [if_pos (by rfl)]
                go_simp
                have HC := eqMatrix_yes pR pC (.slice Ap pX.length kpp) (.slice Ad pX.length kd) pX V6 (HPd.out.below hcum) (HDd.out.below hcum) hpx3
                unfold matV at HC
                with_reducible refine HC.mono ?_
                rintro e V7 ⟨rfl, hbe⟩
                clear HC
                have hcum := hcum.trans (hbe.mono hcum.size)
                refine hK.out _ _ hcum (fun _ => ?_)
                clear hK hbe
                try simp only [Act.put, List.setIfInBounds_toArray, List.set_cons_zero, List.set_cons_succ]
                refine wpAnyH_take (i := 38) (oi := { dst := some 174, op := Op.unOp UnOp.not 4 (Operand.tmp 173), type := 4, pos := "law.go:67", after := #[{ on := 37, ground := Ground.data }, { on := 34, ground := Ground.guard }], guard := some (34, false) }) (v := ?_) rfl (by kernel_rfl) (by kernel_rfl) (by kernel_rfl) (fun _ _ _ h => h) (Or.inl ⟨by rfl, fun W' hW' => ?_⟩) hcum ?_
                rotate_left 1
                · go_simp
                  try rfl
                try simp only [Act.put, List.setIfInBounds_toArray, List.set_cons_zero, List.set_cons_succ]
                refine wpAnyH_take (i := 39) (oi := { dst := some 175, op := Op.pick (Operand.tmp 170) (Operand.const (Value.bool true)) (Operand.tmp 174), type := 4, pos := "law.go:67", after := #[{ on := 34, ground := Ground.data }, { on := 38, ground := Ground.data }], guard := none }) (v := ?_) rfl (by kernel_rfl) (by kernel_rfl) (by kernel_rfl) (fun _ _ _ h => h) (Or.inl ⟨by rfl, fun W' hW' => ?_⟩) hcum ?_
                rotate_left 1
                · go_simp
                  try rfl
                try simp only [Act.put, List.setIfInBounds_toArray, List.set_cons_zero, List.set_cons_succ]
                refine wpAnyH_take (i := 40) (oi := { dst := some 176, op := Op.move (Operand.tmp 175), type := 4, pos := "law.go:67", after := #[{ on := 39, ground := Ground.data }, { on := 37, ground := Ground.chain }], guard := none }) (v := ?_) rfl (by kernel_rfl) (by kernel_rfl) (by kernel_rfl) (fun _ _ _ h => h) (Or.inl ⟨by rfl, fun W' hW' => ?_⟩) hcum ?_
                rotate_left 1
                · go_simp
                  try rfl
                try simp only [Act.put, List.setIfInBounds_toArray, List.set_cons_zero, List.set_cons_succ]
                refine wpAnyH_take (i := 41) (oi := { dst := some 177, op := Op.load 30 (Operand.tmp 4), type := 30, pos := "law.go:67", after := #[{ on := 40, ground := Ground.guard }], guard := some (40, false) }) (v := ?_) rfl (by kernel_rfl) (by kernel_rfl) (by kernel_rfl) (fun _ _ _ h => h) (Or.inl ⟨by rfl, fun W' hW' => ?_⟩) hcum ?_
                rotate_left 1
                · (obtain ⟨⟨⟨a0, a1⟩, p0, p1, p2⟩, ⟨x0, x1, x2, _, _, _⟩, ⟨y0, y1, y2, _, _, _⟩, ⟨z0, z1, z2, _, _, _⟩, ⟨v0, v1, v2, _, _, _⟩, ⟨s0, s1, s2, _, _, _⟩⟩ := HLD.out W' hW'; go_simp)
                  try rfl
                try simp only [Act.put, List.setIfInBounds_toArray, List.set_cons_zero, List.set_cons_succ]
                refine wpAnyH_take (i := 42) (oi := { dst := some 178, op := Op.fieldAddr 26 (Operand.tmp 1) 0, type := 0, pos := "law.go:67", after := #[{ on := 40, ground := Ground.guard }], guard := some (40, false) }) (v := ?_) rfl (by kernel_rfl) (by kernel_rfl) (by kernel_rfl) (fun _ _ _ h => h) (Or.inl ⟨by rfl, fun W' hW' => ?_⟩) hcum ?_
                rotate_left 1
                · go_simp
                  try rfl
                try simp only [Act.put, List.setIfInBounds_toArray, List.set_cons_zero, List.set_cons_succ]
                refine wpAnyH_take (i := 43) (oi := { dst := some 179, op := Op.load 22 (Operand.tmp 178), type := 22, pos := "law.go:67", after := #[{ on := 42, ground := Ground.data }, { on := 40, ground := Ground.guard }], guard := some (40, false) }) (v := ?_) rfl (by kernel_rfl) (by kernel_rfl) (by kernel_rfl) (fun _ _ _ h => h) (Or.inl ⟨by rfl, fun W' hW' => ?_⟩) hcum ?_
                rotate_left 1
                · (obtain ⟨⟨⟨a0, a1⟩, p0, p1, p2⟩, ⟨x0, x1, x2, _, _, _⟩, ⟨y0, y1, y2, _, _, _⟩, ⟨z0, z1, z2, _, _, _⟩, ⟨v0, v1, v2, _, _, _⟩, ⟨s0, s1, s2, _, _, _⟩⟩ := HLD.out W' hW'; go_simp)
                  try rfl
                try simp only [Act.put, List.setIfInBounds_toArray, List.set_cons_zero, List.set_cons_succ]
                refine wpAnyH_take (i := 44) (oi := { dst := some 180, op := Op.move (Operand.tmp 3), type := 3, pos := "law.go:67", after := #[{ on := 40, ground := Ground.guard }], guard := some (40, false) }) (v := ?_) rfl (by kernel_rfl) (by kernel_rfl) (by kernel_rfl) (fun _ _ _ h => h) (Or.inl ⟨by rfl, fun W' hW' => ?_⟩) hcum ?_
                rotate_left 1
                · go_simp
                  try rfl
                try simp only [Act.put, List.setIfInBounds_toArray, List.set_cons_zero, List.set_cons_succ]
                refine wpAnyH_take (i := 45) (oi := { dst := some 181, op := Op.indexAddr 22 (Operand.tmp 179) (Operand.tmp 180), type := 0, pos := "law.go:67", after := #[{ on := 43, ground := Ground.data }, { on := 44, ground := Ground.data }, { on := 40, ground := Ground.guard }], guard := some (40, false) }) (v := ?_) rfl (by kernel_rfl) (by kernel_rfl) (by kernel_rfl) (fun _ _ _ h => h) (Or.inl ⟨by rfl, fun W' hW' => ?_⟩) hcum ?_
                rotate_left 1
                · go_simp
                  try rfl
                try simp only [Act.put, List.setIfInBounds_toArray, List.set_cons_zero, List.set_cons_succ]
                refine wpAnyH_take (i := 46) (oi := { dst := some 182, op := Op.load 30 (Operand.tmp 181), type := 30, pos := "law.go:67", after := #[{ on := 45, ground := Ground.data }, { on := 40, ground := Ground.guard }], guard := some (40, false) }) (v := ?_) rfl (by kernel_rfl) (by kernel_rfl) (by kernel_rfl) (fun _ _ _ h => h) (Or.inl ⟨by rfl, fun W' hW' => ?_⟩) hcum ?_
                rotate_left 1
                · (obtain ⟨⟨⟨a0, a1⟩, p0, p1, p2⟩, ⟨x0, x1, x2, _, _, _⟩, ⟨y0, y1, y2, _, _, _⟩, ⟨z0, z1, z2, _, _, _⟩, ⟨v0, v1, v2, _, _, _⟩, ⟨s0, s1, s2, _, _, _⟩⟩ := HLD.out W' hW'; go_simp)
                  try rfl
                try simp only [Act.put, List.setIfInBounds_toArray, List.set_cons_zero, List.set_cons_succ]
                refine wpAnyH_ready (rs := [47]) (by kernel_rfl) (by simp) ?_
                refine AllReadyH.cons (o := { dst := some 183, op := Op.call { callee := Callee.value (Operand.func 14), args := #[Operand.tmp 177, Operand.tmp 182], argTypes := #[30, 30] }, type := 4, pos := "law.go:67", after := #[{ on := 41, ground := Ground.data }, { on := 46, ground := Ground.data }, { on := 40, ground := Ground.chain }, { on := 40, ground := Ground.guard }], guard := some (40, false) }) rfl (fun K hK => ?_) AllReadyH.nil
                rw [if_pos (by rfl)]
                go_simp
                have HC := eqMatrix_yes Ra Ca (.slice A3 ms.length c3) (.slice A1 ms.length c1) ms V7 (HXd.out.below hcum) (HVd.out.below hcum) (by omega)
                unfold matV at HC
                with_reducible refine HC.mono ?_
                rintro e V8 ⟨rfl, hbe⟩
                clear HC
                have hcum := hcum.trans (hbe.mono hcum.size)
                refine hK.out _ _ hcum (fun _ => ?_)
                clear hK hbe
                try simp only [Act.put, List.setIfInBounds_toArray, List.set_cons_zero, List.set_cons_succ]
                refine wpAnyH_take (i := 48) (oi := { dst := some 184, op := Op.unOp UnOp.not 4 (Operand.tmp 183), type := 4, pos := "law.go:67", after := #[{ on := 47, ground := Ground.data }, { on := 40, ground := Ground.guard }], guard := some (40, false) }) (v := ?_) rfl (by kernel_rfl) (by kernel_rfl) (by kernel_rfl) (fun _ _ _ h => h) (Or.inl ⟨by rfl, fun W' hW' => ?_⟩) hcum ?_
                rotate_left 1
                · go_simp
                  try rfl
                try simp only [Act.put, List.setIfInBounds_toArray, List.set_cons_zero, List.set_cons_succ]
                refine wpAnyH_take (i := 49) (oi := { dst := some 185, op := Op.pick (Operand.tmp 176) (Operand.const (Value.bool true)) (Operand.tmp 184), type := 4, pos := "law.go:67", after := #[{ on := 40, ground := Ground.data }, { on := 48, ground := Ground.data }], guard := none }) (v := ?_) rfl (by kernel_rfl) (by kernel_rfl) (by kernel_rfl) (fun _ _ _ h => h) (Or.inl ⟨by rfl, fun W' hW' => ?_⟩) hcum ?_
                rotate_left 1
                · go_simp
                  try rfl
                try simp only [Act.put, List.setIfInBounds_toArray, List.set_cons_zero, List.set_cons_succ]
                refine wpAnyH_done (by kernel_rfl) ?_ _
                go_wp2_with fail
                go_meet
                exact ⟨rfl, Lib.hid hcum⟩
            case rest =>
              obtain ⟨we, rfl⟩ : ∃ we : World, we = wc := ⟨_, rfl⟩
              obtain ⟨rfl, HBe⟩ := hcut
              obtain ⟨⟨⟨a0, a1⟩, p0, p1, p2⟩, ⟨x0, x1, x2, _, _, _⟩, ⟨y0, y1, y2, _, _, _⟩, ⟨z0, z1, z2, _, _, _⟩, _, _⟩ := HLD.out _ HBe.out
              go_wp2_with fail
              refine (bytes_kept (.slice Ai iX.length ki) Xi ni we (HSPd.out.below HBe.out)).mono ?_
              rintro e V1 ⟨rfl, hk1⟩
              have HK1 := Lib.hid hk1
              have TP1 := Lib.hid ((TPd.out.below HBe.out).below' hk1 (by rintro ⟨h0, h1⟩; have := HXI.out h0; omega))
              have HSQ1 := Lib.hid ((HSQd.out.below HBe.out).kept hk1 (by rintro h0 ⟨h1, h2⟩; have := HXI.out h1; have := HXP.out h0; omega))
              clear hk1 a0 a1 p0 p1 p2 x0 x1 x2 y0 y1 y2 z0 z1 z2
              obtain ⟨z0, z1, z2, _, _, _⟩ := TP1.out
              go_wp2_with fail
              refine (bytes_kept (.slice Ap pX.length kpp) Xp np V1 HSQ1.out).mono ?_
              rintro e wf ⟨rfl, hk2⟩
              have HB6e := Lib.hid (cum2 HB6d.out HBe.out)
              have HB6f : Hid (Below W6.heap.size W6 wf) := HB6e.out.trans ((HK1.out.below HB6e.out.size (fun j hj ⟨h0, h1⟩ => by have := HXI.out h0; omega)).trans (hk2.below (Nat.le_trans HB6e.out.size HK1.out.size) (fun j hj ⟨h0, h1⟩ => by have := HXP.out h0; omega)))
              have HBf := Lib.hid (cum2 HB6.out HB6f.out)
              have HLE := Lib.hid (fun W' (h : Below wf.heap.size wf W') => And.intro (HF.out W' (cum2 HBf.out h)) ((T6.out.below HB6f.out).below h))
              have HXe := Lib.hid (HX6.out.below HB6f.out)
              have HVe := Lib.hid (HVA.out.below HBf.out)
              clear hk2 z0 z1 z2
              go_upto_region 31 with fail
              go_cut [199] from 192 to 199 (fun cv wx => cv = .bool false ∧ Hid (Below wf.heap.size wf wx))
              case first =>
                as_aux_lemma =>
                  refine wp_region_held (S := fun W' => Below wf.heap.size wf W') (by kernel_rfl) ?_
                  change wpAnyH _ _ _ _ _ 8 _ _ wf.drew
                  have hcum := (Below.refl wf.heap.size wf).drew
                  generalize wf.drew = V0 at *
                  refine wpAnyH_take (i := 0) (oi := { dst := some 192, op := Op.load 30 (Operand.tmp 4), type := 30, pos := "law.go:72", after := #[], guard := none }) (v := ?_) rfl (by kernel_rfl) (by kernel_rfl) (by kernel_rfl) (fun _ _ _ h => h) (Or.inl ⟨by rfl, fun W' hW' => ?_⟩) hcum ?_
                  rotate_left 1
                  · (obtain ⟨⟨⟨a0, a1⟩, p0, p1, p2⟩, ⟨x0, x1, x2, _, _, _⟩⟩ := HLE.out W' hW'; go_simp)
                    try rfl
                  try simp only [Act.put, List.setIfInBounds_toArray, List.set_cons_zero, List.set_cons_succ]
                  refine wpAnyH_take (i := 1) (oi := { dst := some 193, op := Op.fieldAddr 26 (Operand.tmp 1) 0, type := 0, pos := "law.go:72", after := #[], guard := none }) (v := ?_) rfl (by kernel_rfl) (by kernel_rfl) (by kernel_rfl) (fun _ _ _ h => h) (Or.inl ⟨by rfl, fun W' hW' => ?_⟩) hcum ?_
                  rotate_left 1
                  · go_simp
                    try rfl
                  try simp only [Act.put, List.setIfInBounds_toArray, List.set_cons_zero, List.set_cons_succ]
                  refine wpAnyH_take (i := 2) (oi := { dst := some 194, op := Op.load 22 (Operand.tmp 193), type := 22, pos := "law.go:72", after := #[{ on := 1, ground := Ground.data }], guard := none }) (v := ?_) rfl (by kernel_rfl) (by kernel_rfl) (by kernel_rfl) (fun _ _ _ h => h) (Or.inl ⟨by rfl, fun W' hW' => ?_⟩) hcum ?_
                  rotate_left 1
                  · (obtain ⟨⟨⟨a0, a1⟩, p0, p1, p2⟩, ⟨x0, x1, x2, _, _, _⟩⟩ := HLE.out W' hW'; go_simp)
                    try rfl
                  try simp only [Act.put, List.setIfInBounds_toArray, List.set_cons_zero, List.set_cons_succ]
                  refine wpAnyH_take (i := 3) (oi := { dst := some 195, op := Op.move (Operand.tmp 3), type := 3, pos := "law.go:72", after := #[], guard := none }) (v := ?_) rfl (by kernel_rfl) (by kernel_rfl) (by kernel_rfl) (fun _ _ _ h => h) (Or.inl ⟨by rfl, fun W' hW' => ?_⟩) hcum ?_
                  rotate_left 1
                  · go_simp
                    try rfl
                  try simp only [Act.put, List.setIfInBounds_toArray, List.set_cons_zero, List.set_cons_succ]
                  refine wpAnyH_take (i := 4) (oi := { dst := some 196, op := Op.indexAddr 22 (Operand.tmp 194) (Operand.tmp 195), type := 0, pos := "law.go:72", after := #[{ on := 2, ground := Ground.data }, { on := 3, ground := Ground.data }], guard := none }) (v := ?_) rfl (by kernel_rfl) (by kernel_rfl) (by kernel_rfl) (fun _ _ _ h => h) (Or.inl ⟨by rfl, fun W' hW' => ?_⟩) hcum ?_
                  rotate_left 1
                  · go_simp
                    try rfl
                  try simp only [Act.put, List.setIfInBounds_toArray, List.set_cons_zero, List.set_cons_succ]
                  refine wpAnyH_take (i := 5) (oi := { dst := some 197, op := Op.load 30 (Operand.tmp 196), type := 30, pos := "law.go:72", after := #[{ on := 4, ground := Ground.data }], guard := none }) (v := ?_) rfl (by kernel_rfl) (by kernel_rfl) (by kernel_rfl) (fun _ _ _ h => h) (Or.inl ⟨by rfl, fun W' hW' => ?_⟩) hcum ?_
                  rotate_left 1
                  · (obtain ⟨⟨⟨a0, a1⟩, p0, p1, p2⟩, ⟨x0, x1, x2, _, _, _⟩⟩ := HLE.out W' hW'; go_simp)
                    try rfl
                  try simp only [Act.put, List.setIfInBounds_toArray, List.set_cons_zero, List.set_cons_succ]
                  refine wpAnyH_ready (rs := [6]) (by kernel_rfl) (by simp) ?_
                  refine AllReadyH.cons (o := { dst := some 198, op := Op.call { callee := Callee.value (Operand.func 14), args := #[Operand.tmp 192, Operand.tmp 197], argTypes := #[30, 30] }, type := 4, pos := "law.go:72", after := #[{ on := 0, ground := Ground.data }, { on := 5, ground := Ground.data }], guard := none }) rfl (fun K hK => ?_) AllReadyH.nil
                  rw [if_pos (by rfl)]
                  go_simp
                  have HC := eqMatrix_yes Ra Ca (.slice A3 ms.length c3) (.slice A1 ms.length c1) ms V0 (HXe.out.below hcum) (HVe.out.below hcum) (by omega)
                  unfold matV at HC
                  with_reducible refine HC.mono ?_
                  rintro e V1 ⟨rfl, hbe⟩
                  clear HC
                  have hcum := hcum.trans (hbe.mono hcum.size)
                  refine hK.out _ _ hcum (fun _ => ?_)
                  clear hK hbe
                  try simp only [Act.put, List.setIfInBounds_toArray, List.set_cons_zero, List.set_cons_succ]
                  refine wpAnyH_take (i := 7) (oi := { dst := some 199, op := Op.unOp UnOp.not 4 (Operand.tmp 198), type := 4, pos := "law.go:72", after := #[{ on := 6, ground := Ground.data }], guard := none }) (v := ?_) rfl (by kernel_rfl) (by kernel_rfl) (by kernel_rfl) (fun _ _ _ h => h) (Or.inl ⟨by rfl, fun W' hW' => ?_⟩) hcum ?_
                  rotate_left 1
                  · go_simp
                    try rfl
                  try simp only [Act.put, List.setIfInBounds_toArray, List.set_cons_zero, List.set_cons_succ]
                  refine wpAnyH_done (by kernel_rfl) ?_ _
                  go_wp2_with fail
                  go_meet
                  exact ⟨rfl, Lib.hid hcum⟩
              case rest =>
                obtain ⟨rfl, HBg⟩ := hcut
                have HBn := Lib.hid (HB.out.trans ((cum2 HBf.out HBg.out).mono HB.out.size))
                go_wp2_with fail
                go_roundw
                case rel => exact ⟨i + 1, by go_num, by omega, HBn⟩
                case measure => simp [intOf]; omega
        · have hid : (decide ((i : Int) < (l.length : Int)) && decide ((i : Int) < 4)) = false := by simp; omega
          by_cases h3 : i < l.length
          all_goals
            go_wp2_with fail
            go_meet
            exact HB
    case rest =>
      obtain ⟨wt, rfl⟩ : ∃ wt : World, wt = wc := ⟨_, rfl⟩
      have HB := hcut
      clear hcut
      go_wp2_with fail
      go_loopw [22] (fun nn wr => ∃ z : Int, nn = .int .i64 z ∧ -1 ≤ z ∧ z ≤ 18 ∧ Hid (Below ws.heap.size ws wr)) (fun nn _ => (18 - intOf nn).toNat)
      case atStart => exact ⟨-1, rfl, by omega, by omega, HB⟩
      case round =>
        obtain ⟨wq, rfl⟩ : ∃ wq : World, wq = wr := ⟨_, rfl⟩
        obtain ⟨z, rfl, z1, z2, HBq⟩ := hrel
        by_cases hz : z ≤ 17
        · have hd : decide (z ≤ 17) = true := by simp; omega
          have w1 : IntKind.i64.wrap (z + 1) = z + 1 := IntWalk.i64_in _ (by omega)
          obtain ⟨k, hk⟩ : ∃ k, k = decide (1 ≤ z ∧ z ≤ 16) := ⟨_, rfl⟩
          have HK := Lib.hid hk
          clear hk
          go_wp2_with fail
          have HC := one_all z k HK.out.symm wq
          obtain ⟨oR, hoR⟩ : ∃ x, x = mulR k z := ⟨_, rfl⟩
          obtain ⟨oE, hoE⟩ : ∃ x, x = mulE k := ⟨_, rfl⟩
          obtain ⟨oX, hoX⟩ : ∃ x, x = oneX k z := ⟨_, rfl⟩
          rw [← hoR, ← hoE, ← hoX] at HC
          have HOR := Lib.hid hoR
          have HOE := Lib.hid hoE
          have HOX := Lib.hid hoX
          have hx0 : oX.length ≤ 1000 := by
            rw [hoX, oneX]
            split
            · have h := of_decide_eq_true (p := 1 ≤ z ∧ z ≤ 16) (by rw [← HK.out]; assumption)
              rw [oneL_length]
              exact Nat.le_trans (Nat.mul_le_mul (show z.toNat ≤ 16 by omega) (show z.toNat ≤ 16 by omega)) (by omega)
            · simp
          have HX0 := Lib.hid hx0
          clear hoR hoE hoX hx0
          unfold matV at HC
          with_reducible refine HC.mono ?_
          rintro e V1 ⟨vl, rfl, hvl, hb1⟩
          obtain ⟨Al, kl, rfl⟩ := hvl.shape
          obtain ⟨o3, ho3⟩ : ∃ o, o = (Obj.cells #[.int .i64 oR, .int .i64 oR, .slice Al oX.length kl] 30) := ⟨_, rfl⟩
          have t3 := Three.new V1 (.int .i64 oR) (.int .i64 oR) (.slice Al oX.length kl) 30
          rw [← ho3] at t3
          have hal := (Below.refl V1.heap.size V1).alloc (Nat.le_refl _) o3
          have HB3 := Lib.hid (HBq.out.trans ((cum2 hb1 hal).mono HBq.out.size))
          have T3 := Lib.hid t3
          have HX3 := Lib.hid (hvl.below hal)
          obtain ⟨x0, x1, x2, _, _, _⟩ := t3
          rw [ho3] at x0 x1 x2
          clear hal hb1 hvl HC
          go_upto_region 37 with fail
          rw [← ho3]
          clear x0 x1 x2 ho3
          generalize V1.alloc o3 = W3 at *
          generalize V1.heap.size = b3 at *
          have t26 := Three.new W3 (.int .i64 0) (.int .i64 0) (.slice none 0 0) 30
          have hc26 := (Below.refl W3.heap.size W3).alloc (Nat.le_refl _) (.cells #[.int .i64 0, .int .i64 0, .slice none 0 0] 30)
          have T26 := Lib.hid t26
          have HC26 := Lib.hid hc26
          clear t26 hc26
          go_upto_if 210 with (first | (go_at_call 25; refine (between3_any z k HK.out.symm _).mono ?_; rintro e w' ⟨rfl, rfl⟩))
          generalize W3.alloc (.cells #[.int .i64 0, .int .i64 0, .slice none 0 0] 30) = U at *
          go_cut [25] from 210 to 212 (fun ev wx => ev = .int .i64 oE ∧ ∃ Aw kw, Three wx W3.heap.size (.int .i64 oR) (.int .i64 oR) (.slice Aw oX.length kw) ∧ BytesV wx (.slice Aw oX.length kw) oX ∧ Hid (Below W3.heap.size W3 wx))
          case first =>
            as_aux_lemma =>
              cases k
              · have e1 : oE = 1 := HOE.out
                have e2 : oR = 0 := HOR.out
                have e3 : oX = [] := HOX.out
                subst e1 e2 e3
                go_wp2_with fail
                go_meet
                exact ⟨rfl, none, 0, T26.out, bytesV_nil _ _ _, HC26⟩
              · have hn := of_decide_eq_true HK.out.symm
                obtain ⟨n, rfl⟩ : ∃ n : Nat, z = (n : Int) := ⟨z.toNat, by omega⟩
                have e1 : oE = 0 := HOE.out
                have e2 : oR = (n : Int) := HOR.out
                have e3 : oX = oneL n n := HOX.out
                subst e1 e2 e3
                go_wp2_with fail
                refine (refOne_any n (by omega) (by omega) U).mono ?_
                rintro e U2 ⟨vm, rfl, hmd, hb2⟩
                obtain ⟨vj, rfl, hvj⟩ := hmd.bytes
                obtain ⟨Aj, kj, rfl⟩ := hvj.shape
                have t2 := T26.out.below hb2
                have hcum := HC26.out.trans (hb2.mono HC26.out.size)
                have hcum := ((hcum.setCell (p := ⟨W3.heap.size, 0, none⟩) (by dsimp only; omega) (.int .i64 (n : Int))).setCell (p := ⟨W3.heap.size, 1, none⟩) (by dsimp only; omega) (.int .i64 (n : Int))).setCell (p := ⟨W3.heap.size, 2, none⟩) (by dsimp only; omega) (.slice Aj (oneL n n).length kj)
                have hvj := bytesV_three hvj t2 (.int .i64 (n : Int)) (.int .i64 (n : Int)) (.slice Aj (oneL n n).length kj)
                have HCU := Lib.hid hcum
                have HVJ := Lib.hid hvj
                have T2 := Lib.hid t2
                obtain ⟨u0, u1, u2, u3, u4, u5⟩ := t2
                clear hb2 hcum hvj
                unfold matV
                go_wp2_with fail
                go_meet
                exact ⟨rfl, Aj, kj, three_put T2.out _ _ _, HVJ.out, HCU⟩
          case rest =>
            obtain ⟨wd, rfl⟩ : ∃ wd : World, wd = wc := ⟨_, rfl⟩
            obtain ⟨rfl, Aw, kw, t26, hw26, HCw⟩ := hcut
            have TW := Lib.hid t26
            have HWd := Lib.hid hw26
            have TX := Lib.hid (T3.out.below HCw.out)
            have HXd := Lib.hid (HX3.out.below HCw.out)
            have HBd := Lib.hid (HB3.out.trans (HCw.out.mono HB3.out.size))
            have hx9 : oX.length ≤ 9000000000000000000 := Nat.le_trans HX0.out (by omega)
            obtain ⟨x0, x1, x2, _, _, _⟩ := TX.out
            obtain ⟨y0, y1, y2, _, _, _⟩ := TW.out
            clear t26 hw26 T26 HC26 T3 HX3 HB3
            go_wp2_with (first | (go_at_call 13; refine (num3_any _ _).mono ?_; rintro e wn ⟨rfl, rfl⟩))
            have HC := eqMatrix_yes oR oR (.slice Al oX.length kl) (.slice Aw oX.length kw) oX wd HXd.out HWd.out hx9
            unfold matV at HC
            with_reducible refine HC.mono ?_
            rintro e V5 ⟨rfl, hb5⟩
            have HBn := Lib.hid (HBd.out.trans (hb5.mono HBd.out.size))
            clear HC hb5 x0 x1 x2 y0 y1 y2
            go_wp2_with fail
            go_roundw
            case rel => exact ⟨z + 1, by go_num, by omega, by omega, HBn⟩
            case measure => simp [intOf]; omega
        · have hd : decide (z ≤ 17) = false := by simp; omega
          have HB2 := Lib.hid (HB1.out.trans (HBq.out.mono HB1.out.size))
          go_wp2_with fail
          refine (wakes3_any _).mono ?_
          rintro e w5 ⟨rfl, hb5⟩
          have hfin := HB2.out.trans (hb5.mono HB2.out.size)
          clear hb5
          go_wp2_with fail
          go_ret
          exact ⟨rfl, hfin⟩
  · go_wp2_with fail
    go_ret
    exact ⟨rfl, HB1.out⟩
end Go.Proofs.Ytibinkppbdeofaa
