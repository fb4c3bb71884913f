/- MatrixBack: the law's walk. -/
import Derived.Test.YtibinkppbdeofaaPk17LawMatrixBack
import Derived.Test.YtibinkppbdeofaaPk19LawMatrixBack
import Derived.Test.YtibinkppbdeofaaPk09LawMatrixBack
import Derived.OrdersHeld
import Derived.Deep.RegionHeld
import Derived.Deep.QuietTactic
import Derived.BigQuiet
namespace Go.Proofs.Ytibinkppbdeofaa
open Go.ChangeShapes Go.WideShapes Go.ChangeAt Go.RowKit Go.Joins Go.Shelf
set_option linter.unusedVariables false
set_option linter.unusedSimpArgs false

set_option maxRecDepth 100000 in
set_option maxHeartbeats 8000000 in
theorem matrixBack_walk (vM vN vL : Value) (l : List M3) (zs : List Int) (ss : List ByteArray) (w : World) (hM : MatsIn w vM l) (hN : NumsIn w vN zs) (hL : TextsIn w vL ss) :
    Calls Try.prog 5 #[.agg #[vM, vN, vL]] w fun e w' => e = .returned (.bool true) ∧ Below w.heap.size w w' := by
  have tA := Three.new w vM vN vL 26
  have hbe := (Below.refl w.heap.size w).alloc (Nat.le_refl _) (.cells #[vM, vN, vL] 26)
  have TA := Lib.hid tA
  have HBE := Lib.hid hbe
  have HM := Lib.hid (hM.below hbe)
  have HHV := heavy3_weak vM vN vL l zs ss (w.alloc (.cells #[vM, vN, vL] 26)) (hM.below hbe) (by
    refine ⟨hN.1, ?_⟩
    rcases hN.2 with h | ⟨b, o, c, e, h0, hm, hb, hc⟩
    · exact Or.inl h
    · exact Or.inr ⟨b, o, c, e, h0, hm, Nat.lt_of_lt_of_le hb hbe.size, fun i hi => below_celllt (hc i hi) hb ((Below.refl w.heap.size w).alloc (Nat.le_refl _) _)⟩) (textsIn_below hL hbe)
  have HHX := Lib.hid HHV
  obtain ⟨zp, zc, zl, rfl⟩ : ∃ p c n, vN = .slice p n c := by
    rcases hN.2 with ⟨_, p, c, rfl⟩ | ⟨b, o, c, rfl, _⟩
    · exact ⟨_, _, _, rfl⟩
    · exact ⟨_, _, _, rfl⟩
  obtain ⟨A, c, rfl, hll, _⟩ := hM
  obtain ⟨pL, kL, rfl, _⟩ := hL
  obtain ⟨a0, a1, a2, _, _, _⟩ := tA
  clear hbe hN HHV
  go_enter Try.func5, Try.ntmps5
  go_wp2_with fail
  clear a0 a1 a2
  generalize w.alloc (.cells #[.slice A l.length c, .slice zp zl zc, .slice pL ss.length kL] 26) = W0 at *
  refine HHX.out.mono ?_
  rintro e w1 ⟨⟨bo, rfl⟩, hb1⟩
  have TA1 := Lib.hid (TA.out.below hb1)
  have HM1 := Lib.hid (HM.out.below hb1)
  have HB1 := Lib.hid (HBE.out.trans (hb1.mono HBE.out.size))
  clear hb1 TA HM HHX
  cases bo
  · go_wp2_with fail
    go_loopw [3] (fun nn wr => ∃ i : Nat, nn = .int .i64 i ∧ i ≤ 4 ∧ Hid (Below w1.heap.size w1 wr)) (fun nn _ => 4 - (intOf nn).toNat)
    case atStart => exact ⟨0, rfl, by omega, Lib.hid (Below.refl _ _)⟩
    case round =>
      obtain ⟨i, rfl, hi4, HB⟩ := hrel
      obtain ⟨a0, a1, a2, _, _, _⟩ := TA1.out.below HB.out
      by_cases hil : i < l.length ∧ i < 4
      · obtain ⟨hl0, hi3⟩ := hil
        have hid : (decide ((i : Int) < (l.length : Int)) && decide ((i : Int) < 4)) = true := by simp; omega
        obtain ⟨b, o, R, C, A', ns, k', rfl, hb, k0, k1, k2, hns, hnk, hk', hR, hC⟩ := mats_at (HM1.out.below HB.out) hl0
        obtain ⟨o4, ho4⟩ : ∃ o, o = (Obj.cells #[.int .i64 R, .int .i64 C, .slice A' ns.length k'] 30) := ⟨_, rfl⟩
        have t4 := Three.new wr (.int .i64 R) (.int .i64 C) (.slice A' ns.length k') 30
        rw [← ho4] at t4
        have hb4 := (Below.refl wr.heap.size wr).alloc (Nat.le_refl _) o4
        have HB4 := Lib.hid (cum2 HB.out hb4)
        have HV := Lib.hid (hns.below hb4)
        have T4 := Lib.hid t4
        have HNK := Lib.hid (And.intro hnk hk')
        obtain ⟨x0, x1, x2, _, _, _⟩ := t4
        rw [ho4] at x0 x1 x2
        clear hb4 hns hnk hk' hR hC
        go_wp2_with fail
        rw [← ho4]
        clear x0 x1 x2 ho4 k0 k1 k2
        generalize wr.alloc o4 = W4 at *
        generalize wr.heap.size = b4 at *
        cases hmay : mayM R C ns.length
        · have HRK := rank_no R C A' ns.length k' W4 (by have := HNK.out; omega) hmay
          unfold matV at HRK
          refine HRK.mono ?_
          rintro e w5 ⟨rfl, hb5⟩
          have HB5 := Lib.hid (cum2 HB4.out hb5)
          clear hb5 hmay HB4 T4 HV
          go_wp2_with (first | (go_at_call 13; refine (num3_any _ _).mono ?_; rintro e wn ⟨rfl, rfl⟩))
          go_roundw
          case rel => exact ⟨i + 1, by go_num, by omega, HB5⟩
          case measure => simp [intOf]; omega
        · obtain ⟨r, cc, rfl, rfl, r1, r16, c1, c16, hrc⟩ := mayM_yes hmay
          have hns1 : 1 ≤ ns.length := by rw [hrc]; exact Nat.mul_le_mul r1 c1
          have hns2 : ns.length ≤ 256 := by rw [hrc]; exact Nat.mul_le_mul r16 c16
          obtain ⟨b3, o3, rfl, hb3, m2⟩ := HV.out.at_ (show 0 < ns.length by omega)
          clear hb3 m2
          have HRC := Lib.hid hrc
          have HRK := rank_yes r cc b3 o3 k' ns W4 HV.out hrc r1 r16 c1 c16
          unfold matV at HRK
          have hrl := rankL_le r cc ns
          clear hrc
          refine HRK.mono ?_
          rintro e w5 ⟨rfl, hb5⟩
          have HB5 := Lib.hid (cum2 HB4.out hb5)
          have HV5 := Lib.hid (HV.out.below hb5)
          have T5 := Lib.hid (T4.out.below hb5)
          clear hb5 HB4 HV T4
          obtain ⟨x0, x1, x2, _, _, _⟩ := T5.out
          obtain ⟨rk, hrk⟩ : ∃ rk, rk = rankL r cc ns := ⟨_, rfl⟩
          rw [← hrk] at hrl ⊢
          have HRKE := Lib.hid hrk
          clear hrk
          go_wp2_with (first | (go_at_call 13; refine (num3_any _ _).mono ?_; rintro e wn ⟨rfl, rfl⟩))
          by_cases hsq : r = cc
          · subst hsq
            have HIN := invert_yes r b3 o3 k' ns w5 HV5.out HRC.out r1 r16
            unfold matV at HIN
            refine HIN.mono ?_
            rintro e w6 ⟨v6, rfl, hinv, hb6⟩
            have HB6 := Lib.hid (cum2 HB5.out hb6)
            have T6 := Lib.hid (T5.out.below hb6)
            have HV6 := Lib.hid (HV5.out.below hb6)
            clear x0 x1 x2 HB5 T5 HV5
            rcases hinv with ⟨hr, hm⟩ | ⟨hr, hm⟩
            · have hE : invE r ns = 3 := by rw [invE, if_pos hr]
              have hlt : rk < r := by rw [HRKE.out]; exact hr
              subst hm
              rw [hE]
              unfold matV
              obtain ⟨o7, ho7⟩ : ∃ o, o = (Obj.cells #[.int .i64 0, .int .i64 0, .slice none 0 0] 30) := ⟨_, rfl⟩
              have t7 := Three.new w6 (.int .i64 0) (.int .i64 0) (.slice none 0 0) 30
              rw [← ho7] at t7
              have hb7 := (Below.refl w6.heap.size w6).alloc (Nat.le_refl _) o7
              have HB7 := Lib.hid (cum2 HB6.out hb7)
              have T7 := Lib.hid (T6.out.below hb7)
              obtain ⟨y0, y1, y2, _, _, _⟩ := t7
              rw [ho7] at y0 y1 y2
              clear hb7 hb6 HB6 T6 hr hE HRKE
              go_upto_region 10 with fail
              rw [← ho7]
              clear y0 y1 y2 ho7
              generalize w6.alloc o7 = W7 at *
              generalize w6.heap.size = b7 at *
              obtain ⟨x0, x1, _, _, _, _⟩ := T7.out
              have hq : ((r : Int) == (r : Int)) = true := by simp
              have hq2 : ((rk : Int) == (r : Int)) = false := beq_eq_false_iff_ne.2 (by omega)
              have hgt : decide ((r : Int) < (rk : Int)) = false := by simp; omega
              have hgt2 : (rk : Int) ≤ (r : Int) := by omega
              go_quiet ((go_at_call 13; first | exact quiet_left (num3_any _ _) | exact quiet_add_left (num3_any _ _)))
              go_wp2_with (first | (go_at_call 13; refine (num3_any _ _).mono ?_; rintro e wn ⟨rfl, rfl⟩))
              go_roundw
              case rel => exact ⟨i + 1, by go_num, by omega, Lib.hid (HB7.out.trans ⟨rfl, rfl, rfl, Nat.le_refl _, fun _ _ => rfl⟩)⟩
              case measure => simp [intOf]; omega
            · obtain ⟨Y, hY1, hY2, rfl, hblk6, hlen6⟩ := hm
              have hbv6 : BytesV w6 (.slice (some ⟨Y, 0, none⟩) (r * r) (r * r)) (invO r ns) := by
                have := BytesV.of_blk (c := r * r) hblk6 hY2
                rw [hlen6] at this; exact this
              have hE : invE r ns = 0 := by rw [invE, if_neg (by omega)]
              have hrkr : rk = r := by rw [HRKE.out]; exact hr
              have HR := Lib.hid hr
              have HLEN := Lib.hid hlen6
              subst hrkr
              rw [hE]
              unfold matV
              obtain ⟨o7, ho7⟩ : ∃ o, o = (Obj.cells #[.int .i64 (rk : Int), .int .i64 (rk : Int), .slice (some ⟨Y, 0, none⟩) (rk * rk) (rk * rk)] 30) := ⟨_, rfl⟩
              have t7 := Three.new w6 (.int .i64 (rk : Int)) (.int .i64 (rk : Int)) (.slice (some ⟨Y, 0, none⟩) (rk * rk) (rk * rk)) 30
              rw [← ho7] at t7
              have hb7 := (Below.refl w6.heap.size w6).alloc (Nat.le_refl _) o7
              have HB7 := Lib.hid (cum2 HB6.out hb7)
              have T7 := Lib.hid (T6.out.below hb7)
              have TX7 := Lib.hid t7
              have HV7 := Lib.hid (HV6.out.below hb7)
              have HY7 := Lib.hid (hbv6.below hb7)
              obtain ⟨y0, y1, y2, _, _, _⟩ := t7
              rw [ho7] at y0 y1 y2
              clear hb7 hb6 HB6 T6 hr hE HRKE HV6 hbv6 hblk6 hlen6 hY1 hY2
              go_upto_region 10 with fail
              rw [← ho7]
              clear y0 y1 y2 ho7
              generalize w6.alloc o7 = W7 at *
              generalize w6.heap.size = b7 at *
              obtain ⟨x0, x1, _, _, _, _⟩ := T7.out
              have hq : ((rk : Int) == (rk : Int)) = true := by simp
              have hgt : decide ((rk : Int) < (rk : Int)) = false := by simp
              go_quiet ((go_at_call 13; first | exact quiet_left (num3_any _ _) | exact quiet_add_left (num3_any _ _)))
              go_upto_region 13 with (first | (go_at_call 13; refine (num3_any _ _).mono ?_; rintro e wn ⟨rfl, rfl⟩))
              have HB8 : ∀ m, Below w1.heap.size w1 (W7.drewN m) := fun m => HB7.out.trans ⟨rfl, rfl, rfl, Nat.le_refl _, fun _ _ => rfl⟩
              have hN7 : ∀ m, Below W7.heap.size W7 (W7.drewN m) := fun m => ⟨rfl, rfl, rfl, Nat.le_refl _, fun _ _ => rfl⟩
              have HB9 := Lib.hid (HB8 nq)
              have T9 := Lib.hid (T7.out.below (hN7 nq))
              have TX9 := Lib.hid (TX7.out.below (hN7 nq))
              have HV9 := Lib.hid (HV7.out.below (hN7 nq))
              have HY9 := Lib.hid (HY7.out.below (hN7 nq))
              clear HB8 hN7 HB7 T7 TX7 HV7 HY7 x0 x1
              generalize W7.drewN nq = V0 at *
              obtain ⟨x0, x1, x2, _, _, _⟩ := T9.out
              obtain ⟨y0, y1, y2, _, _, _⟩ := TX9.out
              have hball : ∀ x ∈ ns, x < 256 := HV9.out.2
              have HONE := Lib.hid (times_inv HRC.out hball HR.out)
              have HIR := Lib.hid (inv_rank HRC.out hball HR.out)
              have HIB := Lib.hid (inv_back HRC.out hball HR.out)
              clear hball
              go_wp2_with fail
              have HC := mul_yes rk rk rk b3 o3 k' Y 0 (rk * rk) ns (invO rk ns) V0 HV9.out (by rw [invO_length]; exact HY9.out) HRC.out (invO_length rk ns) r1 r16 r1 r16 r1 r16 HNK.out.1 (by rw [invO_length]; exact Nat.le_refl _) HNK.out.2 (by have := Nat.mul_le_mul r16 r16; omega)
              rw [invO_length, HONE.out.1] at HC
              unfold matV at HC
              refine HC.mono ?_
              rintro e V1 ⟨v, rfl, ⟨X1, haX1, hszX1, rfl, hbX1, hlX1⟩, hbe1⟩
              have hv1 : BytesV V1 (.slice (some ⟨X1, 0, none⟩) (rk * rk) (rk * rk)) (oneL rk rk) := by
                have := BytesV.of_blk (c := rk * rk) hbX1 hszX1
                rw [hlX1] at this; exact this
              obtain ⟨oB1, ho1⟩ : ∃ o, o = (Obj.cells #[.int .i64 (rk : Int), .int .i64 (rk : Int), (.slice (some ⟨X1, 0, none⟩) (rk * rk) (rk * rk))] 30) := ⟨_, rfl⟩
              have t1 := Three.new V1 (.int .i64 (rk : Int)) (.int .i64 (rk : Int)) (.slice (some ⟨X1, 0, none⟩) (rk * rk) (rk * rk)) 30
              rw [← ho1] at t1
              have hal1 := (Below.refl V1.heap.size V1).alloc (Nat.le_refl _) oB1
              have HB1a := Lib.hid (cum2 (cum2 HB9.out hbe1) hal1)
              have T9_1 := Lib.hid ((T9.out.below hbe1).below hal1)
              have TX9_1 := Lib.hid ((TX9.out.below hbe1).below hal1)
              have TB1 := Lib.hid t1
              have HV9_1 := Lib.hid ((HV9.out.below hbe1).below hal1)
              have HY9_1 := Lib.hid ((HY9.out.below hbe1).below hal1)
              have HW1 := Lib.hid (hv1.below hal1)
              clear x0 x1 x2 y0 y1 y2
              obtain ⟨x0, x1, x2, _, _, _⟩ := T9_1.out
              obtain ⟨y0, y1, y2, _, _, _⟩ := TX9_1.out
              obtain ⟨z0, z1, z2, _, _, _⟩ := t1
              rw [ho1] at x0 x1 x2 y0 y1 y2 z0 z1 z2
              clear T9 TX9 HV9 HY9 HB9 HC hbe1 hal1 hv1 hbX1 hlX1 haX1 hszX1
              unfold matV
              go_upto_region 14 with fail
              rw [← ho1]
              clear x0 x1 x2 y0 y1 y2 z0 z1 z2 ho1
              generalize V1.alloc oB1 = U1 at *
              generalize V1.heap.size = c1 at *
              obtain ⟨x0, x1, x2, _, _, _⟩ := T9_1.out
              obtain ⟨y0, y1, y2, _, _, _⟩ := TX9_1.out
              go_wp2_with fail
              have HC := mul_yes rk rk rk Y 0 (rk * rk) b3 o3 k' (invO rk ns) ns U1 (by rw [invO_length]; exact HY9_1.out) HV9_1.out (invO_length rk ns) HRC.out r1 r16 r1 r16 r1 r16 (by rw [invO_length]; exact Nat.le_refl _) HNK.out.1 (by have := Nat.mul_le_mul r16 r16; omega) HNK.out.2
              rw [invO_length, HONE.out.2] at HC
              unfold matV at HC
              refine HC.mono ?_
              rintro e V2 ⟨v, rfl, ⟨X2, haX2, hszX2, rfl, hbX2, hlX2⟩, hbe2⟩
              have hv2 : BytesV V2 (.slice (some ⟨X2, 0, none⟩) (rk * rk) (rk * rk)) (oneL rk rk) := by
                have := BytesV.of_blk (c := rk * rk) hbX2 hszX2
                rw [hlX2] at this; exact this
              obtain ⟨oB2, ho2⟩ : ∃ o, o = (Obj.cells #[.int .i64 (rk : Int), .int .i64 (rk : Int), (.slice (some ⟨X2, 0, none⟩) (rk * rk) (rk * rk))] 30) := ⟨_, rfl⟩
              have t2 := Three.new V2 (.int .i64 (rk : Int)) (.int .i64 (rk : Int)) (.slice (some ⟨X2, 0, none⟩) (rk * rk) (rk * rk)) 30
              rw [← ho2] at t2
              have hal2 := (Below.refl V2.heap.size V2).alloc (Nat.le_refl _) oB2
              have HB2a := Lib.hid (cum2 (cum2 HB1a.out hbe2) hal2)
              have T9_1_2 := Lib.hid ((T9_1.out.below hbe2).below hal2)
              have TX9_1_2 := Lib.hid ((TX9_1.out.below hbe2).below hal2)
              have TB1_2 := Lib.hid ((TB1.out.below hbe2).below hal2)
              have TB2 := Lib.hid t2
              have HV9_1_2 := Lib.hid ((HV9_1.out.below hbe2).below hal2)
              have HY9_1_2 := Lib.hid ((HY9_1.out.below hbe2).below hal2)
              have HW1_2 := Lib.hid ((HW1.out.below hbe2).below hal2)
              have HW2 := Lib.hid (hv2.below hal2)
              clear x0 x1 x2 y0 y1 y2
              obtain ⟨x0, x1, x2, _, _, _⟩ := T9_1_2.out
              obtain ⟨y0, y1, y2, _, _, _⟩ := TX9_1_2.out
              obtain ⟨z0, z1, z2, _, _, _⟩ := t2
              rw [ho2] at x0 x1 x2 y0 y1 y2 z0 z1 z2
              clear T9_1 TX9_1 TB1 HV9_1 HY9_1 HW1 HB1a HC hbe2 hal2 hv2 hbX2 hlX2 haX2 hszX2
              unfold matV
              go_upto_region 15 with fail
              rw [← ho2]
              clear x0 x1 x2 y0 y1 y2 z0 z1 z2 ho2
              generalize V2.alloc oB2 = U2 at *
              generalize V2.heap.size = c2 at *
              obtain ⟨x0, x1, x2, _, _, _⟩ := T9_1_2.out
              obtain ⟨y0, y1, y2, _, _, _⟩ := TX9_1_2.out
              go_wp2_with fail
              have HC := one_yes rk r1 r16 U2
              unfold matV at HC
              refine HC.mono ?_
              rintro e V3 ⟨v, rfl, ⟨X3, haX3, hszX3, rfl, hbX3, hlX3⟩, hbe3⟩
              have hv3 : BytesV V3 (.slice (some ⟨X3, 0, none⟩) (rk * rk) (rk * rk)) (oneL rk rk) := by
                have := BytesV.of_blk (c := rk * rk) hbX3 hszX3
                rw [hlX3] at this; exact this
              obtain ⟨oB3, ho3⟩ : ∃ o, o = (Obj.cells #[.int .i64 (rk : Int), .int .i64 (rk : Int), (.slice (some ⟨X3, 0, none⟩) (rk * rk) (rk * rk))] 30) := ⟨_, rfl⟩
              have t3 := Three.new V3 (.int .i64 (rk : Int)) (.int .i64 (rk : Int)) (.slice (some ⟨X3, 0, none⟩) (rk * rk) (rk * rk)) 30
              rw [← ho3] at t3
              have hal3 := (Below.refl V3.heap.size V3).alloc (Nat.le_refl _) oB3
              have HB3a := Lib.hid (cum2 (cum2 HB2a.out hbe3) hal3)
              have T9_1_2_3 := Lib.hid ((T9_1_2.out.below hbe3).below hal3)
              have TX9_1_2_3 := Lib.hid ((TX9_1_2.out.below hbe3).below hal3)
              have TB1_2_3 := Lib.hid ((TB1_2.out.below hbe3).below hal3)
              have TB2_3 := Lib.hid ((TB2.out.below hbe3).below hal3)
              have TB3 := Lib.hid t3
              have HV9_1_2_3 := Lib.hid ((HV9_1_2.out.below hbe3).below hal3)
              have HY9_1_2_3 := Lib.hid ((HY9_1_2.out.below hbe3).below hal3)
              have HW1_2_3 := Lib.hid ((HW1_2.out.below hbe3).below hal3)
              have HW2_3 := Lib.hid ((HW2.out.below hbe3).below hal3)
              have HW3 := Lib.hid (hv3.below hal3)
              clear x0 x1 x2 y0 y1 y2
              obtain ⟨x0, x1, x2, _, _, _⟩ := T9_1_2_3.out
              obtain ⟨y0, y1, y2, _, _, _⟩ := TX9_1_2_3.out
              obtain ⟨z0, z1, z2, _, _, _⟩ := t3
              rw [ho3] at x0 x1 x2 y0 y1 y2 z0 z1 z2
              clear T9_1_2 TX9_1_2 TB1_2 TB2 HV9_1_2 HY9_1_2 HW1_2 HW2 HB2a HC hbe3 hal3 hv3 hbX3 hlX3 haX3 hszX3
              unfold matV
              go_upto_region 16 with fail
              rw [← ho3]
              clear x0 x1 x2 y0 y1 y2 z0 z1 z2 ho3
              generalize V3.alloc oB3 = U3 at *
              generalize V3.heap.size = c3 at *
              obtain ⟨x0, x1, x2, _, _, _⟩ := T9_1_2_3.out
              obtain ⟨y0, y1, y2, _, _, _⟩ := TX9_1_2_3.out
              go_wp2_with fail
              have HC := invert_yes rk Y 0 (rk * rk) (invO rk ns) U3 (by rw [invO_length]; exact HY9_1_2_3.out) (invO_length rk ns) r1 r16
              rw [invO_length] at HC
              unfold matV at HC
              refine HC.mono ?_
              rintro e V4 ⟨v, rfl, hinv, hbe4⟩
              rcases hinv with ⟨hr, _⟩ | ⟨hr, hm⟩
              · have := HIR.out; omega
              have hE : invE rk (invO rk ns) = 0 := by rw [invE, if_neg (by omega)]
              rw [hE]
              rw [HIB.out] at hm
              clear hE hr
              obtain ⟨X4, haX4, hszX4, rfl, hbX4, hlX4⟩ := hm
              have hv4 : BytesV V4 (.slice (some ⟨X4, 0, none⟩) (rk * rk) (rk * rk)) ns := by
                have := BytesV.of_blk (c := rk * rk) hbX4 hszX4
                rw [hlX4] at this; exact this
              obtain ⟨oB4, ho4⟩ : ∃ o, o = (Obj.cells #[.int .i64 (rk : Int), .int .i64 (rk : Int), (.slice (some ⟨X4, 0, none⟩) (rk * rk) (rk * rk))] 30) := ⟨_, rfl⟩
              have t4 := Three.new V4 (.int .i64 (rk : Int)) (.int .i64 (rk : Int)) (.slice (some ⟨X4, 0, none⟩) (rk * rk) (rk * rk)) 30
              rw [← ho4] at t4
              have hal4 := (Below.refl V4.heap.size V4).alloc (Nat.le_refl _) oB4
              have HB4a := Lib.hid (cum2 (cum2 HB3a.out hbe4) hal4)
              have T9_1_2_3_4 := Lib.hid ((T9_1_2_3.out.below hbe4).below hal4)
              have TX9_1_2_3_4 := Lib.hid ((TX9_1_2_3.out.below hbe4).below hal4)
              have TB1_2_3_4 := Lib.hid ((TB1_2_3.out.below hbe4).below hal4)
              have TB2_3_4 := Lib.hid ((TB2_3.out.below hbe4).below hal4)
              have TB3_4 := Lib.hid ((TB3.out.below hbe4).below hal4)
              have TB4 := Lib.hid t4
              have HV9_1_2_3_4 := Lib.hid ((HV9_1_2_3.out.below hbe4).below hal4)
              have HY9_1_2_3_4 := Lib.hid ((HY9_1_2_3.out.below hbe4).below hal4)
              have HW1_2_3_4 := Lib.hid ((HW1_2_3.out.below hbe4).below hal4)
              have HW2_3_4 := Lib.hid ((HW2_3.out.below hbe4).below hal4)
              have HW3_4 := Lib.hid ((HW3.out.below hbe4).below hal4)
              have HW4 := Lib.hid (hv4.below hal4)
              clear x0 x1 x2 y0 y1 y2
              obtain ⟨x0, x1, x2, _, _, _⟩ := T9_1_2_3_4.out
              obtain ⟨y0, y1, y2, _, _, _⟩ := TX9_1_2_3_4.out
              obtain ⟨z0, z1, z2, _, _, _⟩ := t4
              rw [ho4] at x0 x1 x2 y0 y1 y2 z0 z1 z2
              clear T9_1_2_3 TX9_1_2_3 TB1_2_3 TB2_3 TB3 HV9_1_2_3 HY9_1_2_3 HW1_2_3 HW2_3 HW3 HB3a HC hbe4 hal4 hv4 hbX4 hlX4 haX4 hszX4
              unfold matV
              go_upto_region 17 with fail
              rw [← ho4]
              clear x0 x1 x2 y0 y1 y2 z0 z1 z2 ho4
              generalize V4.alloc oB4 = U4 at *
              generalize V4.heap.size = c4 at *
              obtain ⟨x0, x1, x2, _, _, _⟩ := T9_1_2_3_4.out
              obtain ⟨y0, y1, y2, _, _, _⟩ := TX9_1_2_3_4.out
              have hone : (oneL rk rk).length ≤ 9000000000000000000 := by rw [oneL_length]; have := Nat.mul_le_mul r16 r16; omega
              clear x0 x1 x2 y0 y1 y2
              obtain ⟨x0, x1, x2, _, _, _⟩ := TB1_2_3_4.out
              obtain ⟨y0, y1, y2, _, _, _⟩ := TB3_4.out
              go_wp2_with (first | (go_at_call 13; refine (num3_any _ _).mono ?_; rintro e wn ⟨rfl, rfl⟩))
              have HEQ := eqMatrix_yes (rk : Int) (rk : Int) (.slice (some ⟨X1, 0, none⟩) (rk * rk) (rk * rk)) (.slice (some ⟨X3, 0, none⟩) (rk * rk) (rk * rk)) (oneL rk rk) U4 HW1_2_3_4.out HW3_4.out hone
              unfold matV at HEQ
              refine HEQ.mono ?_
              rintro e w8 ⟨rfl, hb8⟩
              clear HEQ x0 x1 x2 y0 y1 y2
              have HB8 := Lib.hid (cum2 HB4a.out hb8)
              obtain ⟨x0, x1, x2, _, _, _⟩ := TB2_3_4.out.below hb8
              obtain ⟨y0, y1, y2, _, _, _⟩ := TB3_4.out.below hb8
              have HH8 := Lib.hid hb8
              clear hb8
              go_wp2_with (first | (go_at_call 13; refine (num3_any _ _).mono ?_; rintro e wn ⟨rfl, rfl⟩))
              have HEQ := eqMatrix_yes (rk : Int) (rk : Int) (.slice (some ⟨X2, 0, none⟩) (rk * rk) (rk * rk)) (.slice (some ⟨X3, 0, none⟩) (rk * rk) (rk * rk)) (oneL rk rk) w8 (HW2_3_4.out.below HH8.out) (HW3_4.out.below HH8.out) hone
              unfold matV at HEQ
              refine HEQ.mono ?_
              rintro e w9 ⟨rfl, hb9⟩
              clear HEQ x0 x1 x2 y0 y1 y2
              have HB9 := Lib.hid (cum2 HB8.out hb9)
              obtain ⟨x0, x1, x2, _, _, _⟩ := (TB4.out.below HH8.out).below hb9
              obtain ⟨y0, y1, y2, _, _, _⟩ := (T9_1_2_3_4.out.below HH8.out).below hb9
              have HH9 := Lib.hid hb9
              clear hb9
              go_wp2_with (first | (go_at_call 13; refine (num3_any _ _).mono ?_; rintro e wn ⟨rfl, rfl⟩))
              have HEQ := eqMatrix_yes (rk : Int) (rk : Int) (.slice (some ⟨X4, 0, none⟩) (rk * rk) (rk * rk)) (.slice (some ⟨b3, o3, none⟩) ns.length k') ns w9 ((HW4.out.below HH8.out).below HH9.out) ((HV9_1_2_3_4.out.below HH8.out).below HH9.out) (by omega)
              unfold matV at HEQ
              refine HEQ.mono ?_
              rintro e wA ⟨rfl, hbA⟩
              clear HEQ x0 x1 x2 y0 y1 y2
              have HBA := Lib.hid (cum2 HB9.out hbA)
              clear hbA
              go_wp2_with (first | (go_at_call 13; refine (num3_any _ _).mono ?_; rintro e wn ⟨rfl, rfl⟩))
              go_roundw
              case rel => exact ⟨i + 1, by go_num, by omega, HBA⟩
              case measure => simp [intOf]; omega
          · have HIN := invert_no (r : Int) (cc : Int) (some ⟨b3, o3, none⟩) ns.length k' w5 (by omega) (Or.inr (by omega))
            unfold matV at HIN
            refine HIN.mono ?_
            rintro e w6 ⟨rfl, hb6⟩
            have HB6 := Lib.hid (cum2 HB5.out hb6)
            have T6 := Lib.hid (T5.out.below hb6)
            clear hb6
            obtain ⟨o7, ho7⟩ : ∃ o, o = (Obj.cells #[.int .i64 0, .int .i64 0, .slice none 0 0] 30) := ⟨_, rfl⟩
            have t7 := Three.new w6 (.int .i64 0) (.int .i64 0) (.slice none 0 0) 30
            rw [← ho7] at t7
            have hb7 := (Below.refl w6.heap.size w6).alloc (Nat.le_refl _) o7
            have HB7 := Lib.hid (cum2 HB6.out hb7)
            have T7 := Lib.hid (T6.out.below hb7)
            obtain ⟨y0, y1, y2, _, _, _⟩ := t7
            rw [ho7] at y0 y1 y2
            clear hb7 x0 x1 x2 HB6 HB5 T5 T6
            go_upto_region 10 with fail
            rw [← ho7]
            clear y0 y1 y2 ho7
            generalize w6.alloc o7 = W7 at *
            generalize w6.heap.size = b7 at *
            obtain ⟨x0, x1, _, _, _, _⟩ := T7.out
            have hq : ((r : Int) == (cc : Int)) = false := beq_eq_false_iff_ne.2 (by omega)
            have hgt : decide ((rk : Int) > min (r : Int) (cc : Int)) = false := by simp; omega
            go_quiet ((go_at_call 13; first | exact quiet_left (num3_any _ _) | exact quiet_add_left (num3_any _ _)))
            go_wp2_with (first | (go_at_call 13; refine (num3_any _ _).mono ?_; rintro e wn ⟨rfl, rfl⟩))
            go_roundw
            case rel => exact ⟨i + 1, by go_num, by omega, Lib.hid (HB7.out.trans ⟨rfl, rfl, rfl, Nat.le_refl _, fun _ _ => rfl⟩)⟩
            case measure => simp [intOf]; omega
      · have hid : (decide ((i : Int) < (l.length : Int)) && decide ((i : Int) < 4)) = false := by simp; omega
        have HB2 := Lib.hid (HB1.out.trans (HB.out.mono HB1.out.size))
        by_cases h3 : i < l.length
        all_goals
          go_wp2_with fail
          refine (wakes3_any _).mono ?_
          rintro e w5 ⟨rfl, hb5⟩
          have hfin := HB2.out.trans (hb5.mono HB2.out.size)
          clear hb5
          go_wp2_with fail
          go_ret
          exact ⟨rfl, hfin⟩
  · go_wp2_with fail
    go_ret
    exact ⟨rfl, HB1.out⟩
end Go.Proofs.Ytibinkppbdeofaa
