/- MatrixInverts: the law's walk. -/
import Derived.Test.YtibinkppbdeofaaSqA
namespace Go.Proofs.Ytibinkppbdeofaa
open Go.ChangeShapes Go.WideShapes Go.ChangeAt Go.RowKit Go.Joins Go.Shelf
set_option linter.unusedVariables false
set_option linter.unusedSimpArgs false

set_option maxRecDepth 100000 in
set_option maxHeartbeats 8000000 in
theorem matrixInverts_walk (vM vN vL : Value) (l : List M3) (zs : List Int) (ss : List ByteArray) (w : World) (hM : MatsIn w vM l) (hN : NumsIn w vN zs) (hL : TextsIn w vL ss) :
    Calls Try.prog 3 #[.agg #[vM, vN, vL]] w fun e w' => e = .returned (.bool true) ∧ Below w.heap.size w w' := by
  have tA := Three.new w vM vN vL 26
  have hbe := (Below.refl w.heap.size w).alloc (Nat.le_refl _) (.cells #[vM, vN, vL] 26)
  have TA := Lib.hid tA
  have HBE := Lib.hid hbe
  have HM := Lib.hid (hM.below hbe)
  have HHV := heavy3_weak vM vN vL l zs ss (w.alloc (.cells #[vM, vN, vL] 26)) (hM.below hbe) (by
    refine ⟨hN.1, ?_⟩
    rcases hN.2 with h | ⟨b, o, c, e, h0, hm, hb, hc⟩
    · exact Or.inl h
    · exact Or.inr ⟨b, o, c, e, h0, hm, Nat.lt_of_lt_of_le hb hbe.size, fun i hi => below_celllt (hc i hi) hb ((Below.refl w.heap.size w).alloc (Nat.le_refl _) _)⟩) (textsIn_below hL hbe)
  have HHX := Lib.hid HHV
  obtain ⟨zp, zc, zl, rfl⟩ : ∃ p c n, vN = .slice p n c := by
    rcases hN.2 with ⟨_, p, c, rfl⟩ | ⟨b, o, c, rfl, _⟩
    · exact ⟨_, _, _, rfl⟩
    · exact ⟨_, _, _, rfl⟩
  obtain ⟨A, c, rfl, hll, _⟩ := hM
  obtain ⟨pL, kL, rfl, _⟩ := hL
  obtain ⟨a0, a1, a2, _, _, _⟩ := tA
  clear hbe hN HHV
  go_enter Try.func3, Try.ntmps3
  go_wp2_with fail
  clear a0 a1 a2
  generalize w.alloc (.cells #[.slice A l.length c, .slice zp zl zc, .slice pL ss.length kL] 26) = W0 at *
  refine HHX.out.mono ?_
  rintro e w1 ⟨⟨bo, rfl⟩, hb1⟩
  have TA1 := Lib.hid (TA.out.below hb1)
  have HM1 := Lib.hid (HM.out.below hb1)
  have HB1 := Lib.hid (HBE.out.trans (hb1.mono HBE.out.size))
  clear hb1 TA HM HHX
  cases bo
  · go_wp2_with fail
    go_loopw [3] (fun nn wr => ∃ n : Nat, nn = .int .i64 n ∧ 1 ≤ n ∧ n ≤ 9 ∧ Hid (Below w1.heap.size w1 wr)) (fun nn _ => 9 - (intOf nn).toNat)
    case atStart => exact ⟨1, rfl, by omega, by omega, Lib.hid (Below.refl _ _)⟩
    case round =>
      obtain ⟨n, rfl, hn1, hn9, HB⟩ := hrel
      by_cases hn8 : n ≤ 8
      · have hnd : decide ((n : Int) ≤ 8) = true := by simp; omega
        go_wp2_with fail
        go_loopw [4] (fun bb wq => ∃ b : Nat, bb = .int .i64 b ∧ 1 ≤ b ∧ b ≤ 4 ∧ Hid (Below w1.heap.size w1 wq)) (fun bb _ => 4 - (intOf bb).toNat)
        case atStart => exact ⟨1, rfl, by omega, by omega, HB⟩
        case round =>
          clear HB
          obtain ⟨b, rfl, hb1, hb4, HB⟩ := hrel
          by_cases hb3 : b < 4
          · have hbd : decide ((b : Int) < 4) = true := by simp; omega
            obtain ⟨a0, a1, a2, _, _, _⟩ := TA1.out.below HB.out
            go_wp2_with fail
            refine (square_any (.slice A l.length c) (.slice zp zl zc) (.slice pL ss.length kL) l n b wr (HM1.out.below HB.out) hn1 hn8 (by omega)).mono ?_
            rintro e w2 ⟨v2, ns, rfl, ⟨X, hX1, hX2, rfl, hblk, hlen⟩, hb2⟩
            have HB2 := Lib.hid (cum2 HB.out hb2)
            obtain ⟨o2, ho2⟩ : ∃ o, o = (Obj.cells #[.int .i64 (n : Int), .int .i64 (n : Int), .slice (some ⟨X, 0, none⟩) (n * n) (n * n)] 30) := ⟨_, rfl⟩
            have t2 := Three.new w2 (.int .i64 (n : Int)) (.int .i64 (n : Int)) (.slice (some ⟨X, 0, none⟩) (n * n) (n * n)) 30
            rw [← ho2] at t2
            have hb3' := (Below.refl w2.heap.size w2).alloc (Nat.le_refl _) o2
            have HB3 := Lib.hid (cum2 HB2.out hb3')
            have hbv : BytesV (w2.alloc o2) (.slice (some ⟨X, 0, none⟩) (n * n) (n * n)) ns := by
              have := BytesV.of_blk (c := n * n) (blk_below hblk hX2 hb3') (by simp; omega)
              rw [hlen] at this; exact this
            have HV := Lib.hid hbv
            have T2 := Lib.hid t2
            have HLEN := Lib.hid hlen
            obtain ⟨x0, x1, x2, _, _, _⟩ := t2
            rw [ho2] at x0 x1 x2
            clear hb2 hblk hb3' hbv hlen a0 a1 a2 HB HB2
            unfold matV
            go_wp2_with fail
            rw [← ho2]
            clear x0 x1 x2 ho2
            generalize w2.alloc o2 = W3 at *
            generalize w2.heap.size = bx at *
            have HIN := invert_yes n X 0 (n * n) ns W3 (by rw [HLEN.out]; exact HV.out) HLEN.out hn1 (by omega)
            rw [HLEN.out] at HIN
            unfold matV at HIN
            refine HIN.mono ?_
            rintro e w4 ⟨v4, rfl, hinv, hb4⟩
            rcases hinv with ⟨hr, hm⟩ | ⟨hr, hm⟩
            · have hE : invE n ns = 3 := by rw [invE, if_pos hr]
              have hrd : ((rankL n n ns : Int) == (n : Int)) = false := beq_eq_false_iff_ne.2 (by omega)
              subst hm
              rw [hE]
              have HB4 := Lib.hid (cum2 HB3.out hb4)
              have HRD := Lib.hid hrd
              obtain ⟨o4, ho4⟩ : ∃ o, o = (Obj.cells #[.int .i64 0, .int .i64 0, .slice none 0 0] 30) := ⟨_, rfl⟩
              have t4 := Three.new w4 (.int .i64 0) (.int .i64 0) (.slice none 0 0) 30
              rw [← ho4] at t4
              have hb5 := (Below.refl w4.heap.size w4).alloc (Nat.le_refl _) o4
              have HB5 := Lib.hid (cum2 HB4.out hb5)
              have T5 := Lib.hid t4
              have T25 := Lib.hid ((T2.out.below hb4).below hb5)
              have HV5 := Lib.hid ((HV.out.below hb4).below hb5)
              obtain ⟨x0, x1, x2, _, _, _⟩ := T25.out
              rw [ho4] at x0 x1 x2
              clear hb4 hb5 t4 hE hr hrd  HB3 HB4 T2 HV
              unfold matV
              go_wp2_with fail
              rw [← ho4]
              clear x0 x1 x2 ho4
              generalize w4.alloc o4 = W5 at *
              generalize w4.heap.size = b5 at *
              have HRI := refInvert_any n (.slice (some ⟨X, 0, none⟩) (n * n) (n * n)) ns W5 HV5.out HLEN.out hn1 (by omega)
              rw [HRD.out] at HRI
              unfold matV at HRI
              refine HRI.mono ?_
              rintro e w6 ⟨vl, rfl, hbv6, hb6⟩
              have HB6 := Lib.hid (cum2 HB5.out hb6)
              obtain ⟨A6, k6, rfl⟩ := hbv6.shape
              rw [invO_length] at *
              obtain ⟨o6, ho6⟩ : ∃ o, o = (Obj.cells #[.int .i64 (n : Int), .int .i64 (n : Int), .slice A6 (n * n) k6] 30) := ⟨_, rfl⟩
              have t6 := Three.new w6 (.int .i64 (n : Int)) (.int .i64 (n : Int)) (.slice A6 (n * n) k6) 30
              rw [← ho6] at t6
              have hb7 := (Below.refl w6.heap.size w6).alloc (Nat.le_refl _) o6
              have HB7 := Lib.hid (cum2 HB6.out hb7)
              have T57 := Lib.hid ((T5.out.below hb6).below hb7)
              have HV7 := Lib.hid (hbv6.below hb7)
              obtain ⟨x0, x1, x2, _, _, _⟩ := T57.out
              obtain ⟨y0, y1, y2, _, _, _⟩ := t6
              rw [ho6] at x0 x1 x2 y0 y1 y2
              clear hb6 hb7 hbv6 HB5 HB6 T5 HV5 T25
              go_wp2_with (first | (go_at_call 13; refine (num3_any _ _).mono ?_; rintro e wn ⟨rfl, rfl⟩))
              rw [← ho6]
              clear x0 x1 x2 y0 y1 y2 ho6
              generalize w6.alloc o6 = W7 at *
              go_roundw
              case rel => exact ⟨b + 1, by go_num, by omega, by omega, HB7⟩
              case measure => simp [intOf]; omega
            · obtain ⟨Y, hY1, hY2, rfl, hblk4, hlen4⟩ := hm
              have hbv4 : BytesV w4 (.slice (some ⟨Y, 0, none⟩) (n * n) (n * n)) (invO n ns) := by
                have := BytesV.of_blk (c := n * n) hblk4 hY2
                rw [hlen4] at this; exact this
              have hE : invE n ns = 0 := by rw [invE, if_neg (by omega)]
              have hrd : ((rankL n n ns : Int) == (n : Int)) = true := by rw [hr]; simp
              rw [hE]
              have HB4 := Lib.hid (cum2 HB3.out hb4)
              have HRD := Lib.hid hrd
              obtain ⟨o4, ho4⟩ : ∃ o, o = (Obj.cells #[.int .i64 (n : Int), .int .i64 (n : Int), .slice (some ⟨Y, 0, none⟩) (n * n) (n * n)] 30) := ⟨_, rfl⟩
              have t4 := Three.new w4 (.int .i64 (n : Int)) (.int .i64 (n : Int)) (.slice (some ⟨Y, 0, none⟩) (n * n) (n * n)) 30
              rw [← ho4] at t4
              have hb5 := (Below.refl w4.heap.size w4).alloc (Nat.le_refl _) o4
              have HB5 := Lib.hid (cum2 HB4.out hb5)
              have T5 := Lib.hid t4
              have T25 := Lib.hid ((T2.out.below hb4).below hb5)
              have HV5 := Lib.hid ((HV.out.below hb4).below hb5)
              have HI5 := Lib.hid (hbv4.below hb5)
              obtain ⟨x0, x1, x2, _, _, _⟩ := T25.out
              rw [ho4] at x0 x1 x2
              clear hb4 hb5 t4 hE hr hrd hblk4 hlen4 hbv4 HB3 HB4 T2 HV
              unfold matV
              go_wp2_with fail
              rw [← ho4]
              clear x0 x1 x2 ho4
              generalize w4.alloc o4 = W5 at *
              generalize w4.heap.size = b5 at *
              have HRI := refInvert_any n (.slice (some ⟨X, 0, none⟩) (n * n) (n * n)) ns W5 HV5.out HLEN.out hn1 (by omega)
              rw [HRD.out] at HRI
              unfold matV at HRI
              refine HRI.mono ?_
              rintro e w6 ⟨vl, rfl, hbv6, hb6⟩
              have HB6 := Lib.hid (cum2 HB5.out hb6)
              obtain ⟨A6, k6, rfl⟩ := hbv6.shape
              rw [invO_length] at *
              obtain ⟨o6, ho6⟩ : ∃ o, o = (Obj.cells #[.int .i64 (n : Int), .int .i64 (n : Int), .slice A6 (n * n) k6] 30) := ⟨_, rfl⟩
              have t6 := Three.new w6 (.int .i64 (n : Int)) (.int .i64 (n : Int)) (.slice A6 (n * n) k6) 30
              rw [← ho6] at t6
              have hb7 := (Below.refl w6.heap.size w6).alloc (Nat.le_refl _) o6
              have HB7 := Lib.hid (cum2 HB6.out hb7)
              have T57 := Lib.hid ((T5.out.below hb6).below hb7)
              have HV7 := Lib.hid (hbv6.below hb7)
              have HI7 := Lib.hid ((HI5.out.below hb6).below hb7)
              obtain ⟨x0, x1, x2, _, _, _⟩ := T57.out
              obtain ⟨y0, y1, y2, _, _, _⟩ := t6
              rw [ho6] at x0 x1 x2 y0 y1 y2
              clear hb6 hb7 hbv6 HB5 HB6 T5 HV5 T25
              go_wp2_with (first | (go_at_call 13; refine (num3_any _ _).mono ?_; rintro e wn ⟨rfl, rfl⟩))
              rw [← ho6]
              clear x0 x1 x2 y0 y1 y2 ho6
              generalize w6.alloc o6 = W7 at *
              have HEQ := eqMatrix_yes (n : Int) (n : Int) (.slice (some ⟨Y, 0, none⟩) (n * n) (n * n)) (.slice A6 (n * n) k6) (invO n ns) W7 HI7.out HV7.out (by rw [invO_length]; have := Nat.mul_le_mul hn8 hn8; omega)
              unfold matV at HEQ
              refine HEQ.mono ?_
              rintro e w8 ⟨rfl, hb8⟩
              have HB8 := Lib.hid (cum2 HB7.out hb8)
              clear hb8
              go_wp2_with (first | (go_at_call 13; refine (num3_any _ _).mono ?_; rintro e wn ⟨rfl, rfl⟩))
              go_roundw
              case rel => exact ⟨b + 1, by go_num, by omega, by omega, HB8⟩
              case measure => simp [intOf]; omega
          · have hbd : decide ((b : Int) < 4) = false := by simp; omega
            go_wp2_with fail
            go_roundw
            case rel => exact ⟨n + 1, by go_num, by omega, by omega, HB⟩
            case measure => simp [intOf]; omega
      · have hnd : decide ((n : Int) ≤ 8) = false := by simp; omega
        have HB2 := Lib.hid (HB1.out.trans (HB.out.mono HB1.out.size))
        go_wp2_with fail
        refine (wakes3_any _).mono ?_
        rintro e w5 ⟨rfl, hb5⟩
        have hfin := HB2.out.trans (hb5.mono HB2.out.size)
        clear hb5
        go_wp2_with fail
        go_ret
        exact ⟨rfl, hfin⟩
  · go_wp2_with fail
    go_ret
    exact ⟨rfl, HB1.out⟩
end Go.Proofs.Ytibinkppbdeofaa
