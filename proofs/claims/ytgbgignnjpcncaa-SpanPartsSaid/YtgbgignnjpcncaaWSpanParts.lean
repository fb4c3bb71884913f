/- SpanParts, walked. -/
import Derived.Test.YtgbgignnjpcncaaSpanD
import Derived.Deep.RegionHeld3
namespace Go.Proofs.Ytgbgignnjpcncaa
open Go.ChangeShapes Go.WideShapes Go.ChangeAt Go.RowKit Go.Joins
set_option linter.unusedVariables false
set_option linter.unusedSimpArgs false

set_option maxRecDepth 100000 in
set_option maxHeartbeats 8000000 in
theorem spanParts_walk {c0 c1 c2 c6 : Value} {N A B : Int} {S : List T3} {L : List ByteArray} {Bs : List Bool} {Ps : List T3} (w : World) (q : Ask8 w c0 c1 c2 c6 N A B S L Bs Ps) :
    Calls Try.prog 3 #[.agg #[c0, c1, c2, .int .i64 N, .int .i64 A, .int .i64 B, c6]] w fun e w' => e = .returned (.bool true) ∧ Below w.heap.size w w' := by
  obtain ⟨hbel, hc0, hc1, hc2, hc3, hc4, hc5, hc6, hsz⟩ := box7_facts w c0 c1 c2 (.int .i64 N) (.int .i64 A) (.int .i64 B) c6 29
  have q2 := q.below hbel
  have hB' := q.hB'.2
  obtain ⟨a, ha, ha1, ha2⟩ : ∃ a : Int, withinI A 100 = a ∧ 0 ≤ a ∧ a < 100 := ⟨_, rfl, (within_bd A 100 (by omega) (by omega)).1, (within_bd A 100 (by omega) (by omega)).2⟩
  obtain ⟨b, hb, hbb1, hbb2⟩ : ∃ a : Int, withinI B 100 = a ∧ 0 ≤ a ∧ a < 100 := ⟨_, rfl, (within_bd B 100 (by omega) (by omega)).1, (within_bd B 100 (by omega) (by omega)).2⟩
  obtain ⟨n, hn, hn1, hn2⟩ : ∃ a : Int, withinI N 100 = a ∧ 0 ≤ a ∧ a < 100 := ⟨_, rfl, (within_bd N 100 (by omega) (by omega)).1, (within_bd N 100 (by omega) (by omega)).2⟩
  go_enter Try.func3, Try.ntmps3
  go_wp2_with fail
  refine (heavy8_any q2).mono ?_
  rintro e w1 ⟨bo, hbo, rfl, hb1⟩
  have HS := Lib.hid (q2.hS.below hb1)
  have g0 := below_cellj hc0 hsz hb1
  have g3 := below_cellj hc3 hsz hb1
  have g4 := below_cellj hc4 hsz hb1
  have g5 := below_cellj hc5 hsz hb1
  have hb2 := hbel.trans (hb1.mono hbel.size)
  have hlt0 : w.heap.size < w1.heap.size := by have := hb1.size; rw [hsz] at this; omega
  obtain ⟨pS, kS, rfl⟩ := q2.hS.len
  have hSl := q2.hS2
  clear hb1 hbo hc0 hc1 hc2 hc3 hc4 hc5 hc6 q2 q hsz hbel
  generalize hB0 : w.heap.size = B0 at g0 g3 g4 g5 hlt0
  cases bo
  · go_wp2_with fail
    go_loopw [3] (fun f wr => ∃ k : Nat, f = .int .i64 k ∧ k ≤ S.length ∧ k ≤ 4 ∧ Below w1.heap.size w1 wr) (fun f _ => 4 - (intOf f).toNat)
    case atStart => exact ⟨0, rfl, by omega, by omega, Below.refl _ _⟩
    case round =>
      obtain ⟨k, rfl, hk, hk4, hwr⟩ := hrel
      obtain ⟨wo, rfl⟩ : ∃ wo : World, wo = wr := ⟨_, rfl⟩
      have r0 : wo.cell? ⟨B0, 0, none⟩ = some (.slice pS S.length kS) := by rw [hwr.cell (p := ⟨B0, 0, none⟩) hlt0]; exact g0
      have r3 : wo.cell? ⟨B0, 3, none⟩ = some (.int .i64 N) := by rw [hwr.cell (p := ⟨B0, 3, none⟩) hlt0]; exact g3
      have r4 : wo.cell? ⟨B0, 4, none⟩ = some (.int .i64 A) := by rw [hwr.cell (p := ⟨B0, 4, none⟩) hlt0]; exact g4
      have r5 : wo.cell? ⟨B0, 5, none⟩ = some (.int .i64 B) := by rw [hwr.cell (p := ⟨B0, 5, none⟩) hlt0]; exact g5
      have hlt1 : B0 < wo.heap.size := Nat.lt_of_lt_of_le hlt0 hwr.size
      by_cases hlt : k < S.length ∧ k < 4
      · obtain ⟨hl1, hl2⟩ := hlt
        obtain ⟨bs, os, cs, es, s, hs, s0, s1, s2⟩ := (HS.out.below hwr).at_ hl1
        cases es
        obtain ⟨sk, sm, sz⟩ := s
        simp only at s0 s1 s2
        have hk4d : decide ((k : Int) < 4) = true := by simp; omega
        go_wp2_with fail
        obtain ⟨hbx, t0, t1, t2, ht3⟩ := box3_facts wo (.int .i64 sk) (.int .i64 sm) (.int .i64 sz) 32
        generalize wo.alloc (.cells #[.int .i64 sk, .int .i64 sm, .int .i64 sz] 32) = V at *
        have r3 : V.cell? ⟨B0, 3, none⟩ = some (.int .i64 N) := by rw [hbx.cell (p := ⟨B0, 3, none⟩) hlt1]; exact r3
        have r4 : V.cell? ⟨B0, 4, none⟩ = some (.int .i64 A) := by rw [hbx.cell (p := ⟨B0, 4, none⟩) hlt1]; exact r4
        have r5 : V.cell? ⟨B0, 5, none⟩ = some (.int .i64 B) := by rw [hbx.cell (p := ⟨B0, 5, none⟩) hlt1]; exact r5
        have hwV := hwr.trans (hbx.mono hwr.size)
        generalize wo.heap.size = Bo at *
        clear hbx s0 s1 s2 r0 hlt1
        go_region_held3 (fun w' => w'.cell? ⟨B0, 3, none⟩ = some (.int .i64 N) ∧ w'.cell? ⟨B0, 4, none⟩ = some (.int .i64 A) ∧ w'.cell? ⟨B0, 5, none⟩ = some (.int .i64 B)) (go_keep) (first | (go_at_call 8; refine (within_any _ _ _ (by omega) (by omega)).mono ?_; rintro e w' ⟨rfl, rfl⟩))
        all_goals
          have hlit := lit_row V #[.int .i64 N, .int .i64 A, .int .i64 B, .int .i64 n, .int .i64 a, .int .i64 b, .int .i64 50, .int .i64 7, .int .i64 B, .int .i64 2000, .int .i64 0, .int .i64 2000, .int .i64 5, .int .i64 5, .int .i64 1, .int .i64 5, .int .i64 6, .int .i64 0] 33 6 3 6 rfl
          obtain ⟨asks, hasks⟩ : ∃ l : List T3, l = [(N, A, B), (n, a, b), (50, 7, B), (2000, 0, 2000), (5, 5, 1), (5, 6, 0)] := ⟨_, rfl⟩
          have hbV := (Below.refl V.heap.size V).alloc (Nat.le_refl _) (.cells #[.int .i64 N, .int .i64 A, .int .i64 B, .int .i64 n, .int .i64 a, .int .i64 b, .int .i64 50, .int .i64 7, .int .i64 B, .int .i64 2000, .int .i64 0, .int .i64 2000, .int .i64 5, .int .i64 5, .int .i64 1, .int .i64 5, .int .i64 6, .int .i64 0] 33)
          have hbV3 := hbV.trans (show Below V.heap.size _ (V.alloc (.cells #[.int .i64 N, .int .i64 A, .int .i64 B, .int .i64 n, .int .i64 a, .int .i64 b, .int .i64 50, .int .i64 7, .int .i64 B, .int .i64 2000, .int .i64 0, .int .i64 2000, .int .i64 5, .int .i64 5, .int .i64 1, .int .i64 5, .int .i64 6, .int .i64 0] 33)).drew from ⟨rfl, rfl, rfl, Nat.le_refl _, fun _ _ => rfl⟩)
          have hask : ThreesIn (V.alloc (.cells #[.int .i64 N, .int .i64 A, .int .i64 B, .int .i64 n, .int .i64 a, .int .i64 b, .int .i64 50, .int .i64 7, .int .i64 B, .int .i64 2000, .int .i64 0, .int .i64 2000, .int .i64 5, .int .i64 5, .int .i64 1, .int .i64 5, .int .i64 6, .int .i64 0] 33)).drew (.slice (some ⟨Bo + 1, 0, none⟩) 6 6) asks := by
            rw [hasks]
            rw [ht3] at hlit
            exact hlit
          have hal : asks.length = 6 := by rw [hasks]; rfl
          have ham : ∀ s ∈ asks, s.2.2 ≤ 9223372036854775807 := by rw [hasks]; intro s hs; simp at hs; rcases hs with rfl | rfl | rfl | rfl | rfl | rfl <;> simp <;> omega
          have hs3 : (V.alloc (.cells #[.int .i64 N, .int .i64 A, .int .i64 B, .int .i64 n, .int .i64 a, .int .i64 b, .int .i64 50, .int .i64 7, .int .i64 B, .int .i64 2000, .int .i64 0, .int .i64 2000, .int .i64 5, .int .i64 5, .int .i64 1, .int .i64 5, .int .i64 6, .int .i64 0] 33)).drew.heap.size = Bo + 2 := by
            show (V.alloc _).heap.size = _
            simp [ht3]
          generalize (V.alloc (.cells #[.int .i64 N, .int .i64 A, .int .i64 B, .int .i64 n, .int .i64 a, .int .i64 b, .int .i64 50, .int .i64 7, .int .i64 B, .int .i64 2000, .int .i64 0, .int .i64 2000, .int .i64 5, .int .i64 5, .int .i64 1, .int .i64 5, .int .i64 6, .int .i64 0] 33)).drew = V3 at *
          have z0 := below_cellj t0 ht3 hbV3
          have z1 := below_cellj t1 ht3 hbV3
          have z2 := below_cellj t2 ht3 hbV3
          have hwV3 := hwV.trans (hbV3.mono hwV.size)
          have HASK := Lib.hid hask
          have HAM := Lib.hid ham
          clear hask ham hlit hasks hbV hbV3 t0 t1 t2 r3 r4 r5 hwV ht3
          go_wp2_with fail
          go_loopw [6] (fun f wr => ∃ j : Nat, f = .int .i64 j ∧ j ≤ 6 ∧ Below V3.heap.size V3 wr) (fun f _ => 6 - (intOf f).toNat)
          case atStart => exact ⟨0, rfl, by omega, Below.refl _ _⟩
          case round =>
            obtain ⟨j, rfl, hj, hwr2⟩ := hrel
            by_cases hj6 : j < 6
            · obtain ⟨s', hs', a0, a1, a2⟩ := (HASK.out.below hwr2).at_lit (k := j) (by omega)
              have hm' := HAM.out s' (List.mem_of_getElem? hs')
              obtain ⟨n', f', m'⟩ := s'
              simp only at a0 a1 a2 hm'
              have hj6d : decide ((j : Int) < 6) = true := by simp; omega
              go_wp2_with fail
              go_quiet (fail)
              have hwd := below_drewN hwr2 nq
              generalize wr.drewN nq = wd at *
              clear a0 a1 a2 hwr2
              have y0 := below_celllt z0 (by omega) hwd
              have y1 := below_celllt z1 (by omega) hwd
              have y2 := below_celllt z2 (by omega) hwd
              go_wp2_with fail
              refine (parts_any sk sm sz n' f' m' _ hm').mono ?_
              rintro e w3 ⟨v, rfl, hv, hbv⟩
              have hw3 := hwd.trans (hbv.mono hwd.size)
              clear hbv y0 y1 y2
              have y0 := below_celllt z0 (by omega) hw3
              have y1 := below_celllt z1 (by omega) hw3
              have y2 := below_celllt z2 (by omega) hw3
              unfold spanWant at hv
              have hok' : spanOk sk sm sz n' f' m' = (mayB (sk, sm, sz) && decide (0 ≤ n' ∧ n' ≤ 2000) && decide (0 ≤ f' ∧ f' ≤ n') && decide (0 ≤ m')) := rfl
              generalize hokg : spanOk sk sm sz n' f' m' = ok at *
              generalize her : (if ok = true then (0 : Int) else 1) = er at *
              have HER := Lib.hid her
              have HOK := Lib.hid hok'
              have HV := Lib.hid hv
              clear hv her hok' hokg
              go_wp2_with fail
              refine (refShape_any _ _ _ _).mono ?_
              rintro e w4 ⟨rfl, hb4⟩
              have HV4 := Lib.hid (HV.out.below hb4)
              have hw4 := hw3.trans (hb4.mono hw3.size)
              have HX4 := Lib.hid hw4
              clear hb4 y0 y1 y2
              have y0 := below_celllt z0 (by omega) hw4
              have y1 := below_celllt z1 (by omega) hw4
              have y2 := below_celllt z2 (by omega) hw4
              cases hok : ok
              · subst hok
                have her := HER.out
                have hok' := HOK.out
                simp at her
                subst her
                have HVN : Hid (ThreesIn w4 v []) := by have := HV4.out; simpa [Hid] using this
                clear HV HV4 hw3 hwd HER HOK
                have HOK := Lib.hid hok'
                clear hok'
                cases hmb : mayB (sk, sm, sz)
                · go_wp2_with (first | (go_at_call 11; refine (refNum_any _ _ _).mono ?_; rintro e w' ⟨rfl, rfl⟩) | (go_at_call 13; refine (num8_any _ _).mono ?_; rintro e w' ⟨rfl, rfl⟩))
                  refine (eqParts_yes _ _ [] _ HVN.out (RowIs.nil _ _ _ _) (by simp)).mono ?_
                  rintro e w6 ⟨rfl, hb6⟩
                  have HX := Lib.hid (HX4.out.trans (hb6.mono HX4.out.size))
                  clear hb6
                  go_wp2_with fail
                  go_roundw
                  case rel => exact ⟨j + 1, by go_num, by omega, HX.out⟩
                  case measure => simp [intOf]; omega
                · cases hd1 : decide (0 ≤ n' ∧ n' ≤ 2000)
                  · go_wp2_with (first | (go_at_call 11; refine (refNum_any _ _ _).mono ?_; rintro e w' ⟨rfl, rfl⟩) | (go_at_call 13; refine (num8_any _ _).mono ?_; rintro e w' ⟨rfl, rfl⟩))
                    refine (eqParts_yes _ _ [] _ HVN.out (RowIs.nil _ _ _ _) (by simp)).mono ?_
                    rintro e w6 ⟨rfl, hb6⟩
                    have HX := Lib.hid (HX4.out.trans (hb6.mono HX4.out.size))
                    clear hb6
                    go_wp2_with fail
                    go_roundw
                    case rel => exact ⟨j + 1, by go_num, by omega, HX.out⟩
                    case measure => simp [intOf]; omega
                  · cases hd2 : decide (0 ≤ f' ∧ f' ≤ n')
                    · go_wp2_with (first | (go_at_call 11; refine (refNum_any _ _ _).mono ?_; rintro e w' ⟨rfl, rfl⟩) | (go_at_call 13; refine (num8_any _ _).mono ?_; rintro e w' ⟨rfl, rfl⟩))
                      refine (eqParts_yes _ _ [] _ HVN.out (RowIs.nil _ _ _ _) (by simp)).mono ?_
                      rintro e w6 ⟨rfl, hb6⟩
                      have HX := Lib.hid (HX4.out.trans (hb6.mono HX4.out.size))
                      clear hb6
                      go_wp2_with fail
                      go_roundw
                      case rel => exact ⟨j + 1, by go_num, by omega, HX.out⟩
                      case measure => simp [intOf]; omega
                    · have hd3 : decide (0 ≤ m') = false := by have hok' := HOK.out; rw [hmb, hd1, hd2] at hok'; simpa using hok'.symm
                      go_wp2_with (first | (go_at_call 11; refine (refNum_any _ _ _).mono ?_; rintro e w' ⟨rfl, rfl⟩) | (go_at_call 13; refine (num8_any _ _).mono ?_; rintro e w' ⟨rfl, rfl⟩))
                      refine (eqParts_yes _ _ [] _ HVN.out (RowIs.nil _ _ _ _) (by simp)).mono ?_
                      rintro e w6 ⟨rfl, hb6⟩
                      have HX := Lib.hid (HX4.out.trans (hb6.mono HX4.out.size))
                      clear hb6
                      go_wp2_with fail
                      go_roundw
                      case rel => exact ⟨j + 1, by go_num, by omega, HX.out⟩
                      case measure => simp [intOf]; omega
              · subst hok
                have her := HER.out
                have hok' := HOK.out
                simp at her
                subst her
                have hok2 := hok'.symm
                simp only [Bool.and_eq_true] at hok2
                obtain ⟨⟨⟨hmb, hd1⟩, hd2⟩, hd3⟩ := hok2
                have k1 := of_decide_eq_true hd1
                have k2 := of_decide_eq_true hd2
                have k3 := of_decide_eq_true hd3
                clear hok' HV hw3 hwd HER HOK
                go_wp2_with (first | (go_at_call 11; refine (refNum_any _ _ _).mono ?_; rintro e w' ⟨rfl, rfl⟩) | (go_at_call 13; refine (num8_any _ _).mono ?_; rintro e w' ⟨rfl, rfl⟩))
                refine (refSpan_yes sk sm sz n' f' m' _ hmb k1.1 k1.2 k2.1 k2.2 k3 hm').mono ?_
                rintro e w5 ⟨v', rfl, hv', hb5⟩
                have HV5 := Lib.hid (HV4.out.below hb5)
                have HX5 := Lib.hid (HX4.out.trans (hb5.mono HX4.out.size))
                have hlen : (spanOf (sk * sz).toNat (endOf n' f' m') f'.toNat).length ≤ 9000000000000000000 := Nat.le_trans (spanOf_length _ _ _) (by unfold endOf; omega)
                have HV' := Lib.hid hv'
                have HL := Lib.hid hlen
                clear hv' hb5 hlen
                go_wp2_with (first | (go_at_call 11; refine (refNum_any _ _ _).mono ?_; rintro e w' ⟨rfl, rfl⟩) | (go_at_call 13; refine (num8_any _ _).mono ?_; rintro e w' ⟨rfl, rfl⟩))
                refine (eqParts_yes _ _ (spanOf (sk * sz).toNat (endOf n' f' m') f'.toNat) _ (by have := HV5.out; simpa using this) HV'.out HL.out).mono ?_
                rintro e w6 ⟨rfl, hb6⟩
                have HX := Lib.hid (HX5.out.trans (hb6.mono HX5.out.size))
                clear hb6
                go_wp2_with fail
                go_roundw
                case rel => exact ⟨j + 1, by go_num, by omega, HX.out⟩
                case measure => simp [intOf]; omega
            · have hj6d : decide ((j : Int) < 6) = false := by simp; omega
              go_wp2_with fail
              go_roundw
              case rel => exact ⟨k + 1, by go_num, by omega, by omega, hwV3.trans (hwr2.mono hwV3.size)⟩
              case measure => simp [intOf]; omega
      · by_cases hl1 : k < S.length
        · have hk4d : decide ((k : Int) < 4) = false := by simp; omega
          go_wp2_with fail
          refine (wakes8_any _).mono ?_
          rintro e w3 ⟨rfl, hb4⟩
          have hx := hwr.trans (hb4.mono hwr.size)
          have hx2 := hb2.trans (hx.mono hb2.size)
          clear hb4
          go_wp2_with fail
          go_ret
          exact ⟨rfl, hx2⟩
        · go_wp2_with fail
          refine (wakes8_any _).mono ?_
          rintro e w3 ⟨rfl, hb4⟩
          have hx := hwr.trans (hb4.mono hwr.size)
          have hx2 := hb2.trans (hx.mono hb2.size)
          clear hb4
          go_wp2_with fail
          go_ret
          exact ⟨rfl, hx2⟩
  · go_wp2_with fail
    go_ret
    exact ⟨rfl, hb2⟩
end Go.Proofs.Ytgbgignnjpcncaa
