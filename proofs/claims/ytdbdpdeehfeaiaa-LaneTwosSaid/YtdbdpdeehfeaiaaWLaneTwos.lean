/- LaneTwos, walked. -/
import Derived.Test.YtdbdpdeehfeaiaaLaneM
namespace Go.Proofs.Ytdbdpdeehfeaiaa
open Go.ChangeShapes Go.WideShapes Go.ChangeAt Go.RowKit Go.Joins
set_option linter.unusedVariables false
set_option linter.unusedSimpArgs false

theorem cum2 {W a b : World} (h : Below W.heap.size W a) (hb : Below a.heap.size a b) : Below W.heap.size W b := h.trans (hb.mono h.size)
theorem cum2d {W a b : World} (h : Below W.heap.size W a) (hb : Below a.drew.heap.size a.drew b) : Below W.heap.size W b := h.trans ((below_of_drew hb).mono h.size)
def scS (s : ByteArray) (c : Nat) : ByteArray := if 8192 < s.size then ⟨#[]⟩ else scaledS s c
def scE (s : ByteArray) : Int := if 8192 < s.size then 2 else 0
def adS (s t : ByteArray) : ByteArray := if mayN [s, t] = 0 then addedS s t else ⟨#[]⟩
def mxS (s t : ByteArray) (c : Nat) : ByteArray := if mayN [s, t] = 0 then mixS s t c else ⟨#[]⟩
theorem scale_all (s : ByteArray) (c : Nat) (hc : c < 256) (w : World) :
    Calls Try.prog 8 #[.string s, .int .u8 (c : Int)] w fun e w' => e = .returned (.tuple #[.string (scS s c), .int .i64 (scE s)]) ∧ Below w.heap.size w w' := by
  unfold scS scE
  split
  · rename_i h; exact scale_no s c w h
  · rename_i h; exact scale_yes s c w h hc
theorem add_all (s t : ByteArray) (w : World) :
    Calls Try.prog 13 #[.string s, .string t] w fun e w' => e = .returned (.tuple #[.string (adS s t), .int .i64 (mayN [s, t])]) ∧ Below w.heap.size w w' := by
  unfold adS
  split
  · rename_i h; rw [h]; exact add_yes s t w h
  · rename_i h; exact add_no s t w h
theorem mulAdd_all (s t : ByteArray) (c : Nat) (hc : c < 256) (w : World) :
    Calls Try.prog 14 #[.string s, .string t, .int .u8 (c : Int)] w fun e w' => e = .returned (.tuple #[.string (mxS s t c), .int .i64 (mayN [s, t])]) ∧ Below w.heap.size w w' := by
  unfold mxS
  split
  · rename_i h; rw [h]; exact mulAdd_yes s t c w h hc
  · rename_i h; exact mulAdd_no s t c w h

set_option maxRecDepth 100000 in
set_option maxHeartbeats 4000000 in
theorem laneTwos_walk (w : World) (vL : Value) (C N : Int) (L : List ByteArray) (hT : TextsIn w vL L) (hC : 0 ≤ C ∧ C ≤ 255) (hN : -9223372036854775808 ≤ N ∧ N ≤ 9223372036854775807) :
    Calls Try.prog 4 #[.agg #[vL, .int .u8 C, .int .i64 N]] w fun e w' => e = .returned (.bool true) ∧ Below w.heap.size w w' := by
  obtain ⟨c, rfl⟩ : ∃ c : Nat, C = (c : Int) := ⟨C.toNat, by omega⟩
  have hc : c < 256 := by omega
  have hT2 := hT.below (box3_facts2 w vL (.int .u8 (c : Int)) (.int .i64 N) 24).1
  obtain ⟨hbel, hc0, hc1, hc2, hsz⟩ := box3_facts2 w vL (.int .u8 (c : Int)) (.int .i64 N) 24
  have HTT := Lib.hid hT2
  obtain ⟨A, kL, rfl⟩ := hT.row.shape
  have HL := Lib.hid hT2.row
  clear hT hT2
  go_enter Try.func4, Try.ntmps4
  go_wp2_with fail
  refine (heavy2_any _ (c : Int) N L _ HTT.out).mono ?_
  rintro e w1 ⟨bo, hbo, rfl, hb1⟩
  have hHL1 := HL.out.below hb1
  have HTT1 := Lib.hid (HTT.out.below hb1)
  have hlt0 : w.heap.size < (w.alloc (.cells #[.slice A L.length kL, .int .u8 (c : Int), .int .i64 N] 24)).heap.size := by rw [hsz]; omega
  have d0 := below_celllt hc0 hlt0 hb1
  have d1 := below_celllt hc1 hlt0 hb1
  have d2 := below_celllt hc2 hlt0 hb1
  have hb2 := hbel.trans (hb1.mono hbel.size)
  have hlt1 : w.heap.size < w1.heap.size := Nat.lt_of_lt_of_le hlt0 hb1.size
  have HL1 := Lib.hid hHL1
  clear hb1 hc0 hc1 hc2 hsz hbel HL HTT hlt0 hHL1
  generalize hB0 : w.heap.size = B0 at d0 d1 d2 hlt1
  cases bo
  · have hT9 := hbo rfl
    have HM : Hid (∀ s ∈ L, s.size ≤ 9000) := fun s hs => Nat.le_trans (total_mem hs) hT9
    have hLl : L.length ≤ 9000 := by unfold total at hT9; omega
    clear hbo hT9
    clear HTT1 d2
    go_wp2_with fail
    go_loopw [3] (fun i wr => ∃ k : Nat, i = .int .i64 k ∧ k ≤ L.length ∧ k ≤ 5 ∧ Below w1.heap.size w1 wr) (fun i _ => 5 - (intOf i).toNat)
    case atStart => exact ⟨0, rfl, by omega, by omega, Below.refl _ _⟩
    case round =>
      obtain ⟨i, rfl, hi, hi5, hcum⟩ := hrel
      obtain ⟨wo, rfl⟩ : ∃ wo : World, wo = wr := ⟨_, rfl⟩
      have e0 := below_celllt d0 hlt1 hcum
      have e1 := below_celllt d1 hlt1 hcum
      by_cases hlt : i < L.length ∧ i < 5
      · obtain ⟨hl1, hl2⟩ := hlt
        have hid : decide ((i : Int) < 5) = true := by simp; omega
        have hi0 : (0 : Int) ≤ (i : Int) := by omega
        have hi1 : (i : Int) < (L.length : Int) := by omega
        obtain ⟨b, o, rfl, hbl, hcell⟩ := HL1.out.at_ hl1
        obtain ⟨s, hs⟩ : ∃ s, s = L[i]'hl1 := ⟨_, rfl⟩
        rw [← hs] at hcell
        have hsz : s.size ≤ 9000 := by rw [hs]; exact HM.out _ (List.getElem_mem _)
        have hcs := below_celllt hcell hbl hcum
        have hKK : ∀ W', Below w1.heap.size w1 W' → (W'.cell? ⟨B0, 0, none⟩ = some (.slice (some ⟨b, o, none⟩) L.length kL) ∧ W'.cell? ⟨B0, 1, none⟩ = some (.int .u8 (c : Int)) ∧ W'.cell? ⟨b, o + i, none⟩ = some (.string s)) := fun W' h => ⟨below_celllt d0 hlt1 h, below_celllt d1 hlt1 h, below_celllt hcell hbl h⟩
        have HK := Lib.hid hKK
        clear hKK hs hcell d0 d1
        go_wp2_with fail
        go_region_held3 (fun W' => W'.cell? ⟨B0, 0, none⟩ = some (.slice (some ⟨b, o, none⟩) L.length kL) ∧ W'.cell? ⟨B0, 1, none⟩ = some (.int .u8 (c : Int)) ∧ W'.cell? ⟨b, o + i, none⟩ = some (.string s)) (first | exact HK.out _ hcum | exact HK.out _ (Below.drew hcum) | go_keep)
          (first | (go_at_call 8; refine (scale_all s c hc _).mono ?_; rintro e w' ⟨rfl, hbx⟩; have hcum := (by first | exact cum2 hcum hbx | exact cum2d hcum hbx)))
        clear e0 e1 hcs
        clear hbx
        have e0 := (HK.out _ hcum).1
        have e1 := (HK.out _ hcum).2.1
        have hcs := (HK.out _ hcum).2.2
        go_upto_if 46 with (fail)
        go_cut [6, 7] from 46 to 54 (fun bd wt wx => bd = .int .i64 (scE s) ∧ wt = .string (scS s c) ∧ Below w1.heap.size w1 wx)
        case first =>
          by_cases h8 : 8192 < s.size
          · have h8d : decide ((8192 : Int) < (s.size : Int)) = true := by simp; omega
            have x1 : Hid (scE s = 2) := by rw [Hid, scE, if_pos h8]
            have x2 : Hid (scS s c = ⟨#[]⟩) := by rw [Hid, scS, if_pos h8]
            go_wp2_with fail
            go_meet
            exact ⟨by rw [x1.out], by rw [x2.out], hcum⟩
          · have h8d : decide ((8192 : Int) < (s.size : Int)) = false := by simp; omega
            have x1 : Hid (scE s = 0) := by rw [Hid, scE, if_neg h8]
            have x2 : Hid (scS s c = scaledS s c) := by rw [Hid, scS, if_neg h8]
            go_wp2_with fail
            go_still_tail 7, (by kernel_rfl)
            change wpList _ _ _ _ _ (World.drew _)
            go_wp2_with fail
            refine (refScaled_any s c _ (by omega) hc).mono ?_
            rintro e w' ⟨rfl, hbx⟩
            have hcum := cum2d hcum hbx
            clear hbx e0 e1 hcs
            go_wp2_with fail
            go_meet
            exact ⟨by rw [x1.out], by rw [x2.out], hcum⟩
        case rest =>
        obtain ⟨rfl, rfl, hcum⟩ := hcut
        clear e0 e1 hcs
        generalize scE s = se at *
        generalize scS s c = ss at *
        go_wp2_with (go_at_call 9; refine (num2_any _ _).mono ?_; rintro e w' ⟨rfl, rfl⟩)
        obtain ⟨wz, rfl⟩ : ∃ wz : World, wz = wc := ⟨_, rfl⟩
        go_loopw [8] (fun jj wr => ∃ j : Nat, jj = .int .i64 j ∧ j ≤ L.length ∧ j ≤ 5 ∧ Below w1.heap.size w1 wr) (fun jj _ => 5 - (intOf jj).toNat)
        case atStart => exact ⟨0, rfl, by omega, by omega, hcum⟩
        case round =>
          clear hcum
          obtain ⟨j, rfl, hj, hj5, hcum⟩ := hrel
          have e0 := (HK.out _ hcum).1
          have e1 := (HK.out _ hcum).2.1
          have hcs := (HK.out _ hcum).2.2
          by_cases hltj : j < L.length ∧ j < 5
          · obtain ⟨hj1, hj2⟩ := hltj
            have hjd : decide ((j : Int) < 5) = true := by simp; omega
            have hj0 : (0 : Int) ≤ (j : Int) := by omega
            have hjl : (j : Int) < (L.length : Int) := by omega
            obtain ⟨b', o', eA, hbl', hcellj⟩ := HL1.out.at_ hj1
            cases eA
            obtain ⟨t, ht⟩ : ∃ t, t = L[j]'hj1 := ⟨_, rfl⟩
            rw [← ht] at hcellj
            have htz : t.size ≤ 9000 := by rw [ht]; exact HM.out _ (List.getElem_mem _)
            have hct := below_celllt hcellj hbl hcum
            have hKK : ∀ W', Below w1.heap.size w1 W' → (W'.cell? ⟨B0, 0, none⟩ = some (.slice (some ⟨b, o, none⟩) L.length kL) ∧ W'.cell? ⟨B0, 1, none⟩ = some (.int .u8 (c : Int)) ∧ W'.cell? ⟨b, o + i, none⟩ = some (.string s) ∧ W'.cell? ⟨b, o + j, none⟩ = some (.string t)) := fun W' h => ⟨(HK.out _ h).1, (HK.out _ h).2.1, (HK.out _ h).2.2, below_celllt hcellj hbl h⟩
            have HK2 := Lib.hid hKK
            clear hKK ht hcellj
            have HMA := Lib.hid (mulAdd_all s t c hc)
            have HAD := Lib.hid (add_all s t)
            obtain ⟨r, hr⟩ : ∃ r, r = mayN [s, t] := ⟨_, rfl⟩
            obtain ⟨ad, had⟩ : ∃ x, x = adS s t := ⟨_, rfl⟩
            obtain ⟨mx, hmx⟩ : ∃ x, x = mxS s t c := ⟨_, rfl⟩
            rw [← hr, ← had] at HAD
            rw [← hr, ← hmx] at HMA
            have HR := Lib.hid hr
            have HA := Lib.hid had
            have HX := Lib.hid hmx
            clear hr had hmx
            go_wp2_with fail
            go_region_held3 (fun W' => W'.cell? ⟨B0, 0, none⟩ = some (.slice (some ⟨b, o, none⟩) L.length kL) ∧ W'.cell? ⟨B0, 1, none⟩ = some (.int .u8 (c : Int)) ∧ W'.cell? ⟨b, o + i, none⟩ = some (.string s) ∧ W'.cell? ⟨b, o + j, none⟩ = some (.string t)) (first | exact HK2.out _ hcum | exact HK2.out _ (Below.drew hcum) | go_keep)
              (first | (go_at_call 13; refine (HAD.out _).mono ?_; rintro e w' ⟨rfl, hbx⟩; have hcum := (by first | exact cum2 hcum hbx | exact cum2d hcum hbx)))
            clear e0 e1 hcs hct hbx
            have e0 := (HK2.out _ hcum).1
            have e1 := (HK2.out _ hcum).2.1
            have hcs := (HK2.out _ hcum).2.2.1
            have hct := (HK2.out _ hcum).2.2.2
            go_wp2_with fail
            go_region_held3 (fun W' => W'.cell? ⟨B0, 0, none⟩ = some (.slice (some ⟨b, o, none⟩) L.length kL) ∧ W'.cell? ⟨B0, 1, none⟩ = some (.int .u8 (c : Int)) ∧ W'.cell? ⟨b, o + i, none⟩ = some (.string s) ∧ W'.cell? ⟨b, o + j, none⟩ = some (.string t)) (first | exact HK2.out _ hcum | exact HK2.out _ (Below.drew hcum) | go_keep)
              (first | (go_at_call 14; refine (HMA.out _).mono ?_; rintro e w' ⟨rfl, hbx⟩; have hcum := (by first | exact cum2 hcum hbx | exact cum2d hcum hbx)))
            clear e0 e1 hcs hct hbx
            have e0 := (HK2.out _ hcum).1
            have e1 := (HK2.out _ hcum).2.1
            have hcs := (HK2.out _ hcum).2.2.1
            have hct := (HK2.out _ hcum).2.2.2
            go_upto_region 18 with (fail)
            go_still_tail 10, (by kernel_rfl)
            change wpList _ _ _ _ _ (World.drew _)
            go_wp2_with fail
            refine (refTwo_any s t _ (by omega) (by omega)).mono ?_
            rintro e w' ⟨rfl, rfl⟩
            rw [← HR.out]
            have hcum := Below.drew hcum
            clear e0 e1 hcs hct
            have e0 := (HK2.out _ hcum).1
            have e1 := (HK2.out _ hcum).2.1
            have hcs := (HK2.out _ hcum).2.2.1
            have hct := (HK2.out _ hcum).2.2.2
            go_upto_if 117 with (fail)
            go_cut [14, 15] from 117 to 142 (fun va vm wx => va = .string ad ∧ vm = .string mx ∧ Below w1.heap.size w1 wx)
            case first =>
              by_cases hm : mayN [s, t] = 0
              · have hrd : (r == 0) = true := by rw [HR.out, hm]; rfl
                have hst := two_zero hm
                have hmix := mixS_scaled s t c (by omega)
                have hscz := scaledS_size t c
                have x1 : Hid (addedS s t = ad) := by rw [Hid, HA.out, adS, if_pos hm]
                have x2 : mixS s t c = mx := by rw [HX.out, mxS, if_pos hm]
                rw [x2] at hmix
                have hts : t.size = s.size := hst.2
                obtain ⟨sct, hsct⟩ : ∃ x, scaledS t c = x := ⟨_, rfl⟩
                rw [hsct] at hmix hscz
                have hscs : sct.size = s.size := hscz.trans hts
                have X2 := Lib.hid hmix
                have HAC : Hid (∀ (W : World) (b : ByteArray), b.size = s.size → Calls Try.prog 16 #[.string s, .string b] W fun e w' => e = .returned (.string (addedS s b)) ∧ Below W.heap.size W w') := fun W b hb => refAdded_any s b W (by omega) (by omega) (by omega)
                have HSL : Hid (∀ (W : World), Calls Try.prog 12 #[.string t, .int .u8 (c : Int)] W fun e w' => e = .returned (.string sct) ∧ Below W.heap.size W w') := fun W => by rw [← hsct]; exact refScaled_any t c W (by omega) hc
                clear hm hsct hmix x2 hst hscz HA HX HM HL1
                go_wp2_with fail
                go_region_held3 (fun W' => W'.cell? ⟨B0, 0, none⟩ = some (.slice (some ⟨b, o, none⟩) L.length kL) ∧ W'.cell? ⟨B0, 1, none⟩ = some (.int .u8 (c : Int)) ∧ W'.cell? ⟨b, o + i, none⟩ = some (.string s) ∧ W'.cell? ⟨b, o + j, none⟩ = some (.string t)) (first | exact HK2.out _ hcum | exact HK2.out _ (Below.drew hcum) | go_keep)
                  (first | (go_at_call 16; refine (HAC.out _ _ (by assumption)).mono ?_; rintro e w' ⟨rfl, hbx⟩; have hcum := (by first | exact cum2 hcum hbx | exact cum2d hcum hbx)) | (go_at_call 12; refine (HSL.out _).mono ?_; rintro e w' ⟨rfl, hbx⟩; have hcum := (by first | exact cum2 hcum hbx | exact cum2d hcum hbx)))
                all_goals
                  rw [x1.out, X2.out]
                  clear e0 e1 hcs hct
                  go_wp2_with fail
                  go_meet
                  exact ⟨rfl, rfl, hcum⟩
              · have hrd : (r == 0) = false := beq_eq_false_iff_ne.2 (by rw [HR.out]; exact hm)
                have x1 : Hid (ad = ⟨#[]⟩) := by rw [Hid, HA.out, adS, if_neg hm]
                have x2 : Hid (mx = ⟨#[]⟩) := by rw [Hid, HX.out, mxS, if_neg hm]
                go_wp2_with fail
                go_meet
                exact ⟨by rw [x1.out], by rw [x2.out], hcum⟩
            case rest =>
            obtain ⟨rfl, rfl, hcum⟩ := hcut
            clear e0 e1 hcs hct
            go_wp2_with (go_at_call 9; refine (num2_any _ _).mono ?_; rintro e w' ⟨rfl, rfl⟩)
            go_roundw
            case rel => exact ⟨j + 1, by go_num, by omega, by omega, hcum⟩
            case measure => simp [intOf]; omega
          · by_cases hj1 : j < L.length
            · have hjd : decide ((j : Int) < 5) = false := by simp; omega
              go_wp2_with fail
              go_roundw
              case rel => exact ⟨i + 1, by go_num, by omega, by omega, hcum⟩
              case measure => simp [intOf]; omega
            · skip
              go_wp2_with fail
              go_roundw
              case rel => exact ⟨i + 1, by go_num, by omega, by omega, hcum⟩
              case measure => simp [intOf]; omega
      · by_cases hl1 : i < L.length
        · have hid : decide ((i : Int) < 5) = false := by simp; omega
          go_wp2_with fail
          refine (wakes2_any _).mono ?_
          rintro e w3 ⟨rfl, hb4⟩
          have hx := hcum.trans (hb4.mono hcum.size)
          have hx2 := hb2.trans (hx.mono hb2.size)
          clear hb4
          go_wp2_with fail
          go_ret
          exact ⟨rfl, hx2⟩
        · skip
          go_wp2_with fail
          refine (wakes2_any _).mono ?_
          rintro e w3 ⟨rfl, hb4⟩
          have hx := hcum.trans (hb4.mono hcum.size)
          have hx2 := hb2.trans (hx.mono hb2.size)
          clear hb4
          go_wp2_with fail
          go_ret
          exact ⟨rfl, hx2⟩
  · go_wp2_with fail
    go_ret
    exact ⟨rfl, hb2⟩
end Go.Proofs.Ytdbdpdeehfeaiaa
