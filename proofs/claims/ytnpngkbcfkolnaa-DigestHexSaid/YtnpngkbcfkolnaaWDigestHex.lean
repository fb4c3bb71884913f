/- DigestHex, walked. -/
import Derived.Test.YtnpngkbcfkolnaaHexE
import Derived.BigQuiet
namespace Go.Proofs.Ytnpngkbcfkolnaa
open Go.ChangeShapes Go.WideShapes Go.ChangeAt Go.RowKit Go.Joins
set_option linter.unusedVariables false
set_option linter.unusedSimpArgs false
attribute [local go_sem ↓] Go.wp_at_zero Go.wp_at_succ

theorem hexS_size {d : ByteArray} (h : d.size = 32) : (hexS d).size = 64 := by rw [hexS, strOf8_size, someHex_length, h]
theorem total_mem {ss : List ByteArray} {s : ByteArray} (h : s ∈ ss) (ht : total ss ≤ 6000) : s.size ≤ 6000 := by
  obtain ⟨i, hi, rfl⟩ := List.getElem_of_mem h
  have := total_get hi
  rw [← List.getElem_eq_getD (h := hi)] at this; omega

set_option maxRecDepth 100000 in
set_option maxHeartbeats 4000000 in
theorem digestHex_walk (w : World) (vS : Value) (ss : List ByteArray) (hS : TextsIn w vS ss) :
    Calls Try.prog 7 #[.agg #[vS]] w fun e w' => e = .returned (.bool true) ∧ Below w.heap.size w w' := by
  obtain ⟨i0, hi, hz0, hz1, hz2⟩ := info_parts infoStr6
  have hF := box1_facts w vS 24
  have HT := Lib.hid (hS.below hF.1)
  obtain ⟨p, cap, rfl, h16, hs, hSl⟩ := hS
  have HSl := Lib.hid (hSl.below hF.1)
  have HBs := Lib.hid hs
  clear hSl hs
  go_enter Try.func7, Try.ntmps7
  go_wp2_with fail
  generalize w.alloc (Obj.cells #[Value.slice p ss.length cap] 24) = W at *
  obtain ⟨hbel, hc0, hsz⟩ := hF
  have HC0 := Lib.hid hc0
  have HSZ := Lib.hid hsz
  clear hc0 hsz
  refine (heavy6_any _ ss _ HT.out).mono ?_
  rintro e w1 ⟨heavy, hheavy, rfl, hb1⟩
  cases heavy with
  | true =>
    clear hheavy
    go_wp2_with fail
    go_ret
    exact ⟨rfl, hbel.trans (hb1.mono hbel.size)⟩
  | false =>
    have ht := hheavy rfl
    clear hheavy
    have hlen : ss.length ≤ 6000 := by unfold total at ht; omega
    have hlW : w.heap.size < W.heap.size := by rw [HSZ.out]; omega
    have hc0 := below_box HC0 HSZ hb1
    have HT1 := Lib.hid (HT.out.below hb1)
    have HL0 : Hid (∀ s ∈ ss, s.size ≤ 6000) := fun s hs => total_mem hs ht
    go_wp2_with fail
    refine (copyStrs_any _ ss _ HT1.out hlen).mono ?_
    rintro e w2 ⟨r, rfl, hown, hb2⟩
    have HOWN := Lib.hid hown
    have HB2 := Lib.hid hb2
    clear hown hb2 hc0
    go_wp2_with fail
    go_loopw [3, 4] (fun l i wr => ∃ (k : Nat) (L : List ByteArray), i = .int .i64 k ∧ k ≤ 6 ∧ L.length ≤ 6000 + 3 * k ∧ wr.ownsRow w1.heap.size 9 1 l L.length (L.map Value.string) ∧ Hid (∀ s ∈ L, s.size ≤ 6000) ∧ Below w1.heap.size w1 wr) (fun _ i _ => (6 - intOf i).toNat)
    case atStart => exact ⟨0, ss, rfl, by omega, by omega, HOWN.out, HL0, HB2.out⟩
    case round =>
      clear HOWN HL0 HB2
      obtain ⟨k, L, rfl, hk, hL, hown, HL, hwr⟩ := hrel
      have hwo := hb1.trans (hwr.mono hb1.size)
      have hc0 := below_box HC0 HSZ hwo
      by_cases h4 : k < ss.length ∧ k < 6
      · obtain ⟨h3, h4⟩ := h4
        have hk4 : decide ((k : Int) < 6) = true := by simp; omega
        obtain ⟨b, off, s, rfl, hsz, HE, hcell⟩ := text_at (HSl.out.below hwo) HBs.out h3
        have hts : s.size ≤ 6000 := by have := total_get h3; rw [← HE.out] at this; omega
        have i1 : (k : Int) < (ss.length : Int) := by omega
        clear HE
        go_wp2_with fail
        refine (refDigest_any _ _ (by omega)).mono ?_
        rintro e w3 ⟨rfl, hb3⟩
        obtain ⟨d, hd⟩ : ∃ d, d = digestS s := ⟨_, rfl⟩
        rw [← hd]
        have hd32 : d.size = 32 := by rw [hd]; exact digestS_size s
        have ho3 := own_below hown hb3
        have hx3 := hwr.trans (hb3.mono hwr.size)
        have h64 := hexS_size hd32
        obtain ⟨h, hh⟩ : ∃ h, h = hexS d := ⟨_, rfl⟩
        rw [← hh] at h64
        have HH := Lib.hid hh
        clear hd hh hown hb3 hc0 hcell hwr hwo
        go_wp2_with fail
        refine (refHex_any d _ (by omega)).mono ?_
        rintro e w4 ⟨rfl, hb4⟩
        rw [← HH.out]
        have ho4 := own_below ho3 hb4
        have hx4 := hx3.trans (hb4.mono hx3.size)
        clear ho3 hx3 hb4
        go_wp2_with fail
        refine (refHex_any d _ (by omega)).mono ?_
        rintro e w5 ⟨rfl, hb5⟩
        rw [← HH.out]
        have ho5 := own_below ho4 hb5
        have hx5 := hx4.trans (hb5.mono hx4.size)
        clear ho4 hx4 hb5
        have HD := Lib.hid hd32
        have H64 := Lib.hid h64
        have h64a : 63 ≤ h.size := by omega
        go_wp2_with (first | (at_builtin; refine wpList_append_own _ rfl _ _ 22 rfl w1.heap.size 9 i0 (.string ByteArray.empty) 1 16 Try.underlying22 hi hz0 hz1 hz2 rfl (by decide) _ _ _ rfl (ho5.alloc _) ⟨w5.heap.size, 0, none⟩ 3 3 [.string d, .string h, .string (h.extract 0 63 ++ ⟨#[70]⟩)] rfl rfl ?c1 ?c2 ?c3 ?c4 ?c5 ?_) | go_in)
        case c1 => exact cell_three_new _ _ _ _ _
        case c2 => intro u hu; simp at hu; rcases hu with rfl | rfl | rfl <;> rfl
        case c3 => unfold maxLen; omega
        case c4 => omega
        case c5 => have := hx5.size; simp; omega
        all_goals
          intro v' w6 hown' hgrow _
          have hbx := append_below hx5 ho5 hgrow
          clear ho5 hgrow hx5
          go_wp2_with fail
          go_roundw
          case rel =>
            refine ⟨k + 1, L ++ [d, h, h.extract 0 63 ++ ⟨#[70]⟩], by go_num, by omega, by simp; omega, ?_, ?_, hbx⟩
            · rw [List.length_append, List.map_append]; exact hown'
            · intro u hu
              rcases List.mem_append.1 hu with hu | hu
              · exact HL.out u hu
              · have e1 := HD.out
                have e2 := H64.out
                simp at hu
                rcases hu with rfl | rfl | rfl
                · omega
                · omega
                · rw [ByteArray.size_append, ByteArray.size_extract, e2]; decide
          case measure => simp [intOf]; omega
      · by_cases h3 : k < ss.length
        · have hk6 : decide ((k : Int) < 6) = false := by simp; omega
          obtain ⟨A, c, rfl⟩ := own_shape hown
          have HR : Hid (Strs6 wr (.slice A L.length c) L) := Lib.hid (RowIs.of_own hown)
          have hwW := hb1.trans (hwr.mono hb1.size)
          obtain ⟨wq, rfl⟩ : ∃ wq : World, wq = wr := ⟨_, rfl⟩
          clear hown hwr
          go_wp2_with fail
          go_loopw [6] (fun i wx => ∃ j : Nat, i = .int .i64 j ∧ j ≤ L.length ∧ Below wq.heap.size wq wx) (fun i _ => L.length - (intOf i).toNat)
          case atStart => exact ⟨0, rfl, by omega, Below.refl _ _⟩
          case round =>
            obtain ⟨wx, rfl⟩ : ∃ wx : World, wx = wr := ⟨_, rfl⟩
            obtain ⟨j, rfl, hj, hB⟩ := hrel
            by_cases hlt : j < L.length
            · obtain ⟨b, o, rfl, hbl, hcell⟩ := Strs6.at_ (HR.out.below hB) hlt
              obtain ⟨s, hs⟩ : ∃ s, s = L[j]'hlt := ⟨_, rfl⟩
              rw [← hs] at hcell
              have hsz : s.size ≤ 6000 := by rw [hs]; exact HL.out _ (List.getElem_mem _)
              have HK : Hid (∀ W', Below wx.heap.size wx W' → W'.cell? ⟨b, o + j, none⟩ = some (.string s)) := fun W' h => by rw [h.cell (p := ⟨b, o + j, none⟩) hbl]; exact hcell
              have j0 : (0 : Int) ≤ (j : Int) := by omega
              have j1 : (j : Int) < (L.length : Int) := by omega
              clear hs
              cases ho : okB s
              · by_cases h32 : s.size = 32
                · have TE := Lib.hid (taken_no ho).2
                  have HO := Lib.hid ho
                  have hq : ((s.size : Int) == 32) = true := by rw [h32]; rfl
                  have H32 := Lib.hid h32
                  clear h32 ho
                  go_wp2_with fail
                  refine (hex_yes s _ H32.out).mono ?_
                  rintro e w5 ⟨rfl, hb5⟩
                  have hc5 := HK.out _ hb5
                  clear hcell
                  go_wp2_with fail
                  refine (refHex_any s _ (by omega)).mono ?_
                  rintro e w6 ⟨rfl, hb6⟩
                  have hx6 := hb5.trans (hb6.mono hb5.size)
                  have hc6 := HK.out _ hx6
                  clear hc5 hb5 hb6
                  go_wp2_with fail
                  refine (take_any s _ (by omega)).mono ?_
                  rintro e w7 ⟨rfl, hb7⟩
                  rw [TE.out]
                  have hx7 := hx6.trans (hb7.mono hx6.size)
                  have hc7 := HK.out _ hx7
                  clear hx6 hb7 hc6
                  go_wp2_with fail
                  refine (refUnhex_any s _ (by omega)).mono ?_
                  rintro e w8 ⟨rfl, hb8⟩
                  rw [HO.out]
                  have hx8 := hB.trans ((hx7.trans (hb8.mono hx7.size)).mono hB.size)
                  clear hx7 hb8 hc7
                  generalize takenS s = TS
                  go_wp2_with (go_at_call 25; refine (num6_any _ _).mono ?_; rintro e w' ⟨rfl, rfl⟩)
                  go_roundw
                  case rel => exact ⟨j + 1, by go_num, by omega, hx8⟩
                  case measure => simp [intOf]; omega
                · have TE := Lib.hid (taken_no ho).2
                  have HO := Lib.hid ho
                  have hq : ((s.size : Int) == 32) = false := beq_eq_false_iff_ne.2 (by omega)
                  have H32 := Lib.hid h32
                  clear h32 ho
                  go_wp2_with fail
                  refine (hex_no s _ H32.out (by omega)).mono ?_
                  rintro e w6 ⟨rfl, rfl⟩
                  have hx6 := Below.refl wx.heap.size wx
                  go_wp2_with fail
                  refine (take_any s _ (by omega)).mono ?_
                  rintro e w7 ⟨rfl, hb7⟩
                  rw [TE.out]
                  have hx7 := hx6.trans (hb7.mono hx6.size)
                  have hc7 := HK.out _ hx7
                  clear hx6 hb7 hcell
                  go_wp2_with fail
                  refine (refUnhex_any s _ (by omega)).mono ?_
                  rintro e w8 ⟨rfl, hb8⟩
                  rw [HO.out]
                  have hx8 := hB.trans ((hx7.trans (hb8.mono hx7.size)).mono hB.size)
                  clear hx7 hb8 hc7
                  generalize takenS s = TS
                  go_wp2_with (go_at_call 25; refine (num6_any _ _).mono ?_; rintro e w' ⟨rfl, rfl⟩)
                  go_roundw
                  case rel => exact ⟨j + 1, by go_num, by omega, hx8⟩
                  case measure => simp [intOf]; omega
              · by_cases h32 : s.size = 32
                · have TE := Lib.hid (taken_yes ho).2
                  have HO := Lib.hid ho
                  have hq : ((s.size : Int) == 32) = true := by rw [h32]; rfl
                  have H32 := Lib.hid h32
                  clear h32 ho
                  go_wp2_with fail
                  refine (hex_yes s _ H32.out).mono ?_
                  rintro e w5 ⟨rfl, hb5⟩
                  have hc5 := HK.out _ hb5
                  clear hcell
                  go_wp2_with fail
                  refine (refHex_any s _ (by omega)).mono ?_
                  rintro e w6 ⟨rfl, hb6⟩
                  have hx6 := hb5.trans (hb6.mono hb5.size)
                  have hc6 := HK.out _ hx6
                  clear hc5 hb5 hb6
                  go_wp2_with fail
                  refine (take_any s _ (by omega)).mono ?_
                  rintro e w7 ⟨rfl, hb7⟩
                  rw [TE.out]
                  have hx7 := hx6.trans (hb7.mono hx6.size)
                  have hc7 := HK.out _ hx7
                  clear hx6 hb7 hc6
                  go_wp2_with fail
                  refine (refUnhex_any s _ (by omega)).mono ?_
                  rintro e w8 ⟨rfl, hb8⟩
                  rw [HO.out]
                  have hx8 := hB.trans ((hx7.trans (hb8.mono hx7.size)).mono hB.size)
                  clear hx7 hb8 hc7
                  generalize takenS s = TS
                  go_wp2_with (go_at_call 25; refine (num6_any _ _).mono ?_; rintro e w' ⟨rfl, rfl⟩)
                  go_roundw
                  case rel => exact ⟨j + 1, by go_num, by omega, hx8⟩
                  case measure => simp [intOf]; omega
                · have TE := Lib.hid (taken_yes ho).2
                  have HO := Lib.hid ho
                  have hq : ((s.size : Int) == 32) = false := beq_eq_false_iff_ne.2 (by omega)
                  have H32 := Lib.hid h32
                  clear h32 ho
                  go_wp2_with fail
                  refine (hex_no s _ H32.out (by omega)).mono ?_
                  rintro e w6 ⟨rfl, rfl⟩
                  have hx6 := Below.refl wx.heap.size wx
                  go_wp2_with fail
                  refine (take_any s _ (by omega)).mono ?_
                  rintro e w7 ⟨rfl, hb7⟩
                  rw [TE.out]
                  have hx7 := hx6.trans (hb7.mono hx6.size)
                  have hc7 := HK.out _ hx7
                  clear hx6 hb7 hcell
                  go_wp2_with fail
                  refine (refUnhex_any s _ (by omega)).mono ?_
                  rintro e w8 ⟨rfl, hb8⟩
                  rw [HO.out]
                  have hx8 := hB.trans ((hx7.trans (hb8.mono hx7.size)).mono hB.size)
                  clear hx7 hb8 hc7
                  generalize takenS s = TS
                  go_wp2_with (go_at_call 25; refine (num6_any _ _).mono ?_; rintro e w' ⟨rfl, rfl⟩)
                  go_roundw
                  case rel => exact ⟨j + 1, by go_num, by omega, hx8⟩
                  case measure => simp [intOf]; omega
            · go_wp2_with fail
              refine (wakes6_any _).mono ?_
              rintro e w4 ⟨rfl, hb4⟩
              have hx := hwW.trans (hB.mono hwW.size)
              have hx2 := hbel.trans ((hx.trans (hb4.mono hx.size)).mono hbel.size)
              clear hb4
              go_wp2_with fail
              go_ret
              exact ⟨rfl, hx2⟩
        · have hk3 : ¬ (k : Int) < (ss.length : Int) := by omega
          obtain ⟨A, c, rfl⟩ := own_shape hown
          have HR : Hid (Strs6 wr (.slice A L.length c) L) := Lib.hid (RowIs.of_own hown)
          have hwW := hb1.trans (hwr.mono hb1.size)
          obtain ⟨wq, rfl⟩ : ∃ wq : World, wq = wr := ⟨_, rfl⟩
          clear hown hwr
          go_wp2_with fail
          go_loopw [6] (fun i wx => ∃ j : Nat, i = .int .i64 j ∧ j ≤ L.length ∧ Below wq.heap.size wq wx) (fun i _ => L.length - (intOf i).toNat)
          case atStart => exact ⟨0, rfl, by omega, Below.refl _ _⟩
          case round =>
            obtain ⟨wx, rfl⟩ : ∃ wx : World, wx = wr := ⟨_, rfl⟩
            obtain ⟨j, rfl, hj, hB⟩ := hrel
            by_cases hlt : j < L.length
            · obtain ⟨b, o, rfl, hbl, hcell⟩ := Strs6.at_ (HR.out.below hB) hlt
              obtain ⟨s, hs⟩ : ∃ s, s = L[j]'hlt := ⟨_, rfl⟩
              rw [← hs] at hcell
              have hsz : s.size ≤ 6000 := by rw [hs]; exact HL.out _ (List.getElem_mem _)
              have HK : Hid (∀ W', Below wx.heap.size wx W' → W'.cell? ⟨b, o + j, none⟩ = some (.string s)) := fun W' h => by rw [h.cell (p := ⟨b, o + j, none⟩) hbl]; exact hcell
              have j0 : (0 : Int) ≤ (j : Int) := by omega
              have j1 : (j : Int) < (L.length : Int) := by omega
              clear hs
              cases ho : okB s
              · by_cases h32 : s.size = 32
                · have TE := Lib.hid (taken_no ho).2
                  have HO := Lib.hid ho
                  have hq : ((s.size : Int) == 32) = true := by rw [h32]; rfl
                  have H32 := Lib.hid h32
                  clear h32 ho
                  go_wp2_with fail
                  refine (hex_yes s _ H32.out).mono ?_
                  rintro e w5 ⟨rfl, hb5⟩
                  have hc5 := HK.out _ hb5
                  clear hcell
                  go_wp2_with fail
                  refine (refHex_any s _ (by omega)).mono ?_
                  rintro e w6 ⟨rfl, hb6⟩
                  have hx6 := hb5.trans (hb6.mono hb5.size)
                  have hc6 := HK.out _ hx6
                  clear hc5 hb5 hb6
                  go_wp2_with fail
                  refine (take_any s _ (by omega)).mono ?_
                  rintro e w7 ⟨rfl, hb7⟩
                  rw [TE.out]
                  have hx7 := hx6.trans (hb7.mono hx6.size)
                  have hc7 := HK.out _ hx7
                  clear hx6 hb7 hc6
                  go_wp2_with fail
                  refine (refUnhex_any s _ (by omega)).mono ?_
                  rintro e w8 ⟨rfl, hb8⟩
                  rw [HO.out]
                  have hx8 := hB.trans ((hx7.trans (hb8.mono hx7.size)).mono hB.size)
                  clear hx7 hb8 hc7
                  generalize takenS s = TS
                  go_wp2_with (go_at_call 25; refine (num6_any _ _).mono ?_; rintro e w' ⟨rfl, rfl⟩)
                  go_roundw
                  case rel => exact ⟨j + 1, by go_num, by omega, hx8⟩
                  case measure => simp [intOf]; omega
                · have TE := Lib.hid (taken_no ho).2
                  have HO := Lib.hid ho
                  have hq : ((s.size : Int) == 32) = false := beq_eq_false_iff_ne.2 (by omega)
                  have H32 := Lib.hid h32
                  clear h32 ho
                  go_wp2_with fail
                  refine (hex_no s _ H32.out (by omega)).mono ?_
                  rintro e w6 ⟨rfl, rfl⟩
                  have hx6 := Below.refl wx.heap.size wx
                  go_wp2_with fail
                  refine (take_any s _ (by omega)).mono ?_
                  rintro e w7 ⟨rfl, hb7⟩
                  rw [TE.out]
                  have hx7 := hx6.trans (hb7.mono hx6.size)
                  have hc7 := HK.out _ hx7
                  clear hx6 hb7 hcell
                  go_wp2_with fail
                  refine (refUnhex_any s _ (by omega)).mono ?_
                  rintro e w8 ⟨rfl, hb8⟩
                  rw [HO.out]
                  have hx8 := hB.trans ((hx7.trans (hb8.mono hx7.size)).mono hB.size)
                  clear hx7 hb8 hc7
                  generalize takenS s = TS
                  go_wp2_with (go_at_call 25; refine (num6_any _ _).mono ?_; rintro e w' ⟨rfl, rfl⟩)
                  go_roundw
                  case rel => exact ⟨j + 1, by go_num, by omega, hx8⟩
                  case measure => simp [intOf]; omega
              · by_cases h32 : s.size = 32
                · have TE := Lib.hid (taken_yes ho).2
                  have HO := Lib.hid ho
                  have hq : ((s.size : Int) == 32) = true := by rw [h32]; rfl
                  have H32 := Lib.hid h32
                  clear h32 ho
                  go_wp2_with fail
                  refine (hex_yes s _ H32.out).mono ?_
                  rintro e w5 ⟨rfl, hb5⟩
                  have hc5 := HK.out _ hb5
                  clear hcell
                  go_wp2_with fail
                  refine (refHex_any s _ (by omega)).mono ?_
                  rintro e w6 ⟨rfl, hb6⟩
                  have hx6 := hb5.trans (hb6.mono hb5.size)
                  have hc6 := HK.out _ hx6
                  clear hc5 hb5 hb6
                  go_wp2_with fail
                  refine (take_any s _ (by omega)).mono ?_
                  rintro e w7 ⟨rfl, hb7⟩
                  rw [TE.out]
                  have hx7 := hx6.trans (hb7.mono hx6.size)
                  have hc7 := HK.out _ hx7
                  clear hx6 hb7 hc6
                  go_wp2_with fail
                  refine (refUnhex_any s _ (by omega)).mono ?_
                  rintro e w8 ⟨rfl, hb8⟩
                  rw [HO.out]
                  have hx8 := hB.trans ((hx7.trans (hb8.mono hx7.size)).mono hB.size)
                  clear hx7 hb8 hc7
                  generalize takenS s = TS
                  go_wp2_with (go_at_call 25; refine (num6_any _ _).mono ?_; rintro e w' ⟨rfl, rfl⟩)
                  go_roundw
                  case rel => exact ⟨j + 1, by go_num, by omega, hx8⟩
                  case measure => simp [intOf]; omega
                · have TE := Lib.hid (taken_yes ho).2
                  have HO := Lib.hid ho
                  have hq : ((s.size : Int) == 32) = false := beq_eq_false_iff_ne.2 (by omega)
                  have H32 := Lib.hid h32
                  clear h32 ho
                  go_wp2_with fail
                  refine (hex_no s _ H32.out (by omega)).mono ?_
                  rintro e w6 ⟨rfl, rfl⟩
                  have hx6 := Below.refl wx.heap.size wx
                  go_wp2_with fail
                  refine (take_any s _ (by omega)).mono ?_
                  rintro e w7 ⟨rfl, hb7⟩
                  rw [TE.out]
                  have hx7 := hx6.trans (hb7.mono hx6.size)
                  have hc7 := HK.out _ hx7
                  clear hx6 hb7 hcell
                  go_wp2_with fail
                  refine (refUnhex_any s _ (by omega)).mono ?_
                  rintro e w8 ⟨rfl, hb8⟩
                  rw [HO.out]
                  have hx8 := hB.trans ((hx7.trans (hb8.mono hx7.size)).mono hB.size)
                  clear hx7 hb8 hc7
                  generalize takenS s = TS
                  go_wp2_with (go_at_call 25; refine (num6_any _ _).mono ?_; rintro e w' ⟨rfl, rfl⟩)
                  go_roundw
                  case rel => exact ⟨j + 1, by go_num, by omega, hx8⟩
                  case measure => simp [intOf]; omega
            · go_wp2_with fail
              refine (wakes6_any _).mono ?_
              rintro e w4 ⟨rfl, hb4⟩
              have hx := hwW.trans (hB.mono hwW.size)
              have hx2 := hbel.trans ((hx.trans (hb4.mono hx.size)).mono hbel.size)
              clear hb4
              go_wp2_with fail
              go_ret
              exact ⟨rfl, hx2⟩
end Go.Proofs.Ytnpngkbcfkolnaa
