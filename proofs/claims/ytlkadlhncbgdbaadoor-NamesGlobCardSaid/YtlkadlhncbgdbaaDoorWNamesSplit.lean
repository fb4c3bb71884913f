/- NamesSplit: the law's walk. -/
import Derived.Test.YtlkadlhncbgdbaaDoorNamI
import Derived.Test.YtlkadlhncbgdbaaDoorAsk6
import Derived.Test.YtlkadlhncbgdbaaDoorWNamesBytes
namespace Go.Proofs.YtlkadlhncbgdbaaDoor
open Go.ChangeShapes Go.WideShapes Go.ChangeAt Go.RowKit Go.Joins
set_option linter.unusedVariables false
set_option linter.unusedSimpArgs false

theorem z47 : (⟨#[47]⟩ : ByteArray).size = 1 := rfl
theorem z58 : (⟨#[58]⟩ : ByteArray).size = 1 := rfl

set_option maxRecDepth 100000 in
set_option maxHeartbeats 8000000 in
theorem namesSplit_walk (w : World) (vS : Value) (ss : List ByteArray) (hS : TextsIn w vS ss) (hm : MaxW w) :
    Calls Tryd.prog 5 #[.agg #[vS]] w fun e w' => e = .returned (.bool true) ∧ Below w.heap.size w w' := by
  have hF := box1_facts w vS 24
  have HM : Hid (∀ w', Below w.heap.size w w' → MaxW w') := fun w' hb => hm.below hb
  have HT := Lib.hid (hS.below hF.1)
  obtain ⟨p, cap, rfl, h16, hs, hSl⟩ := hS
  have HSl := Lib.hid (hSl.below hF.1)
  have HBs := Lib.hid hs
  clear hSl hs hm
  go_enter Tryd.func5, Tryd.ntmps5
  go_wp2_with fail
  generalize w.alloc (Obj.cells #[Value.slice p ss.length cap] 24) = W at *
  obtain ⟨hbel, hc0, hsz⟩ := hF
  have HC0 := Lib.hid hc0
  have HSZ := Lib.hid hsz
  have HLE : w.heap.size ≤ W.heap.size := hbel.size
  have HBW : Hid (∀ w', Below W.heap.size W w' → Below w.heap.size w w') := fun w' h => hbel.trans (h.mono HLE)
  have HFI : Hid (∀ w', Below W.heap.size W w' → w'.cell? ⟨w.heap.size, 0, none⟩ = some (.slice p ss.length cap)) := fun w' h => below_celllt HC0.out (by have := HSZ.out; omega) h
  clear hc0 hsz hbel
  refine (heavy6_any _ ss _ HT.out).mono ?_
  rintro e w1 ⟨heavy, hheavy, rfl, hb1⟩
  cases heavy with
  | true =>
    clear hheavy
    go_wp2_with fail
    go_ret
    exact ⟨rfl, HBW.out _ hb1⟩
  | false =>
    have ht := hheavy rfl
    clear hheavy HT
    go_wp2_with fail
    go_loopw [3] (fun i wr => ∃ k : Nat, i = .int .i64 k ∧ k ≤ 10 ∧ Below W.heap.size W wr) (fun i _ => (10 - intOf i).toNat)
    case atStart => exact ⟨0, rfl, by omega, hb1⟩
    case round =>
      clear hb1
      obtain ⟨k, rfl, h1, hcum⟩ := hrel
      have hc0 := HFI.out _ hcum
      by_cases h4 : k < ss.length ∧ k < 10
      · obtain ⟨h3, h4⟩ := h4
        have hk4 : decide ((k : Int) < 10) = true := by simp; omega
        obtain ⟨b, off, s, rfl, hsz, HE, hcell⟩ := text_at (HSl.out.below hcum) HBs.out h3
        have hts : s.size ≤ 6000 := by have := total_get h3; rw [← HE.out] at this; omega
        have i0 : (0 : Int) ≤ (k : Int) := by omega
        have i1 : (k : Int) < (ss.length : Int) := by omega
        clear HE
        have HPL : Hid ((namePs s).length ≤ 41 ∧ (∀ p ∈ namePs s, p.size ≤ 40) ∧ headTo (namePs s) (namePs s).length = nameA s) := ⟨namePs_len s, namePs_size s, headTo_all s⟩
        obtain ⟨P, hP⟩ : ∃ P, namePs s = P := ⟨_, rfl⟩
        rw [hP] at HPL
        have hPl := HPL.out.1
        go_wp2_with (first
          | (go_at_call 14; refine (refName_any _ _ (by omega)).mono ?_; rintro e wa ⟨v1, rfl, hst1, hwa⟩; rw [hP] at hst1; obtain ⟨A1, c1, rfl⟩ := hst1.len))
        have hcumA := hcum.trans (hwa.mono hcum.size)
        have HST := Lib.hid hst1
        clear hst1 hwa hcum hc0 hcell
        go_loopw [8, 9] (fun h i wx => ∃ j : Nat, h = .string (headTo P j) ∧ i = .int .i64 j ∧ j ≤ P.length ∧ (headTo P j).size ≤ 100 * j ∧ Below wa.heap.size wa wx) (fun _ i _ => P.length - (intOf i).toNat)
        case atStart => exact ⟨0, rfl, rfl, by omega, by rw [headTo_zero]; decide, Below.refl _ _⟩
        case round =>
          obtain ⟨j, rfl, rfl, hj, hjs, hwx⟩ := hrel
          by_cases hlt : j < P.length
          · obtain ⟨bb, oo, cc, ee, q, hq, hqc⟩ := (HST.out.below hwx).at_ hlt
            cases ee
            have hqs := HPL.out.2.1 q (List.mem_of_getElem? hq)
            have j0 : (0 : Int) ≤ (j : Int) := by omega
            have j1 : (j : Int) < (P.length : Int) := by omega
            have s1 : (headTo P j ++ ⟨#[47]⟩).size ≤ 100 * j + 1 := by rw [app_size, z47]; omega
            have s2 : (headTo P j ++ ⟨#[47]⟩ ++ q).size ≤ 100 * j + 41 := by rw [app_size]; omega
            have s3 : (headTo P j ++ q).size ≤ 100 * j + 41 := by rw [app_size]; omega
            by_cases hj0 : j = 0
            · have hn : headTo P (j + 1) = headTo P j ++ q := by subst hj0; exact headTo_one hq
              have hj1 : ¬ 0 < j := by omega
              have HN := Lib.hid hn
              have HNS : Hid ((headTo P (j + 1)).size ≤ 100 * (j + 1)) := by rw [Hid, hn]; omega
              clear hn hq hj0
              go_wp2_with fail
              go_roundw
              case rel => exact ⟨j + 1, by rw [HN.out], by go_num, by omega, HNS.out, hwx⟩
              case measure => simp [intOf]; omega
            · have hn := headTo_next (by omega) hq
              have hd0 : decide (0 < (j : Int)) = true := by simp; omega
              have HN := Lib.hid hn
              have HNS : Hid ((headTo P (j + 1)).size ≤ 100 * (j + 1)) := by rw [Hid, hn]; omega
              clear hn hq
              go_wp2_with fail
              go_roundw
              case rel => exact ⟨j + 1, by rw [HN.out], by go_num, by omega, HNS.out, hwx⟩
              case measure => simp [intOf]; omega
          · have hje : j = P.length := by omega
            have hA : nameA s = headTo P j := by rw [hje]; exact HPL.out.2.2.symm
            have hAs := nameA_size s
            have hVs := nameV_size s
            have HFS : Hid (fullS s = if nameOk s.data.toList then (if (wholeS s).size ≤ 40 then wholeS s else ⟨#[]⟩) else ⟨#[]⟩) := rfl
            have HFE : Hid (fullE s = if nameOk s.data.toList then (if (wholeS s).size ≤ 40 then 0 else 2) else 7) := rfl
            have HWS : Hid (wholeS s = nameA s ++ ⟨#[58]⟩ ++ nameV s) := rfl
            have HE : Hid (nameE s = if nameOk s.data.toList then 0 else 7) := rfl
            have HAN : Hid (nameOk s.data.toList = false → nameA s = ⟨#[]⟩ ∧ nameV s = ⟨#[]⟩) := fun h => by simp [nameA, nameV, h]
            rw [hA] at hAs HWS HAN
            have hcW := hcumA.trans (hwx.mono hcumA.size)
            have hcA := hwx
            clear hwx hcumA hjs HPL
            generalize headTo P j = T at *
            obtain ⟨V, hV⟩ : ∃ V, nameV s = V := ⟨_, rfl⟩
            rw [hV] at hVs HWS HAN
            rw [hV]
            cases rq : nameOk s.data.toList with
            | false =>
              have rA : nameA s = ⟨#[]⟩ := by rw [hA]; exact (HAN.out rq).1
              have rV : nameV s = ⟨#[]⟩ := by rw [hV]; exact (HAN.out rq).2
              have rE : nameE s = 7 := by rw [HE.out, rq]; rfl
              have rFE : fullE s = 7 := by rw [HFE.out, rq]; rfl
              have rF : fullS s = ⟨#[]⟩ := by rw [HFS.out, rq]; rfl
              clear hA hV
              go_wp2_with (first
                | (go_at_call 15; refine (nameSplit_any _ _ (by omega) (HM.out _ (HBW.out _ hcW))).mono ?_; rintro e wb ⟨rfl, hwb⟩; replace hcW := hcW.trans (hwb.mono hcW.size); replace hcA := hcA.trans (hwb.mono hcA.size); clear hwb; rw [rA, rV, rE])
                | (go_at_call 16; refine (parts_any _ _ (by omega) (HM.out _ (HBW.out _ hcW))).mono ?_; rintro e wc ⟨v2, rfl, hst2, hsp2, hwc⟩; have hBle := hcW.size; replace hcW := hcW.trans (hwc.mono hcW.size); replace hcA := hcA.trans (hwc.mono hcA.size); clear hwc; rw [hP] at hst2; obtain ⟨A2, c2, rfl⟩ := hst2.len; have HX : Hid (∀ w', Below wc.heap.size wc w' → StrsIn w' (.slice A2 P.length c2) P ∧ Spoils _ w' (.slice A2 P.length c2)) := (fun w' h => ⟨hst2.below h, hsp2.below h⟩); clear hst2 hsp2; have hcC := Below.refl wc.heap.size wc; rw [rE])
                | (go_at_call 10; refine (full_any _ _ (by omega) (HM.out _ (HBW.out _ hcW))).mono ?_; rintro e wd ⟨rfl, hwd⟩; replace hcW := hcW.trans (hwd.mono hcW.size); replace hcA := hcA.trans (hwd.mono hcA.size); replace hcC := hcC.trans (hwd.mono hcC.size); clear hwd; rw [rF, rFE])
                | (go_at_call 17; refine (check_any _ _ (by omega) (HM.out _ (HBW.out _ hcW))).mono ?_; rintro e we ⟨rfl, hwe⟩; replace hcW := hcW.trans (hwe.mono hcW.size); replace hcA := hcA.trans (hwe.mono hcA.size); replace hcC := hcC.trans (hwe.mono hcC.size); clear hwe; rw [rE])
                | (go_at_call 11; refine (num_any _ _ (by omega) (by omega)).mono ?_; rintro e wn ⟨rfl, rfl⟩)
                | (go_at_call 18; refine (eqStrs_yes _ _ P _ (HX.out _ hcC).1 (HST.out.below hcA) (by omega)).mono ?_; rintro e wf ⟨rfl, hwf⟩; replace hcW := hcW.trans (hwf.mono hcW.size); replace hcA := hcA.trans (hwf.mono hcA.size); replace hcC := hcC.trans (hwf.mono hcC.size); clear hwf)
                | (go_at_call 19; refine (strings_any _ _ _ (HX.out _ hcC).2 (by intro A n c e; cases e; omega)).mono ?_; rintro e wg ⟨rfl, hwg⟩; replace hcW := hcW.trans (hwg.mono hBle); clear hwg))
              go_roundw
              case rel => exact ⟨k + 1, by go_num, by omega, hcW⟩
              case measure => simp [intOf]; omega
            | true =>
              have rA := hA
              have rV := hV
              have rE : nameE s = 0 := by rw [HE.out, rq]; rfl
              have hsz : (wholeS s).size = T.size + 1 + V.size := by rw [HWS.out, app_size, app_size, z58]
              have s1 : (T ++ ⟨#[58]⟩).size ≤ 41 := by rw [app_size, z58]; omega
              have s2 : (T ++ ⟨#[58]⟩ ++ V).size ≤ 81 := by rw [app_size, app_size, z58]; omega
              by_cases hl : T.size + 1 + V.size ≤ 40
              · have hd : decide ((T.size : Int) + 1 + (V.size : Int) ≤ 40) = true := by simp; omega
                have rFE : fullE s = 0 := by rw [HFE.out, rq, if_pos rfl, if_pos (by omega)]
                have rF : fullS s = T ++ ⟨#[58]⟩ ++ V := by rw [HFS.out, rq, if_pos rfl, if_pos (by omega), HWS.out]
                clear hA hV hsz
                go_wp2_with (first
                  | (go_at_call 15; refine (nameSplit_any _ _ (by omega) (HM.out _ (HBW.out _ hcW))).mono ?_; rintro e wb ⟨rfl, hwb⟩; replace hcW := hcW.trans (hwb.mono hcW.size); replace hcA := hcA.trans (hwb.mono hcA.size); clear hwb; rw [rA, rV, rE])
                  | (go_at_call 16; refine (parts_any _ _ (by omega) (HM.out _ (HBW.out _ hcW))).mono ?_; rintro e wc ⟨v2, rfl, hst2, hsp2, hwc⟩; have hBle := hcW.size; replace hcW := hcW.trans (hwc.mono hcW.size); replace hcA := hcA.trans (hwc.mono hcA.size); clear hwc; rw [hP] at hst2; obtain ⟨A2, c2, rfl⟩ := hst2.len; have HX : Hid (∀ w', Below wc.heap.size wc w' → StrsIn w' (.slice A2 P.length c2) P ∧ Spoils _ w' (.slice A2 P.length c2)) := (fun w' h => ⟨hst2.below h, hsp2.below h⟩); clear hst2 hsp2; have hcC := Below.refl wc.heap.size wc; rw [rE])
                  | (go_at_call 10; refine (full_any _ _ (by omega) (HM.out _ (HBW.out _ hcW))).mono ?_; rintro e wd ⟨rfl, hwd⟩; replace hcW := hcW.trans (hwd.mono hcW.size); replace hcA := hcA.trans (hwd.mono hcA.size); replace hcC := hcC.trans (hwd.mono hcC.size); clear hwd; rw [rF, rFE])
                  | (go_at_call 17; refine (check_any _ _ (by omega) (HM.out _ (HBW.out _ hcW))).mono ?_; rintro e we ⟨rfl, hwe⟩; replace hcW := hcW.trans (hwe.mono hcW.size); replace hcA := hcA.trans (hwe.mono hcA.size); replace hcC := hcC.trans (hwe.mono hcC.size); clear hwe; rw [rE])
                  | (go_at_call 11; refine (num_any _ _ (by omega) (by omega)).mono ?_; rintro e wn ⟨rfl, rfl⟩)
                  | (go_at_call 18; refine (eqStrs_yes _ _ P _ (HX.out _ hcC).1 (HST.out.below hcA) (by omega)).mono ?_; rintro e wf ⟨rfl, hwf⟩; replace hcW := hcW.trans (hwf.mono hcW.size); replace hcA := hcA.trans (hwf.mono hcA.size); replace hcC := hcC.trans (hwf.mono hcC.size); clear hwf)
                  | (go_at_call 19; refine (strings_any _ _ _ (HX.out _ hcC).2 (by intro A n c e; cases e; omega)).mono ?_; rintro e wg ⟨rfl, hwg⟩; replace hcW := hcW.trans (hwg.mono hBle); clear hwg))
                go_roundw
                case rel => exact ⟨k + 1, by go_num, by omega, hcW⟩
                case measure => simp [intOf]; omega
              · have hd : decide ((T.size : Int) + 1 + (V.size : Int) ≤ 40) = false := by simp; omega
                have rFE : fullE s = 2 := by rw [HFE.out, rq, if_pos rfl, if_neg (by omega)]
                have rF : fullS s = ⟨#[]⟩ := by rw [HFS.out, rq, if_pos rfl, if_neg (by omega)]
                clear hA hV hsz
                go_wp2_with (first
                  | (go_at_call 15; refine (nameSplit_any _ _ (by omega) (HM.out _ (HBW.out _ hcW))).mono ?_; rintro e wb ⟨rfl, hwb⟩; replace hcW := hcW.trans (hwb.mono hcW.size); replace hcA := hcA.trans (hwb.mono hcA.size); clear hwb; rw [rA, rV, rE])
                  | (go_at_call 16; refine (parts_any _ _ (by omega) (HM.out _ (HBW.out _ hcW))).mono ?_; rintro e wc ⟨v2, rfl, hst2, hsp2, hwc⟩; have hBle := hcW.size; replace hcW := hcW.trans (hwc.mono hcW.size); replace hcA := hcA.trans (hwc.mono hcA.size); clear hwc; rw [hP] at hst2; obtain ⟨A2, c2, rfl⟩ := hst2.len; have HX : Hid (∀ w', Below wc.heap.size wc w' → StrsIn w' (.slice A2 P.length c2) P ∧ Spoils _ w' (.slice A2 P.length c2)) := (fun w' h => ⟨hst2.below h, hsp2.below h⟩); clear hst2 hsp2; have hcC := Below.refl wc.heap.size wc; rw [rE])
                  | (go_at_call 10; refine (full_any _ _ (by omega) (HM.out _ (HBW.out _ hcW))).mono ?_; rintro e wd ⟨rfl, hwd⟩; replace hcW := hcW.trans (hwd.mono hcW.size); replace hcA := hcA.trans (hwd.mono hcA.size); replace hcC := hcC.trans (hwd.mono hcC.size); clear hwd; rw [rF, rFE])
                  | (go_at_call 17; refine (check_any _ _ (by omega) (HM.out _ (HBW.out _ hcW))).mono ?_; rintro e we ⟨rfl, hwe⟩; replace hcW := hcW.trans (hwe.mono hcW.size); replace hcA := hcA.trans (hwe.mono hcA.size); replace hcC := hcC.trans (hwe.mono hcC.size); clear hwe; rw [rE])
                  | (go_at_call 11; refine (num_any _ _ (by omega) (by omega)).mono ?_; rintro e wn ⟨rfl, rfl⟩)
                  | (go_at_call 18; refine (eqStrs_yes _ _ P _ (HX.out _ hcC).1 (HST.out.below hcA) (by omega)).mono ?_; rintro e wf ⟨rfl, hwf⟩; replace hcW := hcW.trans (hwf.mono hcW.size); replace hcA := hcA.trans (hwf.mono hcA.size); replace hcC := hcC.trans (hwf.mono hcC.size); clear hwf)
                  | (go_at_call 19; refine (strings_any _ _ _ (HX.out _ hcC).2 (by intro A n c e; cases e; omega)).mono ?_; rintro e wg ⟨rfl, hwg⟩; replace hcW := hcW.trans (hwg.mono hBle); clear hwg))
                go_roundw
                case rel => exact ⟨k + 1, by go_num, by omega, hcW⟩
                case measure => simp [intOf]; omega
      · have hdd : (decide ((k : Int) < (ss.length : Int)) && decide ((k : Int) < 10)) = false := by simp; omega
        have hmx := HM.out _ (HBW.out _ hcum)
        by_cases h3 : k < ss.length
        all_goals
          go_wp2_with (go_at_call 9; refine (wakes_any _ (HM.out _ (HBW.out _ hcum))).mono ?_; rintro e wz ⟨rfl, hwz⟩; replace hcum := hcum.trans (hwz.mono hcum.size); clear hwz)
          go_ret
          exact ⟨by first | rfl | simp, HBW.out _ hcum⟩
end Go.Proofs.YtlkadlhncbgdbaaDoor
