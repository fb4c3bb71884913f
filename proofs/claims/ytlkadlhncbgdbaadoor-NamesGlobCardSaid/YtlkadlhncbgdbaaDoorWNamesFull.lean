/- NamesFull: the law's walk. -/
import Derived.Test.YtlkadlhncbgdbaaDoorNamT
import Derived.Test.YtlkadlhncbgdbaaDoorWNamesSplit
namespace Go.Proofs.YtlkadlhncbgdbaaDoor
open Go.ChangeShapes Go.WideShapes Go.ChangeAt Go.RowKit Go.Joins
set_option linter.unusedVariables false
set_option linter.unusedSimpArgs false

theorem upTo_app {a b : List UInt8} (h : ∀ c ∈ a, c ≠ 58) : upTo 58 (a ++ 58 :: b) = a.length := by
  refine lead_eq (by simp) (fun i hi => ?_) (fun c hc => ?_)
  · refine ⟨a[i], by rw [List.getElem?_append_left hi]; exact List.getElem?_eq_getElem hi, ?_⟩
    simpa using h _ (List.getElem_mem hi)
  · rw [List.getElem?_append_right (Nat.le_refl _), Nat.sub_self] at hc
    simp at hc
    subst hc; rfl
theorem headL_no (l : List UInt8) : ∀ c ∈ headL l, c ≠ 58 := by
  intro c hc
  unfold headL at hc
  obtain ⟨i, hi, rfl⟩ := List.getElem_of_mem hc
  rw [List.length_take] at hi
  obtain ⟨c, h1, h2⟩ := lead_at (· != 58) l i (by unfold upTo at hi; omega)
  rw [List.getElem_take]
  rw [List.getElem?_eq_getElem (by omega)] at h1
  rw [Option.some.inj h1]
  simpa using h2
theorem bytes_app (a b : ByteArray) : (a ++ b).data.toList = a.data.toList ++ b.data.toList := by simp [ByteArray.data_append]
/-- The whole of a name's whole is it. -/
theorem full_again {x : ByteArray} (h : fullE x = 0) : nameOk (fullS x).data.toList = true ∧ wholeS (fullS x) = fullS x ∧ (fullS x).size ≤ 40 := by
  have hok : nameOk x.data.toList = true ∧ (wholeS x).size ≤ 40 := by
    unfold fullE at h
    split at h
    · rename_i h1
      split at h
      · exact ⟨h1, by assumption⟩
      · exact absurd h (by decide)
    · exact absurd h (by decide)
  obtain ⟨h1, h2⟩ := hok
  have hs : fullS x = wholeS x := by unfold fullS; rw [if_pos h1, if_pos h2]
  rw [hs]
  have hl : (wholeS x).data.toList = headL x.data.toList ++ 58 :: verOf x.data.toList := by
    unfold wholeS nameA nameV
    rw [if_pos h1, if_pos h1, bytes_app, bytes_app, data_strL, data_strL]
    simp
  have hu : upTo 58 (wholeS x).data.toList = (headL x.data.toList).length := by rw [hl]; exact upTo_app (headL_no _)
  have hh : headL (wholeS x).data.toList = headL x.data.toList := by
    unfold headL
    rw [hu, hl]
    exact List.take_left
  have hv : verOf (wholeS x).data.toList = verOf x.data.toList := by
    conv => lhs; unfold verOf
    rw [hu, if_pos (by rw [hl]; simp), hl, ← List.drop_drop, List.drop_left]
    rfl
  have hok2 : nameOk (wholeS x).data.toList = true := by
    unfold nameOk at h1 ⊢
    rw [Bool.and_eq_true] at h1
    rw [hh, hv, h1.2, decide_eq_true (by rw [str_len]; exact h2)]
    rfl
  refine ⟨hok2, ?_, h2⟩
  have ea : nameA (wholeS x) = nameA x := by unfold nameA; rw [if_pos hok2, if_pos h1, hh]
  have ev : nameV (wholeS x) = nameV x := by unfold nameV; rw [if_pos hok2, if_pos h1, hv]
  show nameA (wholeS x) ++ ⟨#[58]⟩ ++ nameV (wholeS x) = wholeS x
  rw [ea, ev]
  rfl

set_option maxRecDepth 100000 in
set_option maxHeartbeats 8000000 in
theorem namesFull_walk (w : World) (vS : Value) (ss : List ByteArray) (hS : TextsIn w vS ss) (hm : MaxW w) :
    Calls Tryd.prog 7 #[.agg #[vS]] w fun e w' => e = .returned (.bool true) ∧ Below w.heap.size w w' := by
  have hF := box1_facts w vS 24
  have HM : Hid (∀ w', Below w.heap.size w w' → MaxW w') := fun w' hb => hm.below hb
  have HT := Lib.hid (hS.below hF.1)
  obtain ⟨p, cap, rfl, h16, hs, hSl⟩ := hS
  have HSl := Lib.hid (hSl.below hF.1)
  have HBs := Lib.hid hs
  clear hSl hs hm
  go_enter Tryd.func7, Tryd.ntmps7
  go_wp2_with fail
  generalize w.alloc (Obj.cells #[Value.slice p ss.length cap] 24) = W at *
  obtain ⟨hbel, hc0, hsz⟩ := hF
  have HC0 := Lib.hid hc0
  have HSZ := Lib.hid hsz
  have HLE : w.heap.size ≤ W.heap.size := hbel.size
  have HBW : Hid (∀ w', Below W.heap.size W w' → Below w.heap.size w w') := fun w' h => hbel.trans (h.mono HLE)
  have HFI : Hid (∀ w', Below W.heap.size W w' → w'.cell? ⟨w.heap.size, 0, none⟩ = some (.slice p ss.length cap)) := fun w' h => below_celllt HC0.out (by have := HSZ.out; omega) h
  clear hc0 hsz hbel
  refine (heavy6_any _ ss _ HT.out).mono ?_
  rintro e w1 ⟨heavy, hheavy, rfl, hb1⟩
  cases heavy with
  | true =>
    clear hheavy
    go_wp2_with fail
    go_ret
    exact ⟨rfl, HBW.out _ hb1⟩
  | false =>
    have ht := hheavy rfl
    clear hheavy HT
    go_wp2_with fail
    go_loopw [3] (fun i wr => ∃ k : Nat, i = .int .i64 k ∧ k ≤ 10 ∧ Below W.heap.size W wr) (fun i _ => (10 - intOf i).toNat)
    case atStart => exact ⟨0, rfl, by omega, hb1⟩
    case round =>
      clear hb1
      obtain ⟨k, rfl, h1, hcW⟩ := hrel
      have hc0 := HFI.out _ hcW
      by_cases h4 : k < ss.length ∧ k < 10
      · obtain ⟨h3, h4⟩ := h4
        have hk4 : decide ((k : Int) < 10) = true := by simp; omega
        obtain ⟨b, off, x, rfl, hsz, HE, hcell⟩ := text_at (HSl.out.below hcW) HBs.out h3
        have hts : x.size ≤ 6000 := by have := total_get h3; rw [← HE.out] at this; omega
        have i0 : (0 : Int) ≤ (k : Int) := by omega
        have i1 : (k : Int) < (ss.length : Int) := by omega
        clear HE
        have hbd := fullE_bd x
        by_cases hz : fullE x = 0
        · obtain ⟨hok, hwh, hs40⟩ := full_again hz
          obtain ⟨s, hs⟩ : ∃ s, fullS x = s := ⟨_, rfl⟩
          rw [hs] at hok hwh hs40
          have rF : fullS s = s := by unfold fullS; rw [if_pos hok, hwh, if_pos hs40]
          have rFE : fullE s = 0 := by unfold fullE; rw [if_pos hok, hwh, if_pos hs40]
          have rE : nameE s = 0 := by unfold nameE; rw [if_pos hok]
          have g1 : globE s s = 0 ∧ globV s s = true := by
            unfold globE globV
            rw [if_pos ⟨hs40, hs40⟩, if_pos ⟨hs40, hs40⟩]
            exact ⟨rfl, match_self _ _ (Nat.le_refl _)⟩
          have g2 : globE ⟨#[42, 42]⟩ s = 0 ∧ globV ⟨#[42, 42]⟩ s = true := by
            unfold globE globV
            rw [if_pos ⟨by decide, hs40⟩, if_pos ⟨by decide, hs40⟩]
            exact ⟨rfl, match_all _⟩
          obtain ⟨gE, gV⟩ := g1
          obtain ⟨gE2, gV2⟩ := g2
          have hAs := nameA_size s
          have hVs := nameV_size s
          have HPL : Hid ((∀ p ∈ namePs s, p.size ≤ 40) ∧ headTo (namePs s) (namePs s).length = nameA s) := ⟨namePs_size s, headTo_all s⟩
          have hP1 : 0 < (namePs s).length := by
            unfold namePs
            rw [if_pos hok, List.length_map]
            exact List.length_pos_iff.2 (segs_ne _)
          have hPl := namePs_len s
          obtain ⟨P, hP⟩ : ∃ P, namePs s = P := ⟨_, rfl⟩
          rw [hP] at HPL hPl hP1
          have hcat : nameA s ++ ⟨#[58]⟩ ++ nameV s = s := hwh
          have HA := HPL.out.2
          obtain ⟨A, rA⟩ : ∃ A, nameA s = A := ⟨_, rfl⟩
          obtain ⟨V, rV⟩ : ∃ V, nameV s = V := ⟨_, rfl⟩
          rw [rA, rV] at hcat
          rw [rA] at hAs HA
          rw [rV] at hVs
          have HHA := Lib.hid HA
          have s1 : (A ++ ⟨#[58]⟩).size ≤ 41 := by rw [app_size, z58]; omega
          have hPn : ((P.length : Int) == 0) = false := beq_eq_false_iff_ne.2 (by omega)
          clear hwh hok HA hbd
          go_upto_region 15 with (first
            | (go_at_call 10; refine (full_any _ _ (by omega) (HM.out _ (HBW.out _ hcW))).mono ?_; rintro e wd ⟨rfl, hwd⟩; replace hcW := hcW.trans (hwd.mono hcW.size); clear hwd; first | rw [hs, hz] | rw [rF, rFE])
            | (go_at_call 15; refine (nameSplit_any _ _ (by omega) (HM.out _ (HBW.out _ hcW))).mono ?_; rintro e wb ⟨rfl, hwb⟩; replace hcW := hcW.trans (hwb.mono hcW.size); clear hwb; rw [rA, rV, rE])
            | (go_at_call 16; refine (parts_any _ _ (by omega) (HM.out _ (HBW.out _ hcW))).mono ?_; rintro e wc ⟨v2, rfl, hst2, hsp2, hwc⟩; replace hcW := hcW.trans (hwc.mono hcW.size); clear hwc hsp2; rw [hP] at hst2; obtain ⟨A2, c2, rfl⟩ := hst2.len; have HX : Hid (∀ w', Below wc.heap.size wc w' → StrsIn w' (.slice A2 P.length c2) P) := (fun w' h => hst2.below h); clear hst2; have hcC := Below.refl wc.heap.size wc; rw [rE])
            | (go_at_call 20; refine (glob_any _ _ _ (by first | decide | omega) (by omega)).mono ?_; rintro e wf ⟨rfl, hwf⟩; replace hcW := hcW.trans (hwf.mono hcW.size); replace hcC := hcC.trans (hwf.mono hcC.size); clear hwf; first | rw [gV, gE] | rw [gV2, gE2])
            | (go_at_call 11; refine (num_any _ _ (by omega) (by omega)).mono ?_; rintro e wn ⟨rfl, rfl⟩))
          obtain ⟨bb, oo, cc, ee, q0, hq0, hqc⟩ := (HX.out _ hcC).at_ hP1
          cases ee
          have h1q : headTo P 1 = q0 := by
            rw [headTo_one hq0, headTo_zero]
            apply ByteArray.ext
            simp [ByteArray.data_append]
          have H1Q := Lib.hid h1q
          have hq40 := HPL.out.1 q0 (List.mem_of_getElem? hq0)
          have n0 : (0 : Int) < (P.length : Int) := by omega
          rw [Nat.add_zero] at hqc
          clear h1q hq0 rF rFE rE gE gV gE2 gV2 hcat rA rV hc0 hcell hz hs
          go_wp2_with fail
          generalize hwn : wc.heap.size = NC at *
          go_loopw [17, 18] (fun h i wx => ∃ j : Nat, h = .string (headTo P j) ∧ i = .int .i64 j ∧ 1 ≤ j ∧ j ≤ P.length ∧ (headTo P j).size ≤ 100 * j ∧ Below NC wc wx ∧ Below W.heap.size W wx) (fun _ i _ => P.length - (intOf i).toNat)
          case atStart => exact ⟨1, by rw [H1Q.out], rfl, Nat.le_refl _, by omega, by rw [H1Q.out]; omega, hcC, hcW⟩
          case round =>
            clear hcW hcC hqc
            obtain ⟨j, rfl, rfl, hj1, hj, hjs, hcC, hcW⟩ := hrel
            by_cases hlt : j < P.length
            · obtain ⟨bb, oo, cc, ee, q, hq, hqc⟩ := (HX.out _ hcC).at_ hlt
              cases ee
              have hqs := HPL.out.1 q (List.mem_of_getElem? hq)
              have j0 : (0 : Int) ≤ (j : Int) := by omega
              have j1 : (j : Int) < (P.length : Int) := by omega
              have s1 : (headTo P j ++ ⟨#[47]⟩).size ≤ 100 * j + 1 := by rw [app_size, z47]; omega
              have s2 : (headTo P j ++ ⟨#[47]⟩ ++ q).size ≤ 100 * j + 41 := by rw [app_size]; omega
              have hn := headTo_next (by omega) hq
              have HN := Lib.hid hn
              have HNS : Hid ((headTo P (j + 1)).size ≤ 100 * (j + 1)) := by rw [Hid, hn]; omega
              clear hn hq
              go_wp2_with fail
              go_roundw
              case rel => exact ⟨j + 1, by rw [HN.out], by go_num, by omega, by omega, HNS.out, hcC, hcW⟩
              case measure => simp [intOf]; omega
            · have hje : j = P.length := by omega
              have hA : headTo P j = A := by rw [hje]; exact HHA.out
              clear hjs HHA
              rw [hA]
              go_wp2_with fail
              go_roundw
              case rel => exact ⟨k + 1, by go_num, by omega, hcW⟩
              case measure => simp [intOf]; omega
        · rcases hbd with h0 | hz | hz
          · exact absurd h0 hz
          all_goals
            go_wp2_with (first
              | (go_at_call 10; refine (full_any _ _ (by omega) (HM.out _ (HBW.out _ hcW))).mono ?_; rintro e wd ⟨rfl, hwd⟩; replace hcW := hcW.trans (hwd.mono hcW.size); clear hwd; rw [hz])
              | (go_at_call 11; refine (num_any _ _ (by omega) (by omega)).mono ?_; rintro e wn ⟨rfl, rfl⟩))
            go_roundw
            case rel => exact ⟨k + 1, by go_num, by omega, hcW⟩
            case measure => simp [intOf]; omega
      · have hdd : (decide ((k : Int) < (ss.length : Int)) && decide ((k : Int) < 10)) = false := by simp; omega
        by_cases h3 : k < ss.length
        all_goals
          go_wp2_with (go_at_call 9; refine (wakes_any _ (HM.out _ (HBW.out _ hcW))).mono ?_; rintro e wz ⟨rfl, hwz⟩; replace hcW := hcW.trans (hwz.mono hcW.size); clear hwz)
          go_ret
          exact ⟨by first | rfl | simp, HBW.out _ hcW⟩
end Go.Proofs.YtlkadlhncbgdbaaDoor
