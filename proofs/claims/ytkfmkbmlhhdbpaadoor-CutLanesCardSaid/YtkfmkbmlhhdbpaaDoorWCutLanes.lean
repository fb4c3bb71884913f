/- CutLanes: the law's walk. -/
import Derived.Test.YtkfmkbmlhhdbpaaDoorLanG
namespace Go.Proofs.YtkfmkbmlhhdbpaaDoor
open Go.ChangeShapes Go.WideShapes Go.ChangeAt Go.RowKit Go.Joins
set_option linter.unusedVariables false
set_option linter.unusedSimpArgs false

theorem infoStrs : (Tryd.prog.info? 23).map (fun i => (i.zero, i.size, i.bytes)) = some (some (.slice none 0 0), 1, 24) := by kernel_rfl

set_option maxRecDepth 100000 in
set_option maxHeartbeats 40000000 in
theorem cutLanes_walk {c0 c1 c2 : Value} {N : Int} {S : List T3} {L : List ByteArray} {Bs : List Bool} (w : World) (q : Ask7 w c0 c1 c2 N S L Bs) (hcap : CapOk c1) :
    Calls Tryd.prog 3 #[.agg #[c0, c1, c2, .int .i64 N]] w fun e w' => e = .returned (.bool true) ∧ Below w.heap.size w w' := by
  obtain ⟨i0, hi, hz0, hz1, hz2⟩ := info_parts infoStrs
  obtain ⟨hbel, hc0, hc1, hc2, hc3, hsz⟩ := box4_facts w c0 c1 c2 (.int .i64 N) 28
  have q2 := q.below hbel
  have HCAP := Lib.hid hcap
  go_enter Tryd.func3, Tryd.ntmps3
  go_wp2_with fail
  refine (heavy4_any c0 c1 c2 S L Bs _ q2.hS q2.hL q2.hB q2.hS2).mono ?_
  rintro e w1 ⟨bo, hbo, rfl, hb1⟩
  have HS := Lib.hid (q2.hS.below hb1)
  have HST : Hid (∀ W', Below w1.heap.size w1 W' → StrsIn W' c1 L) := fun W' h => (strs_of_texts (q2.hL.below hb1)).below h
  have g0 := below_cellj hc0 hsz hb1
  have g1 := below_cellj hc1 hsz hb1
  have g3 := below_cellj hc3 hsz hb1
  have hb2 := hbel.trans (hb1.mono hbel.size)
  have hlt0 : w.heap.size < w1.heap.size := by have := hb1.size; rw [hsz] at this; omega
  obtain ⟨pS, kS, rfl⟩ := q2.hS.len
  obtain ⟨pL, kL, rfl, hL16, hLs, hLc⟩ := q2.hL
  have hSl := q2.hS2
  have HLC := Lib.hid (hLc.below hb1)
  have HLS := Lib.hid hLs
  have HTOT := Lib.hid hbo
  clear hb1 hbo hc0 hc1 hc2 hc3 q2 q hsz hbel hLs hLc hcap
  generalize hB0 : w.heap.size = B0 at g0 g1 g3 hlt0
  cases bo
  · have HSM : Hid (∀ x ∈ L, x.size ≤ 100000) := by
      intro x hx
      obtain ⟨j, hj, rfl⟩ := List.getElem_of_mem hx
      have h1 := total_get hj
      rw [← List.getElem_eq_getD (h := hj)] at h1
      have h2 := (HTOT.out rfl).1
      omega
    clear HTOT
    go_wp2_with fail
    go_loopw [3] (fun f wr => ∃ k : Nat, f = .int .i64 k ∧ k ≤ 4 ∧ Below w1.heap.size w1 wr) (fun f _ => 4 - (intOf f).toNat)
    case atStart => exact ⟨0, rfl, by omega, Below.refl _ _⟩
    case round =>
      obtain ⟨k, rfl, hk4, hwr⟩ := hrel
      have r0 := below_celllt g0 hlt0 hwr
      by_cases hlt : k < S.length ∧ k < 4
      · obtain ⟨hl1, hl2⟩ := hlt
        obtain ⟨bs, os, cs, es, s, hs, s0, s1, s2⟩ := (HS.out.below hwr).at_ hl1
        cases es
        obtain ⟨sk, sm, sz⟩ := s
        simp only at s0 s1 s2
        have hk4d : decide ((k : Int) < 4) = true := by simp; omega
        obtain ⟨wo, rfl⟩ : ∃ wo : World, wo = wr := ⟨_, rfl⟩
        go_upto_region 7 with fail
        obtain ⟨hbx, t0, t1, t2, ht3⟩ := box3_facts wo (.int .i64 sk) (.int .i64 sm) (.int .i64 sz) 31
        have hwV := hwr.trans (hbx.mono hwr.size)
        generalize hV : wo.alloc (.cells #[.int .i64 sk, .int .i64 sm, .int .i64 sz] 31) = V at *
        generalize hBo : wo.heap.size = Bo at *
        have hltV : Bo < V.heap.size := by omega
        have HSH : Hid (∀ W', Below V.heap.size V W' → (W'.cell? ⟨Bo, 0, none⟩ = some (.int .i64 sk) ∧ W'.cell? ⟨Bo, 1, none⟩ = some (.int .i64 sm) ∧ W'.cell? ⟨Bo, 2, none⟩ = some (.int .i64 sz))) := fun W' h => ⟨below_celllt t0 hltV h, below_celllt t1 hltV h, below_celllt t2 hltV h⟩
        have HLV : Hid (∀ W', Below V.heap.size V W' → W'.cell? ⟨B0, 1, none⟩ = some (.slice pL L.length kL) ∧ W'.cell? ⟨B0, 3, none⟩ = some (.int .i64 N)) := fun W' h => ⟨below_celllt g1 hlt0 (hwV.trans (h.mono hwV.size)), below_celllt g3 hlt0 (hwV.trans (h.mono hwV.size))⟩
        have HTV : Hid (∀ W', Below V.heap.size V W' → SliceIn W' pL L.length (fun i => .string (L.getD i ByteArray.empty))) := fun W' h => HLC.out.below (hwV.trans (h.mono hwV.size))
        have HTS : Hid (∀ W', Below V.heap.size V W' → StrsIn W' (.slice pL L.length kL) L) := fun W' h => HST.out _ (hwV.trans (h.mono hwV.size))
        clear hbx s0 s1 s2 r0 hwr hV ht3
        obtain ⟨mb, hmb⟩ : ∃ mb, mayB (sk, sm, sz) = mb := ⟨_, rfl⟩
        have HMB := Lib.hid hmb
        clear hmb
        go_wp2_with (first
          | (go_at_call 7; refine (refShape_any _ _ _ _).mono ?_; rintro e wsh ⟨rfl, hsh⟩; rw [HMB.out]))
        clear t0 t1 t2
        go_loopw [6] (fun f wr => ∃ j : Nat, f = .int .i64 j ∧ j ≤ L.length ∧ Below V.heap.size V wr) (fun f _ => L.length - (intOf f).toNat)
        case atStart => exact ⟨0, rfl, by omega, hsh⟩
        case round =>
          clear hsh
          obtain ⟨j, rfl, hj, hcV⟩ := hrel
          obtain ⟨y3, y4⟩ := HLV.out _ hcV
          obtain ⟨y0, y1, y2⟩ := HSH.out _ hcV
          by_cases hjl : j < L.length
          · obtain ⟨bt, ot, t, rfl, htz, _, htc⟩ := text_at (HTV.out _ hcV) HLS.out hjl
            have j0 : (0 : Int) ≤ (j : Int) := by omega
            have j1 : (j : Int) < (L.length : Int) := by omega
            go_upto_region 15 with (first
              | (go_at_call 8; refine (cutLanes_any _ _ _ _ _).mono ?_; rintro e w2 ⟨v2, rfl, hst2, hcp2, hwz⟩; obtain ⟨A2, c2, rfl⟩ := hst2.len; replace hcV := hcV.trans (hwz.mono hcV.size); clear hwz y0 y1 y2 y3 y4 htc; have HX : Hid (∀ w', Below w2.heap.size w2 w' → StrsIn w' (.slice A2 (lanesW sk sm sz t).length c2) (lanesW sk sm sz t)) := (fun w' h => hst2.below h); have HCP2 := Lib.hid hcp2; clear hst2 hcp2))
            have HL8 := Lib.hid (lanesW_le sk sm sz t)
            have HLE : Hid (lanesE sk sm sz t = if lanesOk sk sm sz t then 0 else 1) := rfl
            have HLW : Hid (lanesW sk sm sz t = if lanesOk sk sm sz t then lanesB sk.toNat sz.toNat t else []) := rfl
            obtain ⟨LW, hLW⟩ : ∃ LW, lanesW sk sm sz t = LW := ⟨_, rfl⟩
            obtain ⟨LE, hLE⟩ : ∃ LE, lanesE sk sm sz t = LE := ⟨_, rfl⟩
            rw [hLW] at HX HL8 HLW
            rw [hLE] at HLE
            rw [hLW] at HCP2
            rw [hLW, hLE]
            clear hLW hLE
            go_cut [75] from 65 to 75 (fun c wx => c = .bool (lanesOk sk sm sz t) ∧ w2 = wx)
            case first =>
              obtain ⟨y0, y1, y2⟩ := HSH.out _ hcV
              cases mb
              · have hmb := HMB.out
                have ho : lanesOk sk sm sz t = false := by unfold lanesOk; rw [hmb]; rfl
                have HO := Lib.hid ho
                clear hmb ho
                go_wp2_with fail
                go_meet
                exact ⟨by rw [HO.out], rfl⟩
              · have hmb := HMB.out
                obtain ⟨lg, hlg, hlg1, hlg2, k1, k8, m0, m6, z1, z120⟩ := lg_facts hmb
                have ho : lanesOk sk sm sz t = decide (1 ≤ (t.size : Int) ∧ (t.size : Int) ≤ (lg : Int)) := by
                  unfold lanesOk
                  rw [hmb, Bool.true_and, hlg, Int.toNat_natCast]
                  exact decide_eq_decide.2 (by omega)
                have HO := Lib.hid ho
                clear hmb ho
                go_wp2_with (first | (go_at_call 9; refine (refBetween_any _ _ _ _).mono ?_; rintro e w' ⟨rfl, rfl⟩))
                go_meet
                exact ⟨by rw [HO.out]; simp, rfl⟩
            case rest =>
              obtain ⟨hc75, hwc⟩ := hcut
              subst hc75
              subst hwc
              obtain ⟨ok, hok⟩ : ∃ ok, lanesOk sk sm sz t = ok := ⟨_, rfl⟩
              rw [hok] at HLE HLW
              rw [hok]
              have HOK := Lib.hid hok
              clear hok
              go_upto_if 75 with (fail)
              go_cut [10, 11] from 75 to 78 (fun bd wt wx => bd = .int .i64 LE ∧ (∃ A c, wt = .slice A LW.length c ∧ StrsIn wx (.slice A LW.length c) LW) ∧ Below w2.heap.size w2 wx)
              case first =>
                cases ok
                · have x1 := HLE.out
                  have x2 := HLW.out
                  clear HLE HLW HOK
                  subst x1
                  subst x2
                  go_wp2_with fail
                  go_meet
                  exact ⟨rfl, ⟨none, 0, rfl, StrsIn.nil _ _ _⟩, Below.refl _ _⟩
                · have hm : mayB (sk, sm, sz) = true ∧ t.size ≤ (sk * sz).toNat := by
                    have h := HOK.out
                    unfold lanesOk at h
                    rw [Bool.and_eq_true] at h
                    exact ⟨h.1, (of_decide_eq_true h.2).2⟩
                  obtain ⟨hm1, hm2⟩ := hm
                  have HM := Lib.hid hm1
                  have x1 := HLE.out
                  have x2 := HLW.out
                  rw [if_pos rfl] at x1 x2
                  obtain ⟨y0, y1, y2⟩ := HSH.out _ hcV
                  have HX2 := Lib.hid x2
                  clear HLE HLW HOK hm1 x2
                  subst x1
                  go_wp2_with (first | (go_at_call 10; refine (refLanes_yes _ _ _ _ _ HM.out hm2).mono ?_; rintro e w3 ⟨v3, rfl, hst3, hw3⟩; rw [← HX2.out] at hst3; obtain ⟨A3, c3, rfl⟩ := hst3.len))
                  go_meet
                  exact ⟨rfl, ⟨A3, c3, rfl, hst3⟩, hw3⟩
              case rest =>
                obtain ⟨rfl, ⟨A3, c3, rfl, hst3⟩, hcC⟩ := hcut
                have hne : (LE != LE) = false := by simp
                clear HLE HLW HOK
                replace hcV := hcV.trans (hcC.mono hcV.size)
                have hl8 : LW.length ≤ 9000000000000000000 := by have := HL8.out; omega
                go_upto_if 94 with (first
                  | (go_at_call 11; refine (num7_any _ _).mono ?_; rintro e wn ⟨rfl, rfl⟩)
                  | (go_at_call 12; refine (eqStrs_yes _ _ LW _ (HX.out _ hcC) hst3 hl8).mono ?_; rintro e w4 ⟨rfl, hw4⟩; replace hcC := hcC.trans (hw4.mono hcC.size); replace hcV := hcV.trans (hw4.mono hcV.size); clear hst3 hw4; obtain ⟨y3, y4⟩ := HLV.out _ hcV))
                have hown5 := litOwn w4 #[.slice A2 LW.length c2, .slice (some ⟨bt, ot, none⟩) L.length kL] 23 2 rfl (by omega)
                have hb5 : Below w4.heap.size w4 (w4.alloc (.cells #[.slice A2 LW.length c2, .slice (some ⟨bt, ot, none⟩) L.length kL] 23)) := (Below.refl _ _).alloc (Nat.le_refl _) _
                have hs5 : (w4.alloc (.cells #[.slice A2 LW.length c2, .slice (some ⟨bt, ot, none⟩) L.length kL] 23)).heap.size = w4.heap.size + 1 := by simp
                have HXL : Hid (∀ W', Below w4.heap.size w4 W' → ∀ u ∈ [Value.slice A2 LW.length c2, .slice (some ⟨bt, ot, none⟩) L.length kL], ∃ M, StrsIn W' u M ∧ CapOk u ∧ M.length ≤ 9000000000000000000) := by
                  intro W' h u hu
                  rcases List.mem_cons.1 hu with rfl | hu
                  · exact ⟨LW, HX.out _ (hcC.trans (h.mono hcC.size)), HCP2.out, hl8⟩
                  · rw [List.mem_singleton] at hu
                    subst hu
                    exact ⟨L, HTS.out _ (hcV.trans (h.mono hcV.size)), HCAP.out, by omega⟩
                have HSH4 : Hid (∀ W', Below w4.heap.size w4 W' → (W'.cell? ⟨Bo, 0, none⟩ = some (.int .i64 sk) ∧ W'.cell? ⟨Bo, 1, none⟩ = some (.int .i64 sm) ∧ W'.cell? ⟨Bo, 2, none⟩ = some (.int .i64 sz)) ∧ W'.cell? ⟨B0, 1, none⟩ = some (.slice (some ⟨bt, ot, none⟩) L.length kL) ∧ W'.cell? ⟨B0, 3, none⟩ = some (.int .i64 N) ∧ Below V.heap.size V W') := fun W' h => ⟨HSH.out _ (hcV.trans (h.mono hcV.size)), (HLV.out _ (hcV.trans (h.mono hcV.size))).1, (HLV.out _ (hcV.trans (h.mono hcV.size))).2, hcV.trans (h.mono hcV.size)⟩
                have HTS4 : Hid (∀ W', Below w4.heap.size w4 W' → StrsIn W' (.slice (some ⟨bt, ot, none⟩) L.length kL) L) := fun W' h => HTS.out _ (hcV.trans (h.mono hcV.size))
                clear y3 y4 hcC hcV
                generalize w4.alloc (.cells #[.slice A2 LW.length c2, .slice (some ⟨bt, ot, none⟩) L.length kL] 23) = W5 at *
                generalize hB4 : w4.heap.size = B4 at *
                go_cut [12] from 94 to 105 (fun v wx => ∃ n, n ≤ 3 ∧ ListsIn wx v n ∧ Below B4 w4 wx)
                case first =>
                  cases mb
                  · go_wp2_with fail
                    go_meet
                    exact ⟨2, by omega, ⟨_, rfl, RowIs.of_own hown5, HXL.out _ hb5⟩, hb5⟩
                  · obtain ⟨lg, hlg, hlg1, hlg2, k1, k8, m0, m6, z1, z120⟩ := lg_facts HMB.out
                    have HFIT : Hid (∀ W', StrsIn W' (.slice (some ⟨bt, ot, none⟩) L.length kL) L → Calls Tryd.prog 13 #[.slice (some ⟨bt, ot, none⟩) L.length kL, .int .i64 sk, .int .i64 sz] W' fun e w' => ∃ v', e = .returned v' ∧ (∃ F, StrsIn w' v' F ∧ F.length ≤ 8) ∧ CapOk v' ∧ (∀ A n c, v' = .slice (some A) n c → W'.heap.size ≤ A.block) ∧ Below W'.heap.size W' w') := by
                      intro W' h
                      have h2 := fitted_any _ L sk.toNat sz.toNat W' h (by omega) HSM.out (by omega) (by omega) (by omega)
                      rw [Int.toNat_of_nonneg (by omega), Int.toNat_of_nonneg (by omega)] at h2
                      exact h2.mono fun e w' ⟨v', q1, ⟨F, q2, q3, q4⟩, q5, q6, q7⟩ => ⟨v', q1, ⟨F, q2, by omega⟩, q5, q6, q7⟩
                    obtain ⟨⟨y0, y1, y2⟩, y3, y4, hcV⟩ := HSH4.out _ hb5
                    have hkk : sk.toNat ≤ 8 := by omega
                    clear hlg hlg1 hlg2 k1 k8 m0 m6 z1 z120 hcV
                    go_wp2_with (first
                      | (go_at_call 13; refine (HFIT.out _ (HTS4.out _ hb5)).mono ?_; rintro e w6 ⟨v6, rfl, ⟨F, hF, hFl⟩, hcp6, hba6, hw6⟩; obtain ⟨A6, c6, rfl⟩ := hF.len; have hown6 := own_below hown5 hw6; have hb6 := hb5.trans (hw6.mono (by omega)); clear y0 y1 y2 y3 y4)
                      | (at_builtin; refine wpList_append_own _ rfl _ _ 40 rfl B4 23 i0 (.slice none 0 0) 1 24 Tryd.underlying40 hi hz0 hz1 hz2 rfl (by decide) _ _ _ rfl (hown6.alloc _) ⟨w6.heap.size, 0, none⟩ 1 1 [.slice A6 F.length c6] rfl rfl ?c1 ?c2 ?c3 ?c4 ?c5 ?_)
                      | go_in)
                    case c1 => exact cell_one_new _ _ _
                    case c2 => intro u hu; rw [List.mem_singleton] at hu; subst hu; rfl
                    case c3 => unfold maxLen; omega
                    case c4 => omega
                    case c5 => have := hb6.size; simp; omega
                    all_goals
                      intro v' w7 hown' hgrow _
                      have hbx : Below B4 w4 w7 := by subst hB4; exact append_below hb6 hown6 hgrow
                      have hF7 : StrsIn w7 (.slice A6 F.length c6) F := strs_grown (hF.below ((Below.refl w6.heap.size w6).alloc (Nat.le_refl _) _)) hgrow (fun A n c e => by
                        have h1 := hba6 A n c e
                        intro h2
                        have h3 : A.block = B4 := Option.some.inj h2
                        omega)
                      have hl7 : ListsIn w7 v' 3 := ⟨_, rfl, RowIs.of_own hown', fun u hu => by
                        rcases List.mem_append.1 (show u ∈ [Value.slice A2 LW.length c2, .slice (some ⟨bt, ot, none⟩) L.length kL] ++ [.slice A6 F.length c6] from hu) with hu | hu
                        · exact HXL.out _ hbx u hu
                        · rw [List.mem_singleton] at hu
                          subst hu
                          exact ⟨F, hF7, hcp6, by omega⟩⟩
                      clear hown' hgrow hown6 hF7 hF
                      go_wp2_with fail
                      go_meet
                      exact ⟨3, by omega, hl7, hbx⟩
                case rest =>
                  obtain ⟨n, hn3, hLI, hbC⟩ := hcut
                  obtain ⟨A12, c12, rfl⟩ := hLI.len
                  have hB4c : B4 ≤ wc.heap.size := by have := hbC.size; omega
                  have HALL : Hid (∀ W', Below wc.heap.size wc W' → ((W'.cell? ⟨Bo, 0, none⟩ = some (.int .i64 sk) ∧ W'.cell? ⟨Bo, 1, none⟩ = some (.int .i64 sm) ∧ W'.cell? ⟨Bo, 2, none⟩ = some (.int .i64 sz)) ∧ W'.cell? ⟨B0, 3, none⟩ = some (.int .i64 N) ∧ ListsIn W' (.slice A12 n c12) n ∧ Below V.heap.size V W')) := fun W' h => by
                    obtain ⟨q1, q2, q3, q4⟩ := HSH4.out _ (hbC.trans (h.mono hB4c))
                    exact ⟨q1, q3, hLI.below h, q4⟩
                  clear hLI hown5 hb5 hs5 HXL HSH4 HTS4 hbC HX HCP2
                  go_wp2_with fail
                  go_loopw [13] (fun f wr => ∃ a : Nat, f = .int .i64 a ∧ a ≤ n ∧ Below wc.heap.size wc wr) (fun f _ => n - (intOf f).toNat)
                  case atStart => exact ⟨0, rfl, by omega, Below.refl _ _⟩
                  case round =>
                    obtain ⟨a, rfl, ha, hwa⟩ := hrel
                    obtain ⟨⟨y0, y1, y2⟩, y3, hLI, hcV⟩ := HALL.out _ hwa
                    by_cases han : a < n
                    · obtain ⟨b, o, c, AM, mm, cM, e, lc, M, rfl, hM, hcM, hM9⟩ := hLI.at_ han
                      cases e
                      obtain ⟨wv, rfl⟩ : ∃ wv : World, wv = wr := ⟨_, rfl⟩
                      go_upto_region 26 with fail
                      generalize wrap64 (sk * sz) = p1
                      have hlit := lit_row wv #[.int .i64 (t.size : Int), .int .i64 N, .int .i64 1, .int .i64 p1] 3 4 1 4 rfl
                      have hby : Below wv.heap.size wv (wv.alloc (.cells #[.int .i64 (t.size : Int), .int .i64 N, .int .i64 1, .int .i64 p1] 3)) := (Below.refl _ _).alloc (Nat.le_refl _) _
                      have hs7 : (wv.alloc (.cells #[.int .i64 (t.size : Int), .int .i64 N, .int .i64 1, .int .i64 p1] 3)).heap.size = wv.heap.size + 1 := by simp
                      obtain ⟨zs, hzs⟩ : ∃ l : List Int, l = [(t.size : Int), N, 1, p1] := ⟨_, rfl⟩
                      have hnum : NumRow (wv.alloc (.cells #[.int .i64 (t.size : Int), .int .i64 N, .int .i64 1, .int .i64 p1] 3)) (.slice (some ⟨wv.heap.size, 0, none⟩) 4 4) zs := by rw [hzs]; exact hlit
                      have hzl : zs.length = 4 := by rw [hzs]; rfl
                      have hbV : Below wc.heap.size wc (wv.alloc (.cells #[.int .i64 (t.size : Int), .int .i64 N, .int .i64 1, .int .i64 p1] 3)) := hwa.trans (hby.mono hwa.size)
                      clear hlit hzs
                      generalize wv.alloc (.cells #[.int .i64 (t.size : Int), .int .i64 N, .int .i64 1, .int .i64 p1] 3) = V2 at *
                      have HM := Lib.hid (hM.below hby)
                      have HLC2 := Lib.hid (below_celllt lc (cell_block lc) hby)
                      generalize hBn : wv.heap.size = Bn at *
                      have HNM := Lib.hid hnum
                      have HALL2 : Hid (∀ W', Below V2.heap.size V2 W' → ((W'.cell? ⟨Bo, 0, none⟩ = some (.int .i64 sk) ∧ W'.cell? ⟨Bo, 1, none⟩ = some (.int .i64 sm) ∧ W'.cell? ⟨Bo, 2, none⟩ = some (.int .i64 sz)) ∧ W'.cell? ⟨b, o + a, none⟩ = some (.slice AM M.length cM) ∧ StrsIn W' (.slice AM M.length cM) M ∧ NumRow W' (.slice (some ⟨Bn, 0, none⟩) 4 4) zs)) := fun W' h => by
                        obtain ⟨q1, q2, q3, q4⟩ := HALL.out _ (hbV.trans (h.mono hbV.size))
                        exact ⟨q1, below_celllt HLC2.out (cell_block HLC2.out) h, HM.out.below h, HNM.out.below h⟩
                      have HCM := Lib.hid hcM
                      clear y0 y1 y2 y3 hLI hcV lc hM hcM hnum hwa hby HLC2 HNM HM
                      go_wp2_with fail
                      go_loopw [15] (fun f wx => ∃ d : Nat, f = .int .i64 d ∧ d ≤ 4 ∧ Below V2.heap.size V2 wx) (fun f _ => 4 - (intOf f).toNat)
                      case atStart => exact ⟨0, rfl, by omega, Below.refl _ _⟩
                      case round =>
                        obtain ⟨d, rfl, hd, hwx⟩ := hrel
                        obtain ⟨wi, rfl⟩ : ∃ wi : World, wi = wr := ⟨_, rfl⟩
                        by_cases hd4 : d < 4
                        · obtain ⟨⟨y0, y1, y2⟩, lc, hM, hN⟩ := HALL2.out _ hwx
                          obtain ⟨x, hx, a0⟩ := hN.at_lit (k := d) (by omega)
                          have HK : Hid (∀ W', Below wi.heap.size wi W' → (W'.cell? ⟨Bo, 0, none⟩ = some (.int .i64 sk) ∧ W'.cell? ⟨Bo, 1, none⟩ = some (.int .i64 sm) ∧ W'.cell? ⟨Bo, 2, none⟩ = some (.int .i64 sz) ∧ W'.cell? ⟨b, o + a, none⟩ = some (.slice AM M.length cM) ∧ W'.cell? ⟨Bn, d, none⟩ = some (.int .i64 x))) := fun W' h => ⟨below_celllt y0 (cell_block y0) h, below_celllt y1 (cell_block y1) h, below_celllt y2 (cell_block y2) h, below_celllt lc (cell_block lc) h, below_celllt a0 (cell_block a0) h⟩
                          have HMM : Hid (∀ W', Below wi.heap.size wi W' → StrsIn W' (.slice AM M.length cM) M) := fun W' h => hM.below h
                          have d0 : (0 : Int) ≤ (d : Int) := by omega
                          have d1 : (d : Int) < 4 := by omega
                          have d2 : decide ((d : Int) < 4) = true := by simp; omega
                          have a1 : (0 : Int) ≤ (a : Int) := by omega
                          have a2 : (a : Int) < (n : Int) := by omega
                          clear hM hN hx
                          go_upto_region 29 with fail
                          go_region_held3 (fun W' => W'.cell? ⟨Bo, 0, none⟩ = some (.int .i64 sk) ∧ W'.cell? ⟨Bo, 1, none⟩ = some (.int .i64 sm) ∧ W'.cell? ⟨Bo, 2, none⟩ = some (.int .i64 sz) ∧ W'.cell? ⟨b, o + a, none⟩ = some (.slice AM M.length cM) ∧ W'.cell? ⟨Bn, d, none⟩ = some (.int .i64 x)) (first | go_keep | exact HK.out _ (below_of_drew (by assumption)))
                            (first | (go_at_call 14; refine (cutJoin_any _ _ _ _ _ M _ (HMM.out _ (Below.drew (Below.refl _ _))) HCM.out hM9).mono ?_; rintro e w3 ⟨rfl, hbs⟩))
                          have hw3 := below_of_drew hbs
                          have hwx3 := hwx.trans (hw3.mono hwx.size)
                          clear hbs y0 y1 y2 lc a0 hwx
                          obtain ⟨y0, y1, y2, lc, a0⟩ := HK.out _ hw3
                          have HM3 : Hid (∀ W', Below w3.heap.size w3 W' → StrsIn W' (.slice AM M.length cM) M) := fun W' h => HMM.out _ (hw3.trans (h.mono hw3.size))
                          clear HK HMM
                          cases mb
                          · have hmb := HMB.out
                            have hj : joinOk sk sm sz M x = false := by unfold joinOk; rw [hmb]; rfl
                            have eX : joinX sk sm sz M x = ⟨#[]⟩ := by unfold joinX; rw [hj]; rfl
                            have eF : joinF sk sm sz M x = 1 := by unfold joinF; rw [hj]; rfl
                            clear hmb hj
                            go_upto_region 31 with fail
                            go_quiet (fail)
                            go_wp2_with (first | (go_at_call 11; refine (num7_any _ _).mono ?_; rintro e wn ⟨rfl, rfl⟩))
                            go_roundw
                            case rel => exact ⟨d + 1, by go_num, by omega, by first | exact below_drewN hwx3 _ | exact hwx3 | exact below_drewN (below_drewN hwx3 _) _⟩
                            case measure => simp [intOf]; omega
                          · have hmb := HMB.out
                            obtain ⟨lg, hlg, hlg1, hlg2, k1, k8, m0, m6, z1, z120⟩ := lg_facts hmb
                            have hwl : IntKind.i64.wrap (sk * sz) = (lg : Int) := by rw [hlg]; exact IntWalk.i64_in _ (by omega)
                            obtain ⟨tb, htb⟩ : ∃ tb, textsOk M sk sz = tb := ⟨_, rfl⟩
                            have HTX : Hid (∀ W', Below w3.heap.size w3 W' → Calls Tryd.prog 15 #[.slice AM M.length cM, .int .i64 sk, .int .i64 sz] W' fun e w' => e = .returned (.bool tb) ∧ W' = w') := by
                              intro W' h
                              have := refTexts_any _ M sk sz W' (HM3.out _ h) hM9
                              rw [htb] at this
                              exact this
                            cases tb
                            · have hj : joinOk sk sm sz M x = false := by unfold joinOk; rw [hmb, htb]; rfl
                              have eX : joinX sk sm sz M x = ⟨#[]⟩ := by unfold joinX; rw [hj]; rfl
                              have eF : joinF sk sm sz M x = 1 := by unfold joinF; rw [hj]; rfl
                              clear hmb hj htb hlg
                              go_upto_region 31 with fail
                              go_quiet (first | (go_at_call 15; exact quiet_left (HTX.out _ (below_drewN (Below.refl _ _) _))))
                              go_wp2_with (first | (go_at_call 11; refine (num7_any _ _).mono ?_; rintro e wn ⟨rfl, rfl⟩))
                              go_roundw
                              case rel => exact ⟨d + 1, by go_num, by omega, by first | exact below_drewN hwx3 _ | exact hwx3 | exact below_drewN (below_drewN hwx3 _) _⟩
                              case measure => simp [intOf]; omega
                            · obtain ⟨bb, hbb⟩ : ∃ bb, decide (1 ≤ x ∧ x ≤ (lg : Int)) = bb := ⟨_, rfl⟩
                              have HBT : Hid (∀ W', Calls Tryd.prog 9 #[.int .i64 x, .int .i64 1, .int .i64 (lg : Int)] W' fun e w' => e = .returned (.bool bb) ∧ W' = w') := by
                                intro W'
                                have := refBetween_any x 1 (lg : Int) W'
                                rw [hbb] at this
                                exact this
                              have hj : joinOk sk sm sz M x = bb := by unfold joinOk; rw [hmb, htb, hlg, hbb]; simp
                              cases bb
                              · have eX : joinX sk sm sz M x = ⟨#[]⟩ := by unfold joinX; rw [hj]; rfl
                                have eF : joinF sk sm sz M x = 1 := by unfold joinF; rw [hj]; rfl
                                clear hmb hj htb hbb
                                go_upto_region 31 with fail
                                go_quiet (first | (go_at_call 15; exact quiet_left (HTX.out _ (below_drewN (Below.refl _ _) _))) | (go_at_call 9; exact quiet_left (HBT.out _)))
                                go_wp2_with (first | (go_at_call 11; refine (num7_any _ _).mono ?_; rintro e wn ⟨rfl, rfl⟩))
                                go_roundw
                                case rel => exact ⟨d + 1, by go_num, by omega, by first | exact below_drewN hwx3 _ | exact hwx3 | exact below_drewN (below_drewN hwx3 _) _⟩
                                case measure => simp [intOf]; omega
                              · obtain ⟨q1, q2, q3, j3, j4, j5, j6, j7⟩ := joinOk_facts hj
                                rw [hlg] at j3 j5
                                rw [Int.toNat_natCast] at j3
                                obtain ⟨kx, hkx⟩ : ∃ kx : Nat, x = (kx : Int) := ⟨x.toNat, by omega⟩
                                obtain ⟨tl, htl⟩ : ∃ tl, tailOk (joinB M) kx = tl := ⟨_, rfl⟩
                                have hxk : x.toNat = kx := by omega
                                have eX : joinX sk sm sz M x = joinS (joinB M) kx := by unfold joinX; rw [hj, if_pos rfl, hxk]
                                have eF : joinF sk sm sz M x = if tl then 0 else 7 := by unfold joinF; rw [hj, if_pos rfl, hxk]; unfold joinE; rw [htl]
                                have HRJ : Hid (∀ W', Below w3.heap.size w3 W' → Calls Tryd.prog 16 #[.slice AM M.length cM, .int .i64 x] W' fun e w' => e = .returned (.tuple #[.string (joinS (joinB M) kx), .bool tl]) ∧ W' = w') := by
                                  intro W' h
                                  have := refJoin_yes _ M kx W' (HM3.out _ h) (by omega) (by omega) (by omega)
                                  rw [htl] at this
                                  rw [hkx]
                                  exact this
                                have HSE : Hid (joinS (joinB M) kx = if tl then (joinB M).extract 0 kx else ⟨#[]⟩) := by unfold joinS; rw [Hid, htl]
                                obtain ⟨J1, hJ1⟩ : ∃ J1, joinS (joinB M) kx = J1 := ⟨_, rfl⟩
                                rw [hJ1] at eX HRJ HSE
                                clear hmb hj htb hbb hJ1 htl j3 j4 j5 j6 j7 hkx hxk q1 q2 q3
                                cases tl
                                · replace eF : joinF sk sm sz M x = 7 := by rw [eF]; rfl
                                  have eJ : J1 = ⟨#[]⟩ := HSE.out
                                  subst eJ
                                  go_upto_region 31 with fail
                                  go_quiet (first | (go_at_call 15; exact quiet_left (HTX.out _ (below_drewN (Below.refl _ _) _))) | (go_at_call 9; exact quiet_left (HBT.out _)))
                                  go_wp2_with fail
                                  go_region_held3 (fun W' => W'.cell? ⟨b, o + a, none⟩ = some (.slice AM M.length cM) ∧ W'.cell? ⟨Bn, d, none⟩ = some (.int .i64 x)) (go_keep) (first | (go_at_call 16; refine (HRJ.out _ (by first | exact below_drewN (below_drewN (Below.refl _ _) _) _ | exact below_drewN (Below.refl _ _) _ | exact Below.drew (below_drewN (Below.refl _ _) _) | exact Below.drew (Below.drew (Below.refl _ _)) | exact Below.drew (Below.refl _ _))).mono ?_; rintro e wy ⟨rfl, rfl⟩))
                                  go_wp2_with (first | (go_at_call 11; refine (num7_any _ _).mono ?_; rintro e wn ⟨rfl, rfl⟩))
                                  go_roundw
                                  case rel => exact ⟨d + 1, by go_num, by omega, by first | exact below_drewN hwx3 _ | exact hwx3 | exact below_drewN (below_drewN hwx3 _) _⟩
                                  case measure => simp [intOf]; omega
                                · replace eF : joinF sk sm sz M x = 0 := by rw [eF]; rfl
                                  clear HSE
                                  go_upto_region 31 with fail
                                  go_quiet (first | (go_at_call 15; exact quiet_left (HTX.out _ (below_drewN (Below.refl _ _) _))) | (go_at_call 9; exact quiet_left (HBT.out _)))
                                  go_wp2_with fail
                                  go_region_held3 (fun W' => W'.cell? ⟨b, o + a, none⟩ = some (.slice AM M.length cM) ∧ W'.cell? ⟨Bn, d, none⟩ = some (.int .i64 x)) (go_keep) (first | (go_at_call 16; refine (HRJ.out _ (by first | exact below_drewN (below_drewN (Below.refl _ _) _) _ | exact below_drewN (Below.refl _ _) _ | exact Below.drew (below_drewN (Below.refl _ _) _) | exact Below.drew (Below.drew (Below.refl _ _)) | exact Below.drew (Below.refl _ _))).mono ?_; rintro e wy ⟨rfl, rfl⟩))
                                  go_wp2_with (first | (go_at_call 11; refine (num7_any _ _).mono ?_; rintro e wn ⟨rfl, rfl⟩))
                                  go_roundw
                                  case rel => exact ⟨d + 1, by go_num, by omega, by first | exact below_drewN hwx3 _ | exact hwx3 | exact below_drewN (below_drewN hwx3 _) _⟩
                                  case measure => simp [intOf]; omega
                        · have d2 : decide ((d : Int) < 4) = false := by simp; omega
                          have hfin := hbV.trans (hwx.mono hbV.size)
                          go_wp2_with fail
                          go_roundw
                          case rel => exact ⟨a + 1, by go_num, by omega, hfin⟩
                          case measure => simp [intOf]; omega
                    · go_wp2_with fail
                      go_roundw
                      case rel => exact ⟨j + 1, by go_num, by omega, hcV⟩
                      case measure => simp [intOf]; omega
          · have hfin := hwV.trans (hcV.mono hwV.size)
            go_wp2_with fail
            go_roundw
            case rel => exact ⟨k + 1, by go_num, by omega, hfin⟩
            case measure => simp [intOf]; omega
      · by_cases hl1 : k < S.length
        · have hk4d : decide ((k : Int) < 4) = false := by simp; omega
          go_wp2_with fail
          refine (wakes7_any _).mono ?_
          rintro e w3 ⟨rfl, hb4⟩
          have hx := hwr.trans (hb4.mono hwr.size)
          have hx2 := hb2.trans (hx.mono hb2.size)
          clear hb4
          go_wp2_with fail
          go_ret
          exact ⟨rfl, by rw [hB0] at *; exact hx2⟩
        · go_wp2_with fail
          refine (wakes7_any _).mono ?_
          rintro e w3 ⟨rfl, hb4⟩
          have hx := hwr.trans (hb4.mono hwr.size)
          have hx2 := hb2.trans (hx.mono hb2.size)
          clear hb4
          go_wp2_with fail
          go_ret
          exact ⟨rfl, by rw [hB0] at *; exact hx2⟩
  · go_wp2_with fail
    go_ret
    exact ⟨rfl, hb2⟩
end Go.Proofs.YtkfmkbmlhhdbpaaDoor
