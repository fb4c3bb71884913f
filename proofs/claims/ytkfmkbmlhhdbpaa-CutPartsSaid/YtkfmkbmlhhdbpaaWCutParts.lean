/- CutParts, walked. -/
import Derived.Test.YtkfmkbmlhhdbpaaCutB
namespace Go.Proofs.Ytkfmkbmlhhdbpaa
open Go.ChangeShapes Go.WideShapes Go.ChangeAt Go.RowKit Go.Joins
set_option linter.unusedVariables false
set_option linter.unusedSimpArgs false

set_option maxRecDepth 100000 in
set_option maxHeartbeats 8000000 in
theorem cutParts_walk {c0 c1 c2 : Value} {N : Int} {S : List T3} {L : List ByteArray} {Bs : List Bool} (w : World) (q : Ask7 w c0 c1 c2 N S L Bs) :
    Calls Try.prog 3 #[.agg #[c0, c1, c2, .int .i64 N]] w fun e w' => e = .returned (.bool true) ∧ Below w.heap.size w w' := by
  obtain ⟨hbel, hc0, hc1, hc2, hc3, hsz⟩ := box4_facts w c0 c1 c2 (.int .i64 N) 28
  have q2 := q.below hbel
  go_enter Try.func3, Try.ntmps3
  go_wp2_with fail
  refine (heavy4_any c0 c1 c2 S L Bs _ q2.hS q2.hL q2.hB q2.hS2).mono ?_
  rintro e w1 ⟨bo, hbo, rfl, hb1⟩
  have HS := Lib.hid (q2.hS.below hb1)
  have HLT := Lib.hid (q2.hL.below hb1)
  have g0 := below_cellj hc0 hsz hb1
  have g1 := below_cellj hc1 hsz hb1
  have g3 := below_cellj hc3 hsz hb1
  have hb2 := hbel.trans (hb1.mono hbel.size)
  have hlt0 : w.heap.size < w1.heap.size := by have := hb1.size; rw [hsz] at this; omega
  obtain ⟨pS, kS, rfl⟩ := q2.hS.len
  obtain ⟨pL, kL, rfl, hL16, hLs, hLc⟩ := q2.hL
  have hSl := q2.hS2
  have HLS := Lib.hid hLs
  clear hb1 hbo hc0 hc1 hc2 hc3 q2 q hsz hbel hLs hLc
  generalize hB0 : w.heap.size = B0 at g0 g1 g3 hlt0
  cases bo
  · go_wp2_with fail
    go_loopw [3] (fun f wr => ∃ k : Nat, f = .int .i64 k ∧ k ≤ S.length ∧ k ≤ 4 ∧ Below w1.heap.size w1 wr) (fun f _ => 4 - (intOf f).toNat)
    case atStart => exact ⟨0, rfl, by omega, by omega, Below.refl _ _⟩
    case round =>
      obtain ⟨k, rfl, hk, hk4, hwr⟩ := hrel
      obtain ⟨wo, rfl⟩ : ∃ wo : World, wo = wr := ⟨_, rfl⟩
      have r0 := below_celllt g0 hlt0 hwr
      have r1 := below_celllt g1 hlt0 hwr
      have r3 := below_celllt g3 hlt0 hwr
      have hlt1 : B0 < wo.heap.size := Nat.lt_of_lt_of_le hlt0 hwr.size
      by_cases hlt : k < S.length ∧ k < 4
      · obtain ⟨hl1, hl2⟩ := hlt
        obtain ⟨bs, os, cs, es, s, hs, s0, s1, s2⟩ := (HS.out.below hwr).at_ hl1
        cases es
        obtain ⟨sk, sm, sz⟩ := s
        simp only at s0 s1 s2
        have hk4d : decide ((k : Int) < 4) = true := by simp; omega
        go_wp2_with fail
        generalize wrap64 (sk * sz) = p1
        generalize wrap64 (p1 + 1) = p2
        obtain ⟨hbx, t0, t1, t2, ht3⟩ := box3_facts wo (.int .i64 sk) (.int .i64 sm) (.int .i64 sz) 31
        have hlit := lit_row (wo.alloc (.cells #[.int .i64 sk, .int .i64 sm, .int .i64 sz] 31)) #[.int .i64 N, .int .i64 0, .int .i64 1, .int .i64 p1, .int .i64 p2, .int .i64 2000, .int .i64 2001] 3 7 1 7 rfl
        rw [ht3] at hlit
        have hby := (Below.refl (wo.alloc (.cells #[.int .i64 sk, .int .i64 sm, .int .i64 sz] 31)).heap.size _).alloc (Nat.le_refl _) (.cells #[.int .i64 N, .int .i64 0, .int .i64 1, .int .i64 p1, .int .i64 p2, .int .i64 2000, .int .i64 2001] 3)
        have t0 := below_cellj t0 ht3 hby
        have t1 := below_cellj t1 ht3 hby
        have t2 := below_cellj t2 ht3 hby
        have hV2 : ((wo.alloc (.cells #[.int .i64 sk, .int .i64 sm, .int .i64 sz] 31)).alloc (.cells #[.int .i64 N, .int .i64 0, .int .i64 1, .int .i64 p1, .int .i64 p2, .int .i64 2000, .int .i64 2001] 3)).heap.size = wo.heap.size + 2 := by simp
        have hwV := (hwr.trans (hbx.mono hwr.size)).trans (hby.mono (Nat.le_trans hwr.size hbx.size))
        obtain ⟨zs, hzs⟩ : ∃ l : List Int, l = [N, 0, 1, p1, p2, 2000, 2001] := ⟨_, rfl⟩
        have hnum : NumRow ((wo.alloc (.cells #[.int .i64 sk, .int .i64 sm, .int .i64 sz] 31)).alloc (.cells #[.int .i64 N, .int .i64 0, .int .i64 1, .int .i64 p1, .int .i64 p2, .int .i64 2000, .int .i64 2001] 3)) (.slice (some ⟨wo.heap.size + 1, 0, none⟩) 7 7) zs := by rw [hzs]; exact hlit
        have hzl : zs.length = 7 := by rw [hzs]; rfl
        generalize (wo.alloc (.cells #[.int .i64 sk, .int .i64 sm, .int .i64 sz] 31)).alloc (.cells #[.int .i64 N, .int .i64 0, .int .i64 1, .int .i64 p1, .int .i64 p2, .int .i64 2000, .int .i64 2001] 3) = V at *
        have HN := Lib.hid hnum
        have HSV := Lib.hid (HLT.out.below hwV)
        have r1 : V.cell? ⟨B0, 1, none⟩ = some (.slice pL L.length kL) := below_celllt g1 hlt0 hwV
        have hltB : B0 < V.heap.size := Nat.lt_of_lt_of_le hlt0 hwV.size
        generalize hBo : wo.heap.size = Bo at *
        have hltV : Bo < V.heap.size := by omega
        clear hlit hby hbx ht3 r0 r3 s0 s1 s2 hnum hzs hlt1
        go_loopw [6] (fun f wr => ∃ j : Nat, f = .int .i64 j ∧ j ≤ 7 ∧ Below V.heap.size V wr) (fun f _ => 7 - (intOf f).toNat)
        case atStart => exact ⟨0, rfl, by omega, Below.refl _ _⟩
        case round =>
          obtain ⟨j, rfl, hj, hwr2⟩ := hrel
          obtain ⟨wi, rfl⟩ : ∃ wo : World, wo = wr := ⟨_, rfl⟩
          by_cases hj7 : j < 7
          · obtain ⟨x, hx, a0⟩ := (HN.out.below hwr2).at_lit (k := j) (by omega)
            have y0 := below_celllt t0 hltV hwr2
            have y1 := below_celllt t1 hltV hwr2
            have y2 := below_celllt t2 hltV hwr2
            have hj0 : (0 : Int) ≤ (j : Int) := by omega
            have hj8 : (j : Int) < 7 := by omega
            have hjd : decide ((j : Int) < 7) = true := by simp; omega
            have hKK : ∀ W', Below wi.heap.size wi W' → (W'.cell? ⟨Bo, 0, none⟩ = some (.int .i64 sk) ∧ W'.cell? ⟨Bo, 1, none⟩ = some (.int .i64 sm) ∧ W'.cell? ⟨Bo, 2, none⟩ = some (.int .i64 sz) ∧ W'.cell? ⟨Bo + 1, j, none⟩ = some (.int .i64 x)) := by
              intro W' h
              have hsi := hwr2.size
              exact ⟨below_celllt y0 (by omega) h, below_celllt y1 (by omega) h, below_celllt y2 (by omega) h, below_celllt a0 (by omega) h⟩
            have HK := Lib.hid hKK
            clear hKK
            go_wp2_with fail
            go_region_held3 (fun W' => W'.cell? ⟨Bo, 0, none⟩ = some (.int .i64 sk) ∧ W'.cell? ⟨Bo, 1, none⟩ = some (.int .i64 sm) ∧ W'.cell? ⟨Bo, 2, none⟩ = some (.int .i64 sz) ∧ W'.cell? ⟨Bo + 1, j, none⟩ = some (.int .i64 x)) (first | go_keep | exact HK.out _ (below_of_drew (by assumption)))
              (first | (go_at_call 5; refine (cutStripes_any _ _ _ _ _).mono ?_; rintro e w3 ⟨rfl, hbs⟩))
            have hw3 := hwr2.trans ((below_of_drew hbs).mono hwr2.size)
            clear hbs y0 y1 y2 a0 HK hwr2
            have y0 := below_celllt t0 hltV hw3
            have y1 := below_celllt t1 hltV hw3
            have y2 := below_celllt t2 hltV hw3
            obtain ⟨x', hx', a0⟩ := (HN.out.below hw3).at_lit (k := j) (by omega)
            rw [hx] at hx'
            cases hx'
            go_wp2_with fail
            refine (refShape_any _ _ _ _).mono ?_
            rintro e w4 ⟨rfl, hb4⟩
            have hw4 := hw3.trans (hb4.mono hw3.size)
            have hlt4 := hw4.size
            clear y0 y1 y2 a0 hb4 hw3
            cases hmb : mayB (sk, sm, sz)
            · have eV : strV sk sm sz x = 0 := by simp [strV, stripesOk, hmb]
              have eE : strE sk sm sz x = 1 := by simp [strE, stripesOk, hmb]
              have HX := Lib.hid hw4
              go_wp2_with (first | (go_at_call 7; refine (refNum_any _ _ _).mono ?_; rintro e w' ⟨rfl, rfl⟩) | (go_at_call 9; refine (num7_any _ _).mono ?_; rintro e w' ⟨rfl, rfl⟩))
              go_roundw
              case rel => exact ⟨j + 1, by go_num, by omega, HX.out⟩
              case measure => simp [intOf]; omega
            · have y0 := below_celllt t0 hltV hw4
              have y1 := below_celllt t1 hltV hw4
              have y2 := below_celllt t2 hltV hw4
              obtain ⟨x', hx', a0⟩ := (HN.out.below hw4).at_lit (k := j) (by omega)
              rw [hx] at hx'
              cases hx'
              cases hd1 : decide (0 ≤ x ∧ x ≤ 2000)
              · have eV : strV sk sm sz x = 0 := by simp only [strV, stripesOk, hmb, hd1]; rfl
                have eE : strE sk sm sz x = 1 := by simp only [strE, stripesOk, hmb, hd1]; rfl
                have HX := Lib.hid hw4
                go_wp2_with (first | (go_at_call 7; refine (refNum_any _ _ _).mono ?_; rintro e w' ⟨rfl, rfl⟩) | (go_at_call 9; refine (num7_any _ _).mono ?_; rintro e w' ⟨rfl, rfl⟩))
                go_roundw
                case rel => exact ⟨j + 1, by go_num, by omega, HX.out⟩
                case measure => simp [intOf]; omega
              · have eV : strV sk sm sz x = stripesV sk sz x := by simp only [strV, stripesOk, hmb, hd1]; rfl
                have eE : strE sk sm sz x = 0 := by simp only [strE, stripesOk, hmb, hd1]; rfl
                have hx2 := of_decide_eq_true hd1
                have hKK : ∀ W', Below w4.heap.size w4 W' → (W'.cell? ⟨Bo, 0, none⟩ = some (.int .i64 sk) ∧ W'.cell? ⟨Bo, 1, none⟩ = some (.int .i64 sm) ∧ W'.cell? ⟨Bo, 2, none⟩ = some (.int .i64 sz) ∧ W'.cell? ⟨Bo + 1, j, none⟩ = some (.int .i64 x)) := by
                  intro W' h
                  exact ⟨below_celllt y0 (by omega) h, below_celllt y1 (by omega) h, below_celllt y2 (by omega) h, below_celllt a0 (by omega) h⟩
                have HK := Lib.hid hKK
                clear hKK
                go_wp2_with (first | (go_at_call 7; refine (refNum_any _ _ _).mono ?_; rintro e w' ⟨rfl, rfl⟩) | (go_at_call 9; refine (num7_any _ _).mono ?_; rintro e w' ⟨rfl, rfl⟩))
                go_region_held3 (fun W' => W'.cell? ⟨Bo, 0, none⟩ = some (.int .i64 sk) ∧ W'.cell? ⟨Bo, 1, none⟩ = some (.int .i64 sm) ∧ W'.cell? ⟨Bo, 2, none⟩ = some (.int .i64 sz) ∧ W'.cell? ⟨Bo + 1, j, none⟩ = some (.int .i64 x)) (first | go_keep | exact HK.out _ (below_of_drew (by assumption)))
                  (first | (go_at_call 8; refine (refStripes_yes _ _ _ _ _ hmb hx2.1 hx2.2).mono ?_; rintro e w5 ⟨rfl, hbs⟩))
                have HX := Lib.hid (hw4.trans ((below_of_drew hbs).mono hw4.size))
                clear hbs HK y0 y1 y2 a0
                generalize stripesV sk sz x = sv at *
                go_wp2_with (first | (go_at_call 7; refine (refNum_any _ _ _).mono ?_; rintro e w' ⟨rfl, rfl⟩) | (go_at_call 9; refine (num7_any _ _).mono ?_; rintro e w' ⟨rfl, rfl⟩))
                go_roundw
                case rel => exact ⟨j + 1, by go_num, by omega, HX.out⟩
                case measure => simp [intOf]; omega
          · have hjd : decide ((j : Int) < 7) = false := by simp; omega
            go_wp2_with fail
            go_loopw [11] (fun f wr => ∃ j : Nat, f = .int .i64 j ∧ j ≤ L.length ∧ Below V.heap.size V wr) (fun f _ => L.length - (intOf f).toNat)
            case atStart => exact ⟨0, rfl, by omega, hwr2⟩
            case round =>
              clear hwr2
              obtain ⟨j, rfl, hj, hwr2⟩ := hrel
              obtain ⟨wi, rfl⟩ : ∃ wo : World, wo = wr := ⟨_, rfl⟩
              by_cases hjL : j < L.length
              · obtain ⟨p', c', e, _, hs', hSl'⟩ := HSV.out
                cases e
                obtain ⟨bl, ol, t, rfl, htz, HE, tc⟩ := text_at hSl' hs' hjL
                have hbl : bl < V.heap.size := cell_block tc
                clear hs' hSl' HE
                have y0 := below_celllt t0 hltV hwr2
                have y1 := below_celllt t1 hltV hwr2
                have y2 := below_celllt t2 hltV hwr2
                have y3 := below_celllt r1 hltB hwr2
                have y4 := below_celllt tc hbl hwr2
                have hj0 : (0 : Int) ≤ (j : Int) := by omega
                have hj8 : (j : Int) < (L.length : Int) := by omega
                have hKK : ∀ W', Below wi.heap.size wi W' → (W'.cell? ⟨Bo, 0, none⟩ = some (.int .i64 sk) ∧ W'.cell? ⟨Bo, 1, none⟩ = some (.int .i64 sm) ∧ W'.cell? ⟨Bo, 2, none⟩ = some (.int .i64 sz) ∧ W'.cell? ⟨B0, 1, none⟩ = some (.slice (some ⟨bl, ol, none⟩) L.length kL) ∧ W'.cell? ⟨bl, ol + j, none⟩ = some (.string t)) := by
                  intro W' h
                  have hsi := hwr2.size
                  exact ⟨below_celllt y0 (by omega) h, below_celllt y1 (by omega) h, below_celllt y2 (by omega) h, below_celllt y3 (by omega) h, below_celllt y4 (by omega) h⟩
                have HK := Lib.hid hKK
                clear hKK
                go_wp2_with fail
                go_region_held3 (fun W' => W'.cell? ⟨Bo, 0, none⟩ = some (.int .i64 sk) ∧ W'.cell? ⟨Bo, 1, none⟩ = some (.int .i64 sm) ∧ W'.cell? ⟨Bo, 2, none⟩ = some (.int .i64 sz) ∧ W'.cell? ⟨B0, 1, none⟩ = some (.slice (some ⟨bl, ol, none⟩) L.length kL) ∧ W'.cell? ⟨bl, ol + j, none⟩ = some (.string t)) (first | go_keep | exact HK.out _ (below_of_drew (by assumption)))
                  (first | (go_at_call 10; refine (cutParts_any _ _ _ _ _ htz).mono ?_; rintro e w3 ⟨v, rfl, hv, hbs⟩))
                have hw3 := hwr2.trans ((below_of_drew hbs).mono hwr2.size)
                clear hbs y0 y1 y2 y3 y4 HK hwr2
                have HV := Lib.hid hv
                clear hv
                have y0 := below_celllt t0 hltV hw3
                have y1 := below_celllt t1 hltV hw3
                have y2 := below_celllt t2 hltV hw3
                go_wp2_with fail
                refine (refShape_any _ _ _ _).mono ?_
                rintro e w4 ⟨rfl, hb4⟩
                have HV4 := Lib.hid (HV.out.below hb4)
                have hw4 := hw3.trans (hb4.mono hw3.size)
                clear y0 y1 y2 hb4 hw3 HV
                cases hmb : mayB (sk, sm, sz)
                · have eE : partsErr sk sm sz t = 1 := by simp [partsErr, hmb]
                  have eW : partsWant sk sm sz t = [] := by simp [partsWant, hmb]
                  go_wp2_with (first | (go_at_call 9; refine (num7_any _ _).mono ?_; rintro e w' ⟨rfl, rfl⟩))
                  refine (eqStrs_yes _ _ [] _ (by rw [← eW]; exact HV4.out) (StrsIn.nil _ _ _) (by simp)).mono ?_
                  rintro e w6 ⟨rfl, hb6⟩
                  have HX := Lib.hid (hw4.trans (hb6.mono hw4.size))
                  clear hb6
                  go_wp2_with fail
                  go_roundw
                  case rel => exact ⟨j + 1, by go_num, by omega, HX.out⟩
                  case measure => simp [intOf]; omega
                · have y0 := below_celllt t0 hltV hw4
                  have y1 := below_celllt t1 hltV hw4
                  have y2 := below_celllt t2 hltV hw4
                  have y3 := below_celllt r1 hltB hw4
                  have y4 := below_celllt tc hbl hw4
                  by_cases hts : t.size ≤ 2000
                  · have hd : decide ((t.size : Int) ≤ 2000) = true := by simp; omega
                    have eE : partsErr sk sm sz t = 0 := by simp [partsErr, hmb, hts]
                    have eW : partsWant sk sm sz t = partsOf (sk * sz).toNat t := by simp [partsWant, hmb, hts]
                    have hKK : ∀ W', Below w4.heap.size w4 W' → (W'.cell? ⟨Bo, 0, none⟩ = some (.int .i64 sk) ∧ W'.cell? ⟨Bo, 1, none⟩ = some (.int .i64 sm) ∧ W'.cell? ⟨Bo, 2, none⟩ = some (.int .i64 sz) ∧ W'.cell? ⟨B0, 1, none⟩ = some (.slice (some ⟨bl, ol, none⟩) L.length kL) ∧ W'.cell? ⟨bl, ol + j, none⟩ = some (.string t)) := by
                      intro W' h
                      have hsi := hw4.size
                      exact ⟨below_celllt y0 (by omega) h, below_celllt y1 (by omega) h, below_celllt y2 (by omega) h, below_celllt y3 (by omega) h, below_celllt y4 (by omega) h⟩
                    have HK := Lib.hid hKK
                    clear hKK
                    go_wp2_with fail
                    go_region_held3 (fun W' => W'.cell? ⟨Bo, 0, none⟩ = some (.int .i64 sk) ∧ W'.cell? ⟨Bo, 1, none⟩ = some (.int .i64 sm) ∧ W'.cell? ⟨Bo, 2, none⟩ = some (.int .i64 sz) ∧ W'.cell? ⟨B0, 1, none⟩ = some (.slice (some ⟨bl, ol, none⟩) L.length kL) ∧ W'.cell? ⟨bl, ol + j, none⟩ = some (.string t)) (first | go_keep | exact HK.out _ (below_of_drew (by assumption)))
                      (first | (go_at_call 11; refine (refParts_yes _ _ _ _ _ hmb hts).mono ?_; rintro e w5 ⟨v', rfl, hv', hbs⟩))
                    have hbs2 := below_of_drew hbs
                    have HV5 := Lib.hid (HV4.out.below hbs2)
                    have hw5 := hw4.trans (hbs2.mono hw4.size)
                    have HV' := Lib.hid hv'
                    clear hv' hbs hbs2 HK y0 y1 y2 y3 y4
                    go_wp2_with (first | (go_at_call 9; refine (num7_any _ _).mono ?_; rintro e w' ⟨rfl, rfl⟩))
                    refine (eqStrs_yes _ _ (partsOf (sk * sz).toNat t) _ (by rw [← eW]; exact HV5.out) HV'.out (by have := partsOf_length (sk * sz).toNat t; omega)).mono ?_
                    rintro e w6 ⟨rfl, hb6⟩
                    have HX := Lib.hid (hw5.trans (hb6.mono hw5.size))
                    clear hb6
                    go_wp2_with fail
                    go_roundw
                    case rel => exact ⟨j + 1, by go_num, by omega, HX.out⟩
                    case measure => simp [intOf]; omega
                  · have hd : decide ((t.size : Int) ≤ 2000) = false := by simp; omega
                    have eE : partsErr sk sm sz t = 2 := by simp [partsErr, hmb, hts]
                    have eW : partsWant sk sm sz t = [] := by simp [partsWant, hmb, hts]
                    go_wp2_with (first | (go_at_call 9; refine (num7_any _ _).mono ?_; rintro e w' ⟨rfl, rfl⟩))
                    refine (eqStrs_yes _ _ [] _ (by rw [← eW]; exact HV4.out) (StrsIn.nil _ _ _) (by simp)).mono ?_
                    rintro e w6 ⟨rfl, hb6⟩
                    have HX := Lib.hid (hw4.trans (hb6.mono hw4.size))
                    clear hb6
                    go_wp2_with fail
                    go_roundw
                    case rel => exact ⟨j + 1, by go_num, by omega, HX.out⟩
                    case measure => simp [intOf]; omega
              · have q1 := below_celllt r1 hltB hwr2
                go_wp2_with fail
                go_roundw
                case rel => exact ⟨k + 1, by go_num, by omega, by omega, hwV.trans (hwr2.mono hwV.size)⟩
                case measure => simp [intOf]; omega
      · by_cases hl1 : k < S.length
        · have hk4d : decide ((k : Int) < 4) = false := by simp; omega
          go_wp2_with fail
          refine (wakes7_any _).mono ?_
          rintro e w3 ⟨rfl, hb4⟩
          have hx := hwr.trans (hb4.mono hwr.size)
          have hx2 := hb2.trans (hx.mono hb2.size)
          clear hb4
          go_wp2_with fail
          go_ret
          exact ⟨rfl, hx2⟩
        · go_wp2_with fail
          refine (wakes7_any _).mono ?_
          rintro e w3 ⟨rfl, hb4⟩
          have hx := hwr.trans (hb4.mono hwr.size)
          have hx2 := hb2.trans (hx.mono hb2.size)
          clear hb4
          go_wp2_with fail
          go_ret
          exact ⟨rfl, hx2⟩
  · go_wp2_with fail
    go_ret
    exact ⟨rfl, hb2⟩
end Go.Proofs.Ytkfmkbmlhhdbpaa
