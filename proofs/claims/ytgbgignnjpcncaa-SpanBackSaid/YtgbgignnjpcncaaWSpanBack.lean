/- SpanBack, walked. -/
import Derived.Test.YtgbgignnjpcncaaTakeB
import Derived.Test.YtgbgignnjpcncaaSpanBk
namespace Go.Proofs.Ytgbgignnjpcncaa
open Go.ChangeShapes Go.WideShapes Go.ChangeAt Go.RowKit Go.Joins
set_option linter.unusedVariables false
set_option linter.unusedSimpArgs false

theorem below_drew {B : Nat} {a w : World} (h : Below B a w) : Below B a w.drew := h.trans ⟨rfl, rfl, rfl, Nat.le_refl _, fun _ _ => rfl⟩
theorem below_of_drew {w w' : World} (h : Below w.drew.heap.size w.drew w') : Below w.heap.size w w' :=
  (show Below w.heap.size w w.drew from ⟨rfl, rfl, rfl, Nat.le_refl _, fun _ _ => rfl⟩).trans h
theorem total_mem {ss : List ByteArray} {s : ByteArray} (h : s ∈ ss) : s.size ≤ total ss := by
  obtain ⟨i, hi, rfl⟩ := List.getElem_of_mem h
  have := total_get hi
  rwa [← List.getElem_eq_getD (h := hi)] at this

/-- What the parts of a piece take of a text's stripes. -/
theorem take_back (va vb : Value) (t : ByteArray) (lg e a : Nat) (w : World) (ha : StrsIn w va (partsOf lg t)) (hb : ThreesIn w vb (spanOf lg e a)) (hlg : 0 < lg) (hae : a ≤ e) (he : e ≤ t.size) (ht : t.size ≤ 2000) :
    Calls Try.prog 17 #[va, vb] w fun x w' => x = .returned (.tuple #[.string (t.extract a e), .int .i64 0]) ∧ Below w.heap.size w w' := by
  obtain ⟨h1, h2⟩ := back_plain t hlg e he a hae
  have eS : takeS (partsOf lg t) (spanOf lg e a) = t.extract a e := by simp only [takeS, h1, if_true, h2]
  have eE : takeE (partsOf lg t) (spanOf lg e a) = 0 := by simp only [takeE, h1, if_true]
  have h3 := spanOf_length lg e a
  have h4 := take_any va vb _ _ w ha hb (fun s hs => Nat.le_trans (partsOf_size t s hs) (by omega)) (by omega)
  rw [eS, eE] at h4
  exact h4

set_option maxRecDepth 100000 in
set_option maxHeartbeats 8000000 in
theorem spanBack_walk {c0 c1 c2 c6 : Value} {N A B : Int} {S : List T3} {L : List ByteArray} {Bs : List Bool} {Ps : List T3} (w : World) (q : Ask8 w c0 c1 c2 c6 N A B S L Bs Ps) :
    Calls Try.prog 6 #[.agg #[c0, c1, c2, .int .i64 N, .int .i64 A, .int .i64 B, c6]] w fun e w' => e = .returned (.bool true) ∧ Below w.heap.size w w' := by
  obtain ⟨hbel, hc0, hc1, hc2, hc3, hc4, hc5, hc6, hsz⟩ := box7_facts w c0 c1 c2 (.int .i64 N) (.int .i64 A) (.int .i64 B) c6 29
  have q2 := q.below hbel
  go_enter Try.func6, Try.ntmps6
  go_wp2_with fail
  refine (heavy8_any q2).mono ?_
  rintro e w1 ⟨bo, hbo, rfl, hb1⟩
  have q3 := q2.below hb1
  have g0 := below_cellj hc0 hsz hb1
  have g1 := below_cellj hc1 hsz hb1
  have g4 := below_cellj hc4 hsz hb1
  have g5 := below_cellj hc5 hsz hb1
  have hb2 := hbel.trans (hb1.mono hbel.size)
  have hlt0 : w.heap.size < w1.heap.size := by have := hb1.size; rw [hsz] at this; omega
  obtain ⟨pS, kS, rfl⟩ := q3.hS.len
  obtain ⟨pL, kL, e1, _, _, _⟩ := id q3.hL
  subst e1
  have HSI := Lib.hid q3.hS
  have HLI := Lib.hid (strsIn_of q3.hL)
  have hSl := q3.hS2
  clear hb1 hc0 hc1 hc2 hc3 hc4 hc5 hc6 q3 q2 q hsz hbel
  generalize hB0 : w.heap.size = B0 at g0 g1 g4 g5 hlt0
  cases bo
  · obtain ⟨hT, _, hS50, _⟩ := hbo rfl
    have HM : Hid (∀ s ∈ L, s.size ≤ 4000) := fun s hs => Nat.le_trans (total_mem hs) hT
    have hLl : L.length ≤ 4000 := by unfold total at hT; omega
    clear hT hbo
    go_wp2_with fail
    go_loopw [3] (fun f wr => ∃ k : Nat, f = .int .i64 k ∧ k ≤ S.length ∧ k ≤ 4 ∧ Below w1.heap.size w1 wr) (fun f _ => 4 - (intOf f).toNat)
    case atStart => exact ⟨0, rfl, by omega, by omega, Below.refl _ _⟩
    case round =>
      obtain ⟨k, rfl, hk, hk4, hwr⟩ := hrel
      obtain ⟨wo, rfl⟩ : ∃ wo : World, wo = wr := ⟨_, rfl⟩
      have r0 := below_celllt g0 hlt0 hwr
      have hlt1 : B0 < wo.heap.size := Nat.lt_of_lt_of_le hlt0 hwr.size
      by_cases hlt : k < S.length ∧ k < 4
      · obtain ⟨hl1, hl2⟩ := hlt
        obtain ⟨bs, os, cs, es, s, hs, s0, s1, s2⟩ := (HSI.out.below hwr).at_ hl1
        cases es
        obtain ⟨sk, sm, sz⟩ := s
        simp only at s0 s1 s2
        have hk4d : decide ((k : Int) < 4) = true := by simp; omega
        go_wp2_with fail
        obtain ⟨hbx, t0, t1, t2, ht3⟩ := box3_facts wo (.int .i64 sk) (.int .i64 sm) (.int .i64 sz) 32
        generalize wo.alloc (.cells #[.int .i64 sk, .int .i64 sm, .int .i64 sz] 32) = V at *
        have hwV := hwr.trans (hbx.mono hwr.size)
        generalize hBo : wo.heap.size = Bo at *
        clear hbx s0 s1 s2 r0 hlt1
        refine (refShape_any _ _ _ _).mono ?_
        rintro e w4 ⟨rfl, hb4⟩
        have y0 := below_cellj t0 ht3 hb4
        have y1 := below_cellj t1 ht3 hb4
        have y2 := below_cellj t2 ht3 hb4
        have hw4 := hwV.trans (hb4.mono hwV.size)
        have hltB : Bo < w4.heap.size := by have := hb4.size; omega
        have hlt4 : B0 < w4.heap.size := Nat.lt_of_lt_of_le hlt0 hw4.size
        clear hb4 t0 t1 t2 hwV ht3
        cases hmb : mayB (sk, sm, sz)
        · go_wp2_with fail
          go_roundw
          case rel => exact ⟨k + 1, by go_num, by omega, by omega, hw4⟩
          case measure => simp [intOf]; omega
        · have HMB := Lib.hid hmb
          clear hmb
          go_wp2_with fail
          go_loopw [5] (fun f wr => ∃ j : Nat, f = .int .i64 j ∧ j ≤ L.length ∧ j ≤ 4 ∧ Below w4.heap.size w4 wr) (fun f _ => 4 - (intOf f).toNat)
          case atStart => exact ⟨0, rfl, by omega, by omega, Below.refl _ _⟩
          case round =>
            obtain ⟨j, rfl, hj, hj4, hwr2⟩ := hrel
            have hwx := hw4.trans (hwr2.mono hw4.size)
            have r1 := below_celllt g1 hlt0 hwx
            have r4 := below_celllt g4 hlt0 hwx
            have r5 := below_celllt g5 hlt0 hwx
            have x0 := below_celllt y0 hltB hwr2
            have x1 := below_celllt y1 hltB hwr2
            have x2 := below_celllt y2 hltB hwr2
            by_cases hlj : j < L.length ∧ j < 4
            · obtain ⟨hl3, hl4⟩ := hlj
              obtain ⟨ba, oa, ca, ea, t, ht, a0⟩ := (HLI.out.below hwx).at_ hl3
              cases ea
              have hj4d : decide ((j : Int) < 4) = true := by simp; omega
              have hts : t.size ≤ 4000 := HM.out t (List.mem_of_getElem? ht)
              clear ht
              by_cases ht2 : t.size ≤ 2000
              · obtain ⟨a, ha, ha1, ha2⟩ : ∃ a : Nat, withinI A (t.size + 1) = a ∧ 0 ≤ a ∧ a < t.size + 1 := ⟨(withinI A (t.size + 1)).toNat, by have := within_bd A (t.size + 1) (by omega) (by omega); omega, by omega, by have := within_bd A (t.size + 1) (by omega) (by omega); omega⟩
                obtain ⟨b, hb, hbb1, hbb2⟩ : ∃ a : Nat, withinI B (t.size + 3) = a ∧ 0 ≤ a ∧ a < t.size + 3 := ⟨(withinI B (t.size + 3)).toNat, by have := within_bd B (t.size + 3) (by omega) (by omega); omega, by omega, by have := within_bd B (t.size + 3) (by omega) (by omega); omega⟩
                go_wp2_with (go_at_call 8; refine (within_any _ _ _ (by omega) (by omega)).mono ?_; rintro e w' ⟨rfl, rfl⟩)
                obtain ⟨lg, hlg, hlg1, hlg2, _⟩ := lg_facts HMB.out
                refine (parts_yes sk sm sz t.size a b _ HMB.out (by omega) (by omega) (by omega) (by omega) (by omega) (by omega)).mono ?_
                rintro e w5 ⟨v, rfl, hv, hb5⟩
                rw [hlg, Int.toNat_natCast, Int.toNat_natCast] at hv
                have HLG := Lib.hid hlg
                have HV := Lib.hid hv
                have hw5 := hwr2.trans (hb5.mono hwr2.size)
                clear hb5 hv r1 r4 r5 x0 x1 x2 a0 hwr2 hwx hlg
                have x0 := below_celllt y0 hltB hw5
                have x1 := below_celllt y1 hltB hw5
                have x2 := below_celllt y2 hltB hw5
                go_wp2_with fail
                refine (refParts_yes sk sm sz t _ HMB.out ht2).mono ?_
                rintro e w6 ⟨v2, rfl, hv2, hb6⟩
                rw [HLG.out, Int.toNat_natCast] at hv2
                have HV2 := Lib.hid hv2
                have HV6 := Lib.hid (HV.out.below hb6)
                have hw6 := hw5.trans (hb6.mono hw5.size)
                clear hb6 hv2 x0 x1 x2 hw5 HV
                have he : endOf t.size a b = (min (t.size : Int) ((a : Int) + (b : Int))).toNat := by unfold endOf; omega
                have h6 := HV6.out
                rw [he] at h6
                have H6 := Lib.hid h6
                clear h6 he
                go_wp2_with fail
                refine (take_back _ _ t lg (min (t.size : Int) ((a : Int) + (b : Int))).toNat a _ HV2.out H6.out (by omega) (by omega) (by omega) ht2).mono ?_
                rintro e w7 ⟨rfl, hb7⟩
                have hw7 := hw6.trans (hb7.mono hw6.size)
                clear hb7
                go_wp2_with (go_at_call 13; refine (num8_any _ _).mono ?_; rintro e w' ⟨rfl, rfl⟩)
                all_goals
                  go_roundw
                  case rel => exact ⟨j + 1, by go_num, by omega, by omega, hw7⟩
                  case measure => simp [intOf]; omega
              · go_wp2_with fail
                go_roundw
                case rel => exact ⟨j + 1, by go_num, by omega, by omega, hwr2⟩
                case measure => simp [intOf]; omega
            · by_cases hl3 : j < L.length
              · have hj4d : decide ((j : Int) < 4) = false := by simp; omega
                go_wp2_with fail
                go_roundw
                case rel => exact ⟨k + 1, by go_num, by omega, by omega, hwx⟩
                case measure => simp [intOf]; omega
              · go_wp2_with fail
                go_roundw
                case rel => exact ⟨k + 1, by go_num, by omega, by omega, hwx⟩
                case measure => simp [intOf]; omega
      · by_cases hl1 : k < S.length
        · have hkd : decide ((k : Int) < 4) = false := by simp; omega
          go_wp2_with fail
          refine (wakes8_any _).mono ?_
          rintro e w3 ⟨rfl, hb4⟩
          have hx := hwr.trans (hb4.mono hwr.size)
          have hx2 := hb2.trans (hx.mono hb2.size)
          clear hb4
          go_wp2_with fail
          go_ret
          exact ⟨rfl, hx2⟩
        · go_wp2_with fail
          refine (wakes8_any _).mono ?_
          rintro e w3 ⟨rfl, hb4⟩
          have hx := hwr.trans (hb4.mono hwr.size)
          have hx2 := hb2.trans (hx.mono hb2.size)
          clear hb4
          go_wp2_with fail
          go_ret
          exact ⟨rfl, hx2⟩
  · go_wp2_with fail
    go_ret
    exact ⟨rfl, hb2⟩
end Go.Proofs.Ytgbgignnjpcncaa
