/- CutBack: the law's walk. -/
import Derived.Test.YtkfmkbmlhhdbpaaDoorLanB
namespace Go.Proofs.YtkfmkbmlhhdbpaaDoor
open Go.ChangeShapes Go.WideShapes Go.ChangeAt Go.RowKit Go.Joins
set_option linter.unusedVariables false
set_option linter.unusedSimpArgs false

/-- What stripes come to: their number, their sizes, all of them together. -/
theorem partsOf_facts {lg : Nat} (h0 : 0 < lg) : ∀ (m : Nat) (t : ByteArray), t.size ≤ m → (partsOf lg t).length = (t.size + lg - 1) / lg ∧ (∀ x ∈ partsOf lg t, 0 < x.size ∧ x.size ≤ lg) ∧ ((partsOf lg t).map (·.data.toList)).flatten = t.data.toList := by
  intro m
  induction m with
  | zero =>
    intro t ht
    have hz : t.size = 0 := by omega
    rw [partsOf_end hz]
    refine ⟨?_, by simp, ?_⟩
    · rw [hz, List.length_nil, Nat.zero_add]
      exact (Nat.div_eq_of_lt (by omega)).symm
    · have : t.data.toList = [] := List.eq_nil_of_length_eq_zero (by rw [str_len]; exact hz)
      rw [this]; rfl
  | succ m ih =>
    intro t ht
    by_cases hz : 0 < t.size
    · rw [partsOf_step hz h0]
      have hs : (t.extract (min t.size lg) t.size).size = t.size - min t.size lg := by rw [ByteArray.size_extract]; omega
      obtain ⟨i1, i2, i3⟩ := ih (t.extract (min t.size lg) t.size) (by omega)
      have hf : (t.extract 0 (min t.size lg)).size = min t.size lg := by rw [ByteArray.size_extract]; omega
      refine ⟨?_, ?_, ?_⟩
      · rw [List.length_cons, i1, hs]
        by_cases hl : t.size ≤ lg
        · rw [show min t.size lg = t.size by omega, Nat.sub_self, Nat.zero_add, Nat.div_eq_of_lt (by omega)]
          have : t.size + lg - 1 = (t.size - 1) + 1 * lg := by omega
          rw [this, Nat.add_mul_div_right _ _ h0, Nat.div_eq_of_lt (by omega)]
        · rw [show min t.size lg = lg by omega]
          have : t.size + lg - 1 = (t.size - lg + lg - 1) + 1 * lg := by omega
          rw [this, Nat.add_mul_div_right _ _ h0]
      · intro x hx
        rcases List.mem_cons.1 hx with rfl | hx
        · rw [hf]; omega
        · exact i2 x hx
      · rw [List.map_cons, List.flatten_cons, i3, extract_list, extract_list, List.drop_zero, Nat.sub_zero]
        rw [List.take_of_length_le (l := t.data.toList.drop (min t.size lg)) (by rw [List.length_drop, str_len]; exact Nat.le_refl _)]
        exact List.take_append_drop _ _
    · have hz : t.size = 0 := by omega
      rw [partsOf_end hz]
      refine ⟨?_, by simp, ?_⟩
      · rw [hz, List.length_nil, Nat.zero_add]
        exact (Nat.div_eq_of_lt (by omega)).symm
      · have : t.data.toList = [] := List.eq_nil_of_length_eq_zero (by rw [str_len]; exact hz)
        rw [this]; rfl
/-- The first so many stripes, together. -/
def allTo (P : List ByteArray) (j : Nat) : ByteArray := strL (((P.take j).map (·.data.toList)).flatten)
theorem allTo_next {P : List ByteArray} {j : Nat} {x : ByteArray} (h : P[j]? = some x) : allTo P (j + 1) = allTo P j ++ x := by
  obtain ⟨hj, rfl⟩ := List.getElem?_eq_some_iff.1 h
  unfold allTo
  rw [List.take_succ_eq_append_getElem hj, List.map_append, List.flatten_append]
  apply bytes_ext
  rw [bytes_app, data_strL, data_strL]
  simp
/-- A stripe laid and joined is it. -/
theorem join_back {k z : Nat} {x : ByteArray} (h : x.size ≤ k * z) : joinS (joinB (lanesB k z x)) x.size = x ∧ joinE (joinB (lanesB k z x)) x.size = 0 := by
  rw [join_lanes h]
  unfold joinS joinE
  rw [if_pos (pad_tail _ _), if_pos (pad_tail _ _)]
  exact ⟨pad_front _ _, rfl⟩

set_option maxRecDepth 100000 in
set_option maxHeartbeats 8000000 in
theorem cutBack_walk {c0 c1 c2 : Value} {N : Int} {S : List T3} {L : List ByteArray} {Bs : List Bool} (w : World) (q : Ask7 w c0 c1 c2 N S L Bs) :
    Calls Tryd.prog 4 #[.agg #[c0, c1, c2, .int .i64 N]] w fun e w' => e = .returned (.bool true) ∧ Below w.heap.size w w' := by
  obtain ⟨hbel, hc0, hc1, hc2, hc3, hsz⟩ := box4_facts w c0 c1 c2 (.int .i64 N) 28
  have q2 := q.below hbel
  go_enter Tryd.func4, Tryd.ntmps4
  go_wp2_with fail
  refine (heavy4_any c0 c1 c2 S L Bs _ q2.hS q2.hL q2.hB q2.hS2).mono ?_
  rintro e w1 ⟨bo, hbo, rfl, hb1⟩
  have HS := Lib.hid (q2.hS.below hb1)
  have HLT := Lib.hid (q2.hL.below hb1)
  have g0 := below_cellj hc0 hsz hb1
  have g1 := below_cellj hc1 hsz hb1
  have hb2 := hbel.trans (hb1.mono hbel.size)
  have hlt0 : w.heap.size < w1.heap.size := by have := hb1.size; rw [hsz] at this; omega
  obtain ⟨pS, kS, rfl⟩ := q2.hS.len
  obtain ⟨pL, kL, rfl, hL16, hLs, hLc⟩ := q2.hL
  have hSl := q2.hS2
  have HLC := Lib.hid (hLc.below hb1)
  have HLS := Lib.hid hLs
  clear hb1 hbo hc0 hc1 hc2 hc3 q2 q hsz hbel hLs hLc
  generalize hB0 : w.heap.size = B0 at g0 g1 hlt0
  cases bo
  · go_wp2_with fail
    go_loopw [3] (fun f wr => ∃ k : Nat, f = .int .i64 k ∧ k ≤ 4 ∧ Below w1.heap.size w1 wr) (fun f _ => 4 - (intOf f).toNat)
    case atStart => exact ⟨0, rfl, by omega, Below.refl _ _⟩
    case round =>
      obtain ⟨k, rfl, hk4, hwr⟩ := hrel
      have r0 := below_celllt g0 hlt0 hwr
      by_cases hlt : k < S.length ∧ k < 4
      · obtain ⟨hl1, hl2⟩ := hlt
        obtain ⟨bs, os, cs, es, s, hs, s0, s1, s2⟩ := (HS.out.below hwr).at_ hl1
        cases es
        obtain ⟨sk, sm, sz⟩ := s
        simp only at s0 s1 s2
        have hk4d : decide ((k : Int) < 4) = true := by simp; omega
        obtain ⟨wo, rfl⟩ : ∃ wo : World, wo = wr := ⟨_, rfl⟩
        go_wp2_with fail
        obtain ⟨hbx, t0, t1, t2, ht3⟩ := box3_facts wo (.int .i64 sk) (.int .i64 sm) (.int .i64 sz) 31
        have hwV := hwr.trans (hbx.mono hwr.size)
        generalize hV : wo.alloc (.cells #[.int .i64 sk, .int .i64 sm, .int .i64 sz] 31) = V at *
        generalize hBo : wo.heap.size = Bo at *
        have hltV : Bo < V.heap.size := by omega
        have HSH : Hid (∀ W', Below V.heap.size V W' → (W'.cell? ⟨Bo, 0, none⟩ = some (.int .i64 sk) ∧ W'.cell? ⟨Bo, 1, none⟩ = some (.int .i64 sm) ∧ W'.cell? ⟨Bo, 2, none⟩ = some (.int .i64 sz))) := fun W' h => ⟨below_celllt t0 hltV h, below_celllt t1 hltV h, below_celllt t2 hltV h⟩
        have HLV : Hid (∀ W', Below V.heap.size V W' → W'.cell? ⟨B0, 1, none⟩ = some (.slice pL L.length kL)) := fun W' h => below_celllt g1 hlt0 (hwV.trans (h.mono hwV.size))
        have HTV : Hid (∀ W', Below V.heap.size V W' → SliceIn W' pL L.length (fun i => .string (L.getD i ByteArray.empty))) := fun W' h => HLC.out.below (hwV.trans (h.mono hwV.size))
        clear hbx t0 t1 t2 ht3 s0 s1 s2 r0 hwr
        go_loopw [5] (fun f wr => ∃ j : Nat, f = .int .i64 j ∧ j ≤ 4 ∧ Below V.heap.size V wr) (fun f _ => 4 - (intOf f).toNat)
        case atStart => exact ⟨0, rfl, by omega, Below.refl _ _⟩
        case round =>
          obtain ⟨j, rfl, hj4, hcV⟩ := hrel
          have y3 := HLV.out _ hcV
          obtain ⟨y0, y1, y2⟩ := HSH.out _ hcV
          by_cases hjl : j < L.length ∧ j < 4
          · obtain ⟨hj1, hj2⟩ := hjl
            have hj4d : decide ((j : Int) < 4) = true := by simp; omega
            obtain ⟨bt, ot, t, rfl, htz, _, htc⟩ := text_at (HTV.out _ hcV) HLS.out hj1
            have j0 : (0 : Int) ≤ (j : Int) := by omega
            have j1 : (j : Int) < (L.length : Int) := by omega
            cases hmay : (mayB (sk, sm, sz) && decide (t.size ≤ 2000))
            · have eE : partsErr sk sm sz t = 1 ∨ partsErr sk sm sz t = 2 := by
                unfold partsErr
                cases hm : mayB (sk, sm, sz)
                · left; rfl
                · right
                  rw [hm, Bool.true_and] at hmay
                  rw [if_pos rfl, if_neg (of_decide_eq_false hmay)]
              clear hmay
              rcases eE with eE | eE
              all_goals
                go_wp2_with (first
                  | (go_at_call 18; refine (cutParts_any _ _ _ _ _ htz).mono ?_; rintro e w2 ⟨v2, rfl, hst2, hwz⟩; obtain ⟨A2, c2, rfl⟩ := hst2.len; clear hst2; replace hcV := hcV.trans (hwz.mono hcV.size); rw [eE])
                  | (go_at_call 11; refine (num7_any _ _).mono ?_; rintro e wn ⟨rfl, rfl⟩))
                go_roundw
                case rel => exact ⟨j + 1, by go_num, by omega, hcV⟩
                case measure => simp [intOf]; omega
            · rw [Bool.and_eq_true] at hmay
              obtain ⟨hmb, ht2⟩ := hmay
              have ht2 := of_decide_eq_true ht2
              obtain ⟨lg, hlg, hlg1, hlg2, k1, k8, m0, m6, z1, z120⟩ := lg_facts hmb
              have eE : partsErr sk sm sz t = 0 := by unfold partsErr; rw [if_pos hmb, if_pos ht2]
              have eP : partsWant sk sm sz t = partsOf lg t := by
                unfold partsWant
                rw [hmb, decide_eq_true ht2, hlg]; rfl
              obtain ⟨f1, f2, f3⟩ := partsOf_facts (lg := lg) (by omega) t.size t (Nat.le_refl _)
              have eS : strE sk sm sz (t.size : Int) = 0 ∧ strV sk sm sz (t.size : Int) = ((partsOf lg t).length : Int) := by
                have hok : stripesOk sk sm sz (t.size : Int) = true := by
                  unfold stripesOk; rw [hmb, decide_eq_true (by omega)]; rfl
                unfold strE strV stripesV
                rw [if_pos hok, if_pos hok, f1, hlg, Int.toNat_natCast, Int.toNat_natCast]
                exact ⟨rfl, rfl⟩
              obtain ⟨eS1, eS2⟩ := eS
              have HP : Hid ((∀ x ∈ partsOf lg t, 0 < x.size ∧ x.size ≤ lg) ∧ allTo (partsOf lg t) (partsOf lg t).length = t) := by
                refine ⟨f2, ?_⟩
                unfold allTo
                rw [List.take_length, f3, strL_data]
              have hPl : (partsOf lg t).length ≤ t.size := partsOf_length lg t
              obtain ⟨P, hP⟩ : ∃ P, partsOf lg t = P := ⟨_, rfl⟩
              rw [hP] at eP eS2 HP hPl
              have hne : ((P.length : Int) != (P.length : Int)) = false := by simp
              clear f1 f2 f3 hP
              go_wp2_with (first
                | (go_at_call 18; refine (cutParts_any _ _ _ _ _ htz).mono ?_; rintro e w2 ⟨v2, rfl, hst2, hwz⟩; rw [eP] at hst2; obtain ⟨A2, c2, rfl⟩ := hst2.len; replace hcV := hcV.trans (hwz.mono hcV.size); clear hwz y0 y1 y2 y3 htc; obtain ⟨y0, y1, y2⟩ := HSH.out _ hcV; have HX : Hid (∀ w', Below w2.heap.size w2 w' → StrsIn w' (.slice A2 P.length c2) P) := (fun w' h => hst2.below h); clear hst2; have hcC := Below.refl w2.heap.size w2; rw [eE])
                | (go_at_call 19; refine (cutStripes_any _ _ _ _ _).mono ?_; rintro e w3 ⟨rfl, hwz⟩; replace hcV := hcV.trans (hwz.mono hcV.size); replace hcC := hcC.trans (hwz.mono hcC.size); clear hwz y0 y1 y2; rw [eS1, eS2])
                | (go_at_call 11; refine (num7_any _ _).mono ?_; rintro e wn ⟨rfl, rfl⟩))
              have HCV := Lib.hid hcV
              clear eE eP eS1 eS2 hne hcV
              generalize hNC : w2.heap.size = NC at *
              go_loopw [11, 12] (fun a f wx => ∃ n : Nat, a = .string (allTo P n) ∧ f = .int .i64 n ∧ n ≤ P.length ∧ (allTo P n).size ≤ 960 * n ∧ Below NC w2 wx ∧ Below V.heap.size V wx) (fun _ f _ => P.length - (intOf f).toNat)
              case atStart => exact ⟨0, rfl, rfl, by omega, by unfold allTo; rw [strL_size]; simp, hcC, HCV.out⟩
              case round =>
                clear hcC HCV
                obtain ⟨n, rfl, rfl, hn, hns, hcC, hcV⟩ := hrel
                by_cases hlt : n < P.length
                · obtain ⟨bb, oo, cc, ee, x, hx, hxc⟩ := (HX.out _ hcC).at_ hlt
                  cases ee
                  obtain ⟨y0, y1, y2⟩ := HSH.out _ hcV
                  obtain ⟨x0, x1⟩ := HP.out.1 x (List.mem_of_getElem? hx)
                  have hnx := Lib.hid (allTo_next hx)
                  have hxk : x.size ≤ sk.toNat * sz.toNat := by
                    have : ((sk.toNat * sz.toNat : Nat) : Int) = (lg : Int) := by
                      rw [← hlg]
                      push_cast
                      rw [Int.toNat_of_nonneg (by omega), Int.toNat_of_nonneg (by omega)]
                    omega
                  have hkz : sk.toNat * sz.toNat = (sk * sz).toNat := by
                    have : ((sk.toNat * sz.toNat : Nat) : Int) = (lg : Int) := by
                      rw [← hlg]
                      push_cast
                      rw [Int.toNat_of_nonneg (by omega), Int.toNat_of_nonneg (by omega)]
                    omega
                  have hxl : x.size ≤ (sk * sz).toNat := by omega
                  have HLN : Hid ((lanesB sk.toNat sz.toNat x).length = sk.toNat ∧ (∀ y ∈ lanesB sk.toNat sz.toNat x, y.size = sz.toNat) ∧ (joinB (lanesB sk.toNat sz.toNat x)).size = (sk * sz).toNat ∧ joinS (joinB (lanesB sk.toNat sz.toNat x)) x.size = x ∧ joinE (joinB (lanesB sk.toNat sz.toNat x)) x.size = 0) :=
                    ⟨lanesB_len _ _ _, lanesB_size hxk, by rw [join_lanes hxk, padB_size hxk, hkz], (join_back hxk).1, (join_back hxk).2⟩
                  obtain ⟨Ln, hLn⟩ : ∃ Ln, lanesB sk.toNat sz.toNat x = Ln := ⟨_, rfl⟩
                  rw [hLn] at HLN
                  have hlk : ((Ln.length : Int) != sk) = false := by rw [HLN.out.1, Int.toNat_of_nonneg (by omega)]; simp
                  have n0 : (0 : Int) ≤ (n : Int) := by omega
                  have n1 : (n : Int) < (P.length : Int) := by omega
                  have a1 : (allTo P n ++ x).size ≤ 960 * n + 960 := by rw [app_size]; omega
                  obtain ⟨wi, rfl⟩ : ∃ wo : World, wo = wr := ⟨_, rfl⟩
                  have HK : Hid (∀ W', Below wi.heap.size wi W' → (W'.cell? ⟨Bo, 0, none⟩ = some (.int .i64 sk) ∧ W'.cell? ⟨Bo, 1, none⟩ = some (.int .i64 sm) ∧ W'.cell? ⟨Bo, 2, none⟩ = some (.int .i64 sz) ∧ W'.cell? ⟨bb, oo + n, none⟩ = some (.string x))) := fun W' h => ⟨below_celllt y0 (cell_block y0) h, below_celllt y1 (cell_block y1) h, below_celllt y2 (cell_block y2) h, below_celllt hxc (cell_block hxc) h⟩
                  have HXN := Lib.hid hx
                  clear hx hkz hxk
                  go_wp2_with fail
                  go_region_held3 (fun W' => W'.cell? ⟨Bo, 0, none⟩ = some (.int .i64 sk) ∧ W'.cell? ⟨Bo, 1, none⟩ = some (.int .i64 sm) ∧ W'.cell? ⟨Bo, 2, none⟩ = some (.int .i64 sz) ∧ W'.cell? ⟨bb, oo + n, none⟩ = some (.string x)) (first | go_keep | exact HK.out _ (below_of_drew (by assumption)))
                    (first | (go_at_call 8; refine (cutLanes_yes _ _ _ _ _ hmb x0 hxl).mono ?_; rintro e w4 ⟨v4, rfl, hst4, hcap4, hbs⟩; rw [hLn] at hst4))
                  obtain ⟨A4, c4, rfl⟩ := hst4.len
                  have hw4 := below_of_drew hbs
                  have hcC4 := hcC.trans (hw4.mono (by have := hcC.size; omega))
                  have hcV4 := hcV.trans (hw4.mono hcV.size)
                  obtain ⟨y0, y1, y2⟩ := HSH.out _ hcV4
                  obtain ⟨bb', oo', cc', ee', x', hx', hxc⟩ := (HX.out _ hcC4).at_ hlt
                  cases ee'
                  rw [HXN.out] at hx'
                  cases hx'
                  clear hbs hw4 HK hcC hcV
                  go_upto_region 21 with fail
                  have HK2 : Hid (∀ W', Below w4.heap.size w4 W' → (W'.cell? ⟨Bo, 0, none⟩ = some (.int .i64 sk) ∧ W'.cell? ⟨Bo, 1, none⟩ = some (.int .i64 sm) ∧ W'.cell? ⟨Bo, 2, none⟩ = some (.int .i64 sz) ∧ W'.cell? ⟨bb, oo + n, none⟩ = some (.string x))) := fun W' h => ⟨below_celllt y0 (cell_block y0) h, below_celllt y1 (cell_block y1) h, below_celllt y2 (cell_block y2) h, below_celllt hxc (cell_block hxc) h⟩
                  have HX4 : Hid (∀ W', Below w4.heap.size w4 W' → StrsIn W' (.slice A4 Ln.length c4) Ln) := fun W' h => hst4.below h
                  have HCAP := Lib.hid hcap4
                  clear hst4 hcap4
                  go_region_held3 (fun W' => W'.cell? ⟨Bo, 0, none⟩ = some (.int .i64 sk) ∧ W'.cell? ⟨Bo, 1, none⟩ = some (.int .i64 sm) ∧ W'.cell? ⟨Bo, 2, none⟩ = some (.int .i64 sz) ∧ W'.cell? ⟨bb, oo + n, none⟩ = some (.string x)) (first | go_keep | exact HK2.out _ (below_of_drew (by assumption)))
                    (first | (go_at_call 14; refine (cutJoin_yes _ _ _ _ Ln x.size _ hmb (HX4.out _ (Below.drew (Below.refl _ _))) HCAP.out HLN.out.1 HLN.out.2.1 HLN.out.2.2.1 x0 hxl).mono ?_; rintro e w5 ⟨rfl, hbs⟩; rw [HLN.out.2.2.2.1, HLN.out.2.2.2.2]))
                  have hw5 := below_of_drew hbs
                  have hcC5 := hcC4.trans (hw5.mono (by have := hcC4.size; omega))
                  have hcV5 := hcV4.trans (hw5.mono hcV4.size)
                  obtain ⟨y0, y1, y2⟩ := HSH.out _ hcV5
                  clear hbs hw5 HK2 hcC4 hcV4
                  go_wp2_with (go_at_call 11; refine (num7_any _ _).mono ?_; rintro e wn ⟨rfl, rfl⟩)
                  go_roundw
                  case rel => exact ⟨n + 1, by rw [hnx.out], by go_num, by omega, by rw [hnx.out]; omega, hcC5, hcV5⟩
                  case measure => simp [intOf]; omega
                · have hnl : n = P.length := by omega
                  have hall : allTo P n = t := by rw [hnl]; exact HP.out.2
                  rw [hall]
                  go_wp2_with fail
                  go_roundw
                  case rel => exact ⟨j + 1, by go_num, by omega, hcV⟩
                  case measure => simp [intOf]; omega
          · have hjd : (decide ((j : Int) < (L.length : Int)) && decide ((j : Int) < 4)) = false := by simp; omega
            have hnx := hwV.trans (hcV.mono hwV.size)
            by_cases h3 : j < L.length
            all_goals
              go_wp2_with fail
              go_roundw
              case rel => exact ⟨k + 1, by go_num, by omega, hnx⟩
              case measure => simp [intOf]; omega
      · have hkd : (decide ((k : Int) < (S.length : Int)) && decide ((k : Int) < 4)) = false := by simp; omega
        have hfin := hb2.trans (hwr.mono hb2.size)
        by_cases h3 : k < S.length
        all_goals
          go_wp2_with (go_at_call 17; refine (wakes7_any _).mono ?_; rintro e wz ⟨rfl, hwz⟩)
          go_ret
          exact ⟨by first | rfl | simp, by have h := hfin.trans (hwz.mono hfin.size); first | exact h | (rw [hB0] at *; exact h)⟩
  · go_wp2_with fail
    go_ret
    exact ⟨rfl, hb2⟩
end Go.Proofs.YtkfmkbmlhhdbpaaDoor
