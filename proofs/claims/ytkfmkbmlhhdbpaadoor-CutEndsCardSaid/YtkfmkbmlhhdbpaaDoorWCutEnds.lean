/- CutEnds: the law's walk. -/
import Derived.Test.YtkfmkbmlhhdbpaaDoorWCutBack
import Derived.Test.YtkfmkbmlhhdbpaaDoorStrs
namespace Go.Proofs.YtkfmkbmlhhdbpaaDoor
open Go.ChangeShapes Go.WideShapes Go.ChangeAt Go.RowKit Go.Joins
set_option linter.unusedVariables false
set_option linter.unusedSimpArgs false

theorem within_ex (i n : Int) (w : World) (h0 : 0 < n) (h1 : n ≤ 1000) :
    Calls Tryd.prog 20 #[.int .i64 i, .int .i64 n] w fun e w' => (∃ a c : Nat, e = .returned (.int .i64 (a : Int)) ∧ IntKind.i64.wrap (1 + (a : Int)) = (c : Int) ∧ 1 ≤ c ∧ (c : Int) ≤ n) ∧ w = w' := by
  refine (within_any i n w h0 (by omega)).mono fun e w' ⟨he, hw⟩ => ⟨?_, hw⟩
  obtain ⟨b0, b1⟩ := within_bd i n h0 (by omega)
  refine ⟨(withinI i n).toNat, 1 + (withinI i n).toNat, by rw [he, Int.toNat_of_nonneg b0], ?_, by omega, by omega⟩
  rw [IntWalk.i64_in _ (by omega)]
  omega
/-- Bytes 1, 2, .., so far. -/
def fillL (n k : Nat) : List Nat := (List.range n).map fun i => if i < k then i + 1 else 0
theorem fillL_length (n k : Nat) : (fillL n k).length = n := by simp [fillL]
theorem fillL_next {n k : Nat} (hk : k < n) : (fillL n k).set k (k + 1) = fillL n (k + 1) := by
  apply List.ext_getElem
  · simp [fillL]
  · intro i h1 h2
    rw [List.getElem_set]
    simp only [fillL, List.getElem_map, List.getElem_range]
    by_cases e : k = i
    · subst e; simp
    · rw [if_neg e]
      by_cases h : i < k
      · rw [if_pos h, if_pos (by omega)]
      · rw [if_neg h, if_neg (by omega)]
theorem fillL_zero (n : Nat) : fillL n 0 = List.replicate n 0 := by
  apply List.ext_getElem
  · simp [fillL]
  · intro i h1 h2; simp [fillL]
theorem bytesBlk_zero (w : World) (n : Nat) (T : TypeId) : BytesBlk (w.alloc (.cells (cellsOf8 (List.replicate n 0)) T)) w.heap.size (List.replicate n 0) := by
  intro i hi
  rw [List.length_replicate] at hi
  have hg : (List.replicate n 0).getD i 0 = 0 := by simp [List.getD, hi]
  refine ⟨by rw [hg]; decide, ?_, ?_⟩
  · rw [cell_of_row _ _ _ _ _ _ (heap_alloc_new w _)]
    simp [cellsOf8, hi]
  · unfold World.frozen?
    rw [heap_alloc_new]
    simp
theorem bytesBlk_below {w w' : World} {B : Nat} {ns : List Nat} (h : BytesBlk w B ns) (hb : Below w.heap.size w w') : BytesBlk w' B ns := by
  intro i hi
  obtain ⟨h1, h2, h3⟩ := h i hi
  have e := hb.block B (cell_block h2)
  exact ⟨h1, by rw [World.cell?_of_block (a := ⟨B, i, none⟩) e]; exact h2, by rw [World.frozen?_of_block (a := ⟨B, i, none⟩) e]; exact h3⟩

set_option maxRecDepth 100000 in
set_option maxHeartbeats 8000000 in
theorem cutEnds_walk {c0 c1 c2 : Value} {N : Int} {S : List T3} {L : List ByteArray} {Bs : List Bool} (w : World) (q : Ask7 w c0 c1 c2 N S L Bs) :
    Calls Tryd.prog 5 #[.agg #[c0, c1, c2, .int .i64 N]] w fun e w' => e = .returned (.bool true) ∧ Below w.heap.size w w' := by
  obtain ⟨hbel, hc0, hc1, hc2, hc3, hsz⟩ := box4_facts w c0 c1 c2 (.int .i64 N) 28
  have q2 := q.below hbel
  have hN := q.hN
  go_enter Tryd.func5, Tryd.ntmps5
  go_wp2_with fail
  refine (heavy4_any c0 c1 c2 S L Bs _ q2.hS q2.hL q2.hB q2.hS2).mono ?_
  rintro e w1 ⟨bo, hbo, rfl, hb1⟩
  have g3 := below_cellj hc3 hsz hb1
  have hb2 := hbel.trans (hb1.mono hbel.size)
  have hlt0 : w.heap.size < w1.heap.size := by have := hb1.size; rw [hsz] at this; omega
  clear hb1 hbo hc0 hc1 hc2 hc3 q2 q hsz hbel
  generalize hB0 : w.heap.size = B0 at g3 hlt0
  cases bo
  · go_upto_region 3 with fail
    go_cut [3] from 19 to 28 (fun p wx => ∃ (Bo : Nat) (a z : Int), p = .pointer (some ⟨Bo, 0, none⟩) ∧ a ≤ 5 ∧ 1 ≤ a ∧ z ≤ 9 ∧ 1 ≤ z ∧ wx.cell? ⟨Bo, 0, none⟩ = some (.int .i64 a) ∧ wx.cell? ⟨Bo, 1, none⟩ = some (.int .i64 1) ∧ wx.cell? ⟨Bo, 2, none⟩ = some (.int .i64 z) ∧ Below w1.heap.size w1 wx)
    case first =>
      have hq : ∃ x : Int, N.tdiv 5 = x := ⟨_, rfl⟩
      go_region_with (first
        | (go_at_call 20; refine (within_ex _ _ _ (by omega) (by omega)).mono ?_; rintro e w' ⟨⟨a, c, rfl, hac, hc1, hc9⟩, rfl⟩))
      all_goals
        go_wp2_with fail
        go_meet
        rename_i a' c' e' l' u'
        first
          | exact ⟨w1.heap.size, (c' : Int), (c : Int), rfl, by omega, by omega, by omega, by omega, by simp [go_sem], by simp [go_sem], by simp [go_sem], ((Below.refl _ _).alloc (Nat.le_refl _) _).drew⟩
          | exact ⟨w1.heap.size, (c : Int), (c' : Int), rfl, by omega, by omega, by omega, by omega, by simp [go_sem], by simp [go_sem], by simp [go_sem], ((Below.refl _ _).alloc (Nat.le_refl _) _).drew⟩
    case rest =>
      obtain ⟨Bo, sk, sz, rfl, k5, k1, z9, z1, t0, t1, t2, hc1⟩ := hcut
      have hmb : mayB (sk, 1, sz) = true := by unfold mayB; rw [decide_eq_true]; simp only; omega
      obtain ⟨lg, hlg, l1, hlg2, k1, k8, m0, m6, z1, z120⟩ := lg_facts hmb
      have l45 : lg ≤ 45 := by
        have h2 : sk * sz ≤ 5 * 9 := Int.mul_le_mul k5 z9 (by omega) (by omega)
        omega
      have HSH : Hid (∀ W', Below wc.heap.size wc W' → (W'.cell? ⟨Bo, 0, none⟩ = some (.int .i64 sk) ∧ W'.cell? ⟨Bo, 1, none⟩ = some (.int .i64 1) ∧ W'.cell? ⟨Bo, 2, none⟩ = some (.int .i64 sz))) := fun W' h => ⟨below_celllt t0 (cell_block t0) h, below_celllt t1 (cell_block t1) h, below_celllt t2 (cell_block t2) h⟩
      obtain ⟨w3, h3, hw3⟩ : ∃ w3 : Nat, (3 : Int) * (lg : Int) = (w3 : Int) ∧ w3 ≤ 135 := ⟨3 * lg, by simp, by omega⟩
      go_wp2_with fail
      go_loopw [5] (fun f wr => ∃ n : Nat, f = .int .i64 n ∧ n ≤ w3 + 2 ∧ Below wc.heap.size wc wr) (fun f _ => w3 + 2 - (intOf f).toNat)
      case atStart => exact ⟨0, rfl, by omega, Below.refl _ _⟩
      case round =>
        clear t0 t1 t2
        obtain ⟨n, rfl, hn, hcV⟩ := hrel
        by_cases hle : n ≤ w3 + 1
        · have hdd : decide ((n : Int) ≤ (w3 : Int) + 1) = true := by simp; omega
          have hmk := hmk8 (n := n) (by omega)
          have hB1 := Lib.hid (bytesBlk_zero wr n 5)
          have hV1 := hcV.alloc hcV.size (.cells (cellsOf8 (List.replicate n 0)) 5)
          go_upto_region 9 with fail
          clear hmk
          generalize wr.alloc (.cells (cellsOf8 (List.replicate n 0)) 5) = V at *
          generalize hBx : wr.heap.size = Bx at *
          rw [← fillL_zero] at hB1
          have hVc : wc.heap.size ≤ Bx := by rw [← hBx]; exact hcV.size
          go_wp2_with fail
          go_loopw [7] (fun f wx => ∃ k : Nat, f = .int .i64 k ∧ k ≤ n ∧ Hid (BytesBlk wx Bx (fillL n k)) ∧ Hid (Below wc.heap.size wc wx)) (fun f _ => n - (intOf f).toNat)
          case atStart => exact ⟨0, rfl, by omega, hB1, hV1⟩
          case round =>
            clear hB1 hV1
            obtain ⟨k, rfl, hk, HB, HV⟩ := hrel
            by_cases hkn : k < n
            · obtain ⟨_, d2, d3⟩ := HB.out k (by rw [fillL_length]; exact hkn)
              have hw8 : IntKind.u8.wrap ((k : Int) + 1) = ((k + 1 : Nat) : Int) := by rw [IntKind.wrap_u8]; omega
              have HB2 : Hid (BytesBlk (wr.setCell ⟨Bx, k, none⟩ (.int .u8 ((k + 1 : Nat) : Int))) Bx (fillL n (k + 1))) := by
                rw [Hid, ← fillL_next hkn]
                exact HB.out.next (by omega)
              have HV2 := Lib.hid (HV.out.setCell (p := ⟨Bx, k, none⟩) hVc (.int .u8 ((k + 1 : Nat) : Int)))
              have q0 : (0 : Int) ≤ (k : Int) := by omega
              have q1 : (k : Int) < (n : Int) := by omega
              go_wp2_with fail
              go_roundw
              case rel => exact ⟨k + 1, by go_num, by omega, HB2.out, HV2.out⟩
              case measure => simp [intOf]; omega
            · have hkn : k = n := by omega
              subst hkn
              obtain ⟨T, hT⟩ : ∃ T, strOf8 (fillL k k) = T := ⟨_, rfl⟩
              have hTs : T.size = k := by rw [← hT, strOf8_size, fillL_length]
              have HCV : Hid (∀ W', Below wr.heap.size wr W' → (convert 53 9 (.slice (some ⟨Bx, 0, none⟩) k k)).run Tryd.prog W' = .ok (.string T) W') := by
                intro W' h
                have hb := bytesBlk_below HB.out h
                have := convert_bytes (P := Tryd.prog) (w := W') (b := Bx) (off := 0) (cap := k) (ns := fillL k k) Tryd.underlying53 Tryd.underlying5 Tryd.underlying9 (BytesBlk.cells hb)
                rw [fillL_length, hT] at this
                exact this
              have hcV := HV.out
              have hcR := Below.refl wr.heap.size wr
              have hcv := HCV.out _ hcR
              obtain ⟨y0, y1, y2⟩ := HSH.out _ hcV
              have ht2 : T.size ≤ 2000 := by omega
              have htz : T.size ≤ 140737488351232 := by omega
              have eE : partsErr sk 1 sz T = 0 := by unfold partsErr; rw [if_pos hmb, if_pos ht2]
              have eP : partsWant sk 1 sz T = partsOf lg T := by
                unfold partsWant
                rw [hmb, decide_eq_true ht2, hlg]; rfl
              have eR : partsOf (sk * sz).toNat T = partsOf lg T := by rw [hlg]; rfl
              obtain ⟨f1, f2, f3⟩ := partsOf_facts (lg := lg) (by omega) T.size T (Nat.le_refl _)
              have HP : Hid ((∀ x ∈ partsOf lg T, 0 < x.size ∧ x.size ≤ lg) ∧ allTo (partsOf lg T) (partsOf lg T).length = T) := by
                refine ⟨f2, ?_⟩
                unfold allTo
                rw [List.take_length, f3, strL_data]
              have hPl : (partsOf lg T).length ≤ T.size := partsOf_length lg T
              obtain ⟨P, hP⟩ : ∃ P, partsOf lg T = P := ⟨_, rfl⟩
              rw [hP] at eP eR HP hPl
              clear f1 f2 f3 hP HB HV
              go_wp2_with (first
                | (go_at_call 18; refine (cutParts_any _ _ _ _ _ htz).mono ?_; rintro e w2 ⟨v2, rfl, hst2, hwz⟩; rw [eP] at hst2; obtain ⟨A2, c2, rfl⟩ := hst2.len; replace hcV := hcV.trans (hwz.mono hcV.size); replace hcR := hcR.trans (hwz.mono hcR.size); clear hwz y0 y1 y2 hcv; obtain ⟨y0, y1, y2⟩ := HSH.out _ hcV; have hcv := HCV.out _ hcR; have HX : Hid (∀ w', Below w2.heap.size w2 w' → StrsIn w' (.slice A2 P.length c2) P) := (fun w' h => hst2.below h); clear hst2; have hcC := Below.refl w2.heap.size w2; rw [eE])
                | (go_at_call 21; refine (refParts_yes _ _ _ _ _ hmb ht2).mono ?_; rintro e w3 ⟨v3, rfl, hst3, hwz⟩; rw [eR] at hst3; replace hcV := hcV.trans (hwz.mono hcV.size); replace hcR := hcR.trans (hwz.mono hcR.size); replace hcC := hcC.trans (hwz.mono hcC.size); clear hwz y0 y1 y2 hcv; obtain ⟨y0, y1, y2⟩ := HSH.out _ hcV)
                | (go_at_call 12; refine (eqStrs_yes _ _ P _ (HX.out _ hcC) hst3 (by omega)).mono ?_; rintro e w4 ⟨rfl, hwz⟩; replace hcV := hcV.trans (hwz.mono hcV.size); replace hcR := hcR.trans (hwz.mono hcR.size); replace hcC := hcC.trans (hwz.mono hcC.size); clear hwz y0 y1 y2 hst3)
                | (go_at_call 11; refine (num7_any _ _).mono ?_; rintro e wn ⟨rfl, rfl⟩))
              have HCVV := Lib.hid hcV
              have HCR := Lib.hid hcR
              clear eE eP eR hcV hcR
              generalize hNC : w2.heap.size = NC at *
              generalize hNR : wr.heap.size = NR at *
              obtain ⟨wfill, hwfill⟩ : ∃ wf : World, wf = wr := ⟨_, rfl⟩
              rw [← hwfill] at HCR HCV hNR
              clear hwfill
              go_loopw [10, 11] (fun a f wx => ∃ n : Nat, a = .string (allTo P n) ∧ f = .int .i64 n ∧ n ≤ P.length ∧ (allTo P n).size ≤ 960 * n ∧ Below NC w2 wx ∧ Below wc.heap.size wc wx ∧ Below NR wfill wx) (fun _ f _ => P.length - (intOf f).toNat)
              case atStart => exact ⟨0, rfl, rfl, by omega, by unfold allTo; rw [strL_size]; simp, hcC, HCVV.out, HCR.out⟩
              case round =>
                clear hcC HCVV HCR
                obtain ⟨n, rfl, rfl, hn, hns, hcC, hcV, hcR⟩ := hrel
                by_cases hlt : n < P.length
                · obtain ⟨bb, oo, cc, ee, x, hx, hxc⟩ := (HX.out _ hcC).at_ hlt
                  cases ee
                  obtain ⟨y0, y1, y2⟩ := HSH.out _ hcV
                  obtain ⟨x0, x1⟩ := HP.out.1 x (List.mem_of_getElem? hx)
                  have hnx := Lib.hid (allTo_next hx)
                  have hxk : x.size ≤ sk.toNat * sz.toNat := by
                    have : ((sk.toNat * sz.toNat : Nat) : Int) = (lg : Int) := by
                      rw [← hlg]
                      push_cast
                      rw [Int.toNat_of_nonneg (by omega), Int.toNat_of_nonneg (by omega)]
                    omega
                  have hkz : sk.toNat * sz.toNat = (sk * sz).toNat := by
                    have : ((sk.toNat * sz.toNat : Nat) : Int) = (lg : Int) := by
                      rw [← hlg]
                      push_cast
                      rw [Int.toNat_of_nonneg (by omega), Int.toNat_of_nonneg (by omega)]
                    omega
                  have hxl : x.size ≤ (sk * sz).toNat := by omega
                  have HLN : Hid ((lanesB sk.toNat sz.toNat x).length = sk.toNat ∧ (∀ y ∈ lanesB sk.toNat sz.toNat x, y.size = sz.toNat) ∧ (joinB (lanesB sk.toNat sz.toNat x)).size = (sk * sz).toNat ∧ joinS (joinB (lanesB sk.toNat sz.toNat x)) x.size = x ∧ joinE (joinB (lanesB sk.toNat sz.toNat x)) x.size = 0) :=
                    ⟨lanesB_len _ _ _, lanesB_size hxk, by rw [join_lanes hxk, padB_size hxk, hkz], (join_back hxk).1, (join_back hxk).2⟩
                  obtain ⟨Ln, hLn⟩ : ∃ Ln, lanesB sk.toNat sz.toNat x = Ln := ⟨_, rfl⟩
                  rw [hLn] at HLN
                  have hlk : ((Ln.length : Int) != sk) = false := by rw [HLN.out.1, Int.toNat_of_nonneg (by omega)]; simp
                  have n0 : (0 : Int) ≤ (n : Int) := by omega
                  have n1 : (n : Int) < (P.length : Int) := by omega
                  have a1 : (allTo P n ++ x).size ≤ 960 * n + 960 := by rw [app_size]; omega
                  obtain ⟨wi, rfl⟩ : ∃ wo : World, wo = wr := ⟨_, rfl⟩
                  have HK : Hid (∀ W', Below wi.heap.size wi W' → (W'.cell? ⟨Bo, 0, none⟩ = some (.int .i64 sk) ∧ W'.cell? ⟨Bo, 1, none⟩ = some (.int .i64 1) ∧ W'.cell? ⟨Bo, 2, none⟩ = some (.int .i64 sz) ∧ W'.cell? ⟨bb, oo + n, none⟩ = some (.string x))) := fun W' h => ⟨below_celllt y0 (cell_block y0) h, below_celllt y1 (cell_block y1) h, below_celllt y2 (cell_block y2) h, below_celllt hxc (cell_block hxc) h⟩
                  have HXN := Lib.hid hx
                  clear hx hkz hxk
                  go_wp2_with fail
                  go_region_held3 (fun W' => W'.cell? ⟨Bo, 0, none⟩ = some (.int .i64 sk) ∧ W'.cell? ⟨Bo, 1, none⟩ = some (.int .i64 1) ∧ W'.cell? ⟨Bo, 2, none⟩ = some (.int .i64 sz) ∧ W'.cell? ⟨bb, oo + n, none⟩ = some (.string x)) (first | go_keep | exact HK.out _ (below_of_drew (by assumption)))
                    (first | (go_at_call 8; refine (cutLanes_yes _ _ _ _ _ hmb x0 hxl).mono ?_; rintro e w4 ⟨v4, rfl, hst4, hcap4, hbs⟩; rw [hLn] at hst4))
                  obtain ⟨A4, c4, rfl⟩ := hst4.len
                  have hw4 := below_of_drew hbs
                  have hcC4 := hcC.trans (hw4.mono (by have := hcC.size; omega))
                  have hcV4 := hcV.trans (hw4.mono hcV.size)
                  have hcR4 := hcR.trans (hw4.mono (by have := hcR.size; omega))
                  obtain ⟨y0, y1, y2⟩ := HSH.out _ hcV4
                  obtain ⟨bb', oo', cc', ee', x', hx', hxc⟩ := (HX.out _ hcC4).at_ hlt
                  cases ee'
                  rw [HXN.out] at hx'
                  cases hx'
                  clear hbs hw4 HK hcC hcV
                  go_upto_region 21 with fail
                  have HK2 : Hid (∀ W', Below w4.heap.size w4 W' → (W'.cell? ⟨Bo, 0, none⟩ = some (.int .i64 sk) ∧ W'.cell? ⟨Bo, 1, none⟩ = some (.int .i64 1) ∧ W'.cell? ⟨Bo, 2, none⟩ = some (.int .i64 sz) ∧ W'.cell? ⟨bb, oo + n, none⟩ = some (.string x))) := fun W' h => ⟨below_celllt y0 (cell_block y0) h, below_celllt y1 (cell_block y1) h, below_celllt y2 (cell_block y2) h, below_celllt hxc (cell_block hxc) h⟩
                  have HX4 : Hid (∀ W', Below w4.heap.size w4 W' → StrsIn W' (.slice A4 Ln.length c4) Ln) := fun W' h => hst4.below h
                  have HCAP := Lib.hid hcap4
                  clear hst4 hcap4
                  go_region_held3 (fun W' => W'.cell? ⟨Bo, 0, none⟩ = some (.int .i64 sk) ∧ W'.cell? ⟨Bo, 1, none⟩ = some (.int .i64 1) ∧ W'.cell? ⟨Bo, 2, none⟩ = some (.int .i64 sz) ∧ W'.cell? ⟨bb, oo + n, none⟩ = some (.string x)) (first | go_keep | exact HK2.out _ (below_of_drew (by assumption)))
                    (first | (go_at_call 14; refine (cutJoin_yes _ _ _ _ Ln x.size _ hmb (HX4.out _ (Below.drew (Below.refl _ _))) HCAP.out HLN.out.1 HLN.out.2.1 HLN.out.2.2.1 x0 hxl).mono ?_; rintro e w5 ⟨rfl, hbs⟩; rw [HLN.out.2.2.2.1, HLN.out.2.2.2.2]))
                  have hw5 := below_of_drew hbs
                  have hcC5 := hcC4.trans (hw5.mono (by have := hcC4.size; omega))
                  have hcV5 := hcV4.trans (hw5.mono hcV4.size)
                  have hcR5 := hcR4.trans (hw5.mono (by have := hcR4.size; omega))
                  obtain ⟨y0, y1, y2⟩ := HSH.out _ hcV5
                  clear hbs hw5 HK2 hcC4 hcV4
                  go_wp2_with (go_at_call 11; refine (num7_any _ _).mono ?_; rintro e wn ⟨rfl, rfl⟩)
                  go_roundw
                  case rel => exact ⟨n + 1, by rw [hnx.out], by go_num, by omega, by rw [hnx.out]; omega, hcC5, hcV5, hcR5⟩
                  case measure => simp [intOf]; omega
                · have hnl : n = P.length := by omega
                  have hall : allTo P n = T := by rw [hnl]; exact HP.out.2
                  rw [hall]
                  have hcv := HCV.out _ hcR
                  go_wp2_with fail
                  go_roundw
                  case rel => exact ⟨k + 1, by go_num, by omega, hcV⟩
                  case measure => simp [intOf]; omega
        · have hdd : decide ((n : Int) ≤ (w3 : Int) + 1) = false := by simp; omega
          have hfin := (hb2.trans (hc1.mono hb2.size)).trans (hcV.mono (by have := hb2.size; have := hc1.size; omega))
          go_wp2_with (go_at_call 17; refine (wakes7_any _).mono ?_; rintro e wz ⟨rfl, hwz⟩)
          go_ret
          exact ⟨by first | rfl | simp, by have h := hfin.trans (hwz.mono hfin.size); first | exact h | (rw [hB0] at *; exact h)⟩
  · go_wp2_with fail
    go_ret
    exact ⟨rfl, hb2⟩
end Go.Proofs.YtkfmkbmlhhdbpaaDoor
