/- ShardTurned, walked. -/
import Derived.Test.YtiminahobifomaaDoorShR
import Derived.Test.YtiminahobifomaaDoorStrs
import Derived.BigQuiet
import Derived.BigRegion
import Derived.StillTailTactics
namespace Go.Proofs.YtiminahobifomaaDoor
open Go.ChangeShapes Go.WideShapes Go.ChangeAt Go.RowKit Go.Joins Go.Shelf
set_option linter.unusedVariables false
set_option linter.unusedSimpArgs false

set_option maxRecDepth 100000 in
set_option maxHeartbeats 8000000 in
theorem shardTurned_walk (w : World) (vS vL : Value) (S : List S4) (ss : List ByteArray) (hS : ShardsIn w vS S) (hL : TextsIn w vL ss) :
    Calls Tryd.prog 3 #[.agg #[vS, vL]] w fun e w' => e = .returned (.bool true) ∧ Below w.heap.size w w' := by
  obtain ⟨hbe, a0, a1, _⟩ := box2_facts w vS vL 25
  have hltb : w.heap.size < (w.alloc (.cells #[vS, vL] 25)).heap.size := by simp
  have HBE := Lib.hid hbe
  have HS := Lib.hid (hS.below hbe)
  have HT := Lib.hid (textsIn_below12 hL hbe)
  have HX : Hid (∀ W', Below (w.alloc (.cells #[vS, vL] 25)).heap.size (w.alloc (.cells #[vS, vL] 25)) W' → W'.cell? ⟨w.heap.size, 0, none⟩ = some vS ∧ W'.cell? ⟨w.heap.size, 1, none⟩ = some vL) := fun W' hW =>
    ⟨(hW.cell (p := ⟨w.heap.size, 0, none⟩) hltb).trans a0, (hW.cell (p := ⟨w.heap.size, 1, none⟩) hltb).trans a1⟩
  obtain ⟨A0, c0, rfl, hll, _⟩ := hS
  obtain ⟨pL, kL, rfl, _⟩ := hL
  clear hbe hltb
  go_enter Tryd.func3, Tryd.ntmps3
  go_wp2_with fail
  clear a0 a1
  generalize w.alloc (.cells #[.slice A0 S.length c0, .slice pL ss.length kL] 25) = W0 at *
  refine (heavy12_any (.slice A0 S.length c0) (.slice pL ss.length kL) S ss W0 HS.out HT.out).mono ?_
  rintro e w1 ⟨hv, rfl, _, hb1⟩
  cases hv with
  | true =>
    have HBF := Lib.hid (HBE.out.trans (hb1.mono HBE.out.size))
    clear hb1
    go_wp2_with fail
    go_ret
    exact ⟨rfl, HBF.out⟩
  | false =>
    have HB1 := Lib.hid hb1
    clear hb1
    go_wp2_with fail
    go_loopw [3] (fun iv wr => ∃ i : Nat, iv = .int .i64 (i : Int) ∧ i ≤ 2 ∧ Hid (Below W0.heap.size W0 wr)) (fun iv _ => 2 - (intOf iv).toNat)
    case atStart => exact ⟨0, rfl, by omega, HB1⟩
    case round =>
      clear HB1
      obtain ⟨i, rfl, hi2, HWR⟩ := hrel
      obtain ⟨p0, p1⟩ := HX.out _ HWR.out
      by_cases hgo : i < S.length ∧ i < 2
      · obtain ⟨hlt, hi⟩ := hgo
        obtain ⟨_, _, e, _, hs⟩ := HS.out
        cases e
        obtain ⟨bb, oo, rfl, hbb, hsh, _⟩ := hs i hlt
        obtain ⟨s0, s1, s2, s3⟩ := hsh.below hbb HWR.out
        obtain ⟨⟨st, ix, gn, tx⟩, hq⟩ : ∃ q : S4, q = S.getD i Go.Proofs.YtiminahobifomaaDoor.s0 := ⟨_, rfl⟩
        rw [← hq] at s0 s1 s2 s3
        dsimp only at s0 s1 s2 s3
        have d1 : decide ((i : Int) < (S.length : Int)) = true := decide_eq_true (by omega)
        have d2 : decide ((i : Int) < 2) = true := decide_eq_true (by omega)
        have i0 : (0 : Int) ≤ (i : Int) := by omega
        have i1 : (i : Int) < (S.length : Int) := by omega
        have wi : IntKind.i64.wrap ((i : Int) + 1) = (i : Int) + 1 := IntWalk.i64_in _ (by omega)
        clear hs hsh hq hbb
        have hbz := (Below.refl wr.heap.size wr).alloc (Nat.le_refl _) (.cells #[.int .i64 st, .int .i64 ix, .int .i64 gn, .string tx] 28)
        have HW2 := Lib.hid (HWR.out.trans (hbz.mono HWR.out.size))
        have HC4 := Lib.hid (Cell4.new wr (.int .i64 st) (.int .i64 ix) (.int .i64 gn) (.string tx) 28)
        go_upto_region 7 with fail
        clear p0 p1 s0 s1 s2 s3 d1 d2 i0 i1 hbz
        generalize wr.alloc (.cells #[.int .i64 st, .int .i64 ix, .int .i64 gn, .string tx] 28) = W2 at *
        generalize wr.heap.size = b4 at *
        obtain ⟨y0, y1, y2, y3, _, _, _, _⟩ := HC4.out
        go_wp2_with fail
        obtain ⟨mb, hmb⟩ : ∃ q, shardB st ix gn tx = q := ⟨_, rfl⟩
        cases mb with
        | false =>
          refine (sectors_no st ix gn tx hmb W2).mono ?_
          rintro e w3 ⟨rfl, hb3⟩
          have HW3 := Lib.hid (HW2.out.trans (hb3.mono HW2.out.size))
          clear hb3 y0 y1 y2 y3 hmb
          go_wp2_with (first | (go_at_call 7; refine (num12_any _ _).mono ?_; rintro e wn ⟨rfl, rfl⟩))
          go_roundw
          case rel => exact ⟨i + 1, by go_num, by omega, HW3⟩
          case measure => simp [intOf]; omega
        | true =>
          have hfac := of_decide_eq_true hmb
          obtain ⟨a, rfl⟩ := Int.eq_ofNat_of_zero_le (a := st) (by omega)
          obtain ⟨b, rfl⟩ := Int.eq_ofNat_of_zero_le (a := ix) (by omega)
          obtain ⟨d, rfl⟩ := Int.eq_ofNat_of_zero_le (a := gn) (by omega)
          clear hfac
          have HMAY : Hid ((⟨a, b, d, tx⟩ : Sh).may = true) := hmb
          refine (sectors_yes a b d tx HMAY.out W2).mono ?_
          rintro e w3 ⟨r, rfl, hown, hb3⟩
          obtain ⟨l, hl⟩ : ∃ l, l = layS ⟨a, b, d, tx⟩ := ⟨_, rfl⟩
          have HLAY : Hid (layS ⟨a, b, d, tx⟩ = l) := hl.symm
          have HSZ : Hid (∀ x ∈ l, x.size = 64) := by rw [hl]; exact lay_size _
          have hl1 : 1 ≤ l.length := by rw [hl, layS_len]; exact secN_pos _
          have hl3 : l.length ≤ 3 := by rw [hl, layS_len]; exact secN_small (Sh.facts HMAY.out).2.2.2.2
          have HTK : Hid (takeO l = some ⟨a, b, d, tx⟩) := by rw [hl]; exact takeO_lay HMAY.out
          have HCL : Hid (classV l a d b = 2) := by rw [hl]; exact class_lay HMAY.out
          rw [← hl] at hown
          obtain ⟨A, c, rfl⟩ := own_shape hown
          have HO3 : Hid (OwnS w3 (.slice A l.length c) l) := ⟨_, hown⟩
          have HW3 := Lib.hid (HW2.out.trans (hb3.mono HW2.out.size))
          have HC43 := Lib.hid (HC4.out.below hb3)
          have hjl : (joinB l).length ≤ 10000000 := by rw [joinB_len HSZ.out]; omega
          have HJL := Lib.hid hjl
          have HTAKE := Lib.hid (take12_any (.slice A l.length c) l w3 HO3.out (by omega))
          rw [HTK.out] at HTAKE
          clear hb3 hown hl hmb y0 y1 y2 y3 hjl
          go_wp2_with (first | (go_at_call 7; refine (num12_any _ _).mono ?_; rintro e wn ⟨rfl, rfl⟩))
          refine HTAKE.out.mono ?_
          rintro e w5 ⟨rfl, hb5⟩
          have hbz := (Below.refl w5.heap.size w5).alloc (Nat.le_refl _) (.cells #[.int .i64 (a : Int), .int .i64 (b : Int), .int .i64 (d : Int), .string tx] 28)
          have hb5z := hb5.trans (hbz.mono hb5.size)
          have HO4 := Lib.hid (HO3.out.below hb5z)
          have HW4 := Lib.hid (HW3.out.trans (hb5z.mono HW3.out.size))
          have HC44 := Lib.hid (HC43.out.below hb5z)
          have HC7 := Lib.hid (Cell4.new w5 (.int .i64 (a : Int)) (.int .i64 (b : Int)) (.int .i64 (d : Int)) (.string tx) 28)
          unfold takeV takeN shV
          dsimp only
          clear hb5 hbz hb5z HTAKE HTK HO3 HW3 HC43 HC4 HW2
          go_upto_region 10 with fail
          generalize w5.alloc (.cells #[.int .i64 (a : Int), .int .i64 (b : Int), .int .i64 (d : Int), .string tx] 28) = W4 at *
          generalize w5.heap.size = b7 at *
          obtain ⟨y0, y1, y2, y3, _, _, _, _⟩ := HC44.out
          obtain ⟨z0, z1, z2, z3, _, _, _, _⟩ := HC7.out
          go_wp2_with (first | (go_at_call 7; refine (num12_any _ _).mono ?_; rintro e wn ⟨rfl, rfl⟩))
          refine (class12_any (.slice A l.length c) l (a : Int) (d : Int) (b : Int) W4 HO4.out (by omega) HJL.out).mono ?_
          rintro e w6 ⟨rfl, hb6⟩
          rw [HCL.out]
          have HO5 := Lib.hid (HO4.out.below hb6)
          have HS4 := Lib.hid HO5.out.strs
          have HW5 := Lib.hid (HW4.out.trans (hb6.mono HW4.out.size))
          have HC45 := Lib.hid (HC44.out.below hb6)
          clear hb6 y0 y1 y2 y3 z0 z1 z2 z3 HO4 HW4 HC44 HC7 HCL HWR
          go_wp2_with fail
          obtain ⟨W4, rfl⟩ : ∃ x : World, x = w6 := ⟨_, rfl⟩
          go_loopw [9] (fun xv wr => ∃ x : Nat, xv = .int .i64 (x : Int) ∧ x ≤ 512 * l.length ∧ Hid (Below W4.heap.size W4 wr)) (fun xv _ => 512 * l.length - (intOf xv).toNat)
          case atStart => exact ⟨0, rfl, by omega, Below.refl _ _⟩
          case round =>
            obtain ⟨x, rfl, hx, HWR⟩ := hrel
            have HSr := Lib.hid (HS4.out.below HWR.out)
            have hwl1 : IntKind.i64.wrap ((l.length : Int) * 64) = (l.length : Int) * 64 := IntWalk.i64_in _ (by omega)
            have hwl2 : IntKind.i64.wrap ((l.length : Int) * 64 * 8) = (l.length : Int) * 64 * 8 := IntWalk.i64_in _ (by omega)
            by_cases hlt : x < 512 * l.length
            · have d1 : decide ((x : Int) < (l.length : Int) * 64 * 8) = true := decide_eq_true (by omega)
              by_cases h13 : x / 8 = 13
              · have e13 : ((x : Int) / 8 == 13) = true := by rw [beq_iff_eq]; omega
                have wx : IntKind.i64.wrap ((x : Int) + 1) = (x : Int) + 1 := IntWalk.i64_in _ (by omega)
                clear h13
                go_wp2_with fail
                go_roundw
                case rel => exact ⟨x + 1, by go_num, by omega, HWR⟩
                case measure => simp [intOf]; omega
              by_cases h14 : x / 8 = 14
              · have e13 : ((x : Int) / 8 == 13) = false := by rw [beq_eq_false_iff_ne]; omega
                have e14 : ((x : Int) / 8 == 14) = true := by rw [beq_iff_eq]; omega
                have wx : IntKind.i64.wrap ((x : Int) + 1) = (x : Int) + 1 := IntWalk.i64_in _ (by omega)
                clear h13 h14
                go_wp2_with fail
                go_roundw
                case rel => exact ⟨x + 1, by go_num, by omega, HWR⟩
                case measure => simp [intOf]; omega
              have e13 : ((x : Int) / 8 == 13) = false := by rw [beq_eq_false_iff_ne]; omega
              have e14 : ((x : Int) / 8 == 14) = false := by rw [beq_eq_false_iff_ne]; omega
              have HTN : Hid (takeO (turnK l x) = none) := by have q := takeO_turn HMAY.out (k := x) (by rw [HLAY.out]; omega) h13 h14; rw [HLAY.out] at q; exact q
              have HTB : Hid (blankB (turnK l x) = false) := by have q := turn_not_blank (s := ⟨a, b, d, tx⟩) (k := x) (by rw [HLAY.out]; omega); rw [HLAY.out] at q; exact q
              have H13 := Lib.hid h13
              clear h13 h14
              go_wp2_with fail
              clear e13 e14 d1 hwl1 hwl2
              refine (copyStrs6_any (.slice A l.length c) l wr HSr.out (by omega)).mono ?_
              rintro e w1 ⟨r, rfl, hown, hb1⟩
              obtain ⟨g1, c1, rfl, hg1, hg2, hcells⟩ := own_at hown rfl (by omega)
              have hjl : x / 8 / 64 < l.length := by omega
              obtain ⟨hc1, hf1⟩ := hcells _ hjl
              obtain ⟨s, hs⟩ : ∃ s, s = l[x / 8 / 64]'hjl := ⟨_, rfl⟩
              have hs64 : s.size = 64 := by rw [hs]; exact HSZ.out _ (List.getElem_mem hjl)
              rw [← hs] at hc1
              have HSE : Hid (l.getD (x / 8 / 64) ByteArray.empty = s) := by rw [Hid, hs, ← List.getElem_eq_getD (h := hjl)]
              have hcv : ∀ w', (convert 9 37 (.string s)).run Tryd.prog w' = .ok (.slice (some ⟨w'.heap.size, 0, none⟩) s.size (grownCap w' s.size 0 5)) (Lib.bytesWorld w' 5 s) := fun w' => Lib.run_convert_string_bytes w' 9 37 5 s Tryd.underlying9 Tryd.underlying37 Tryd.underlying5
              have i0 : (0 : Int) ≤ (x : Int) / 8 / 64 := by omega
              have i1 : (x : Int) / 8 / 64 < (l.length : Int) := by omega
              have HOW := Lib.hid hown
              have HBW := Lib.hid hb1
              rw [hs64] at hcv
              clear hown hb1 hcells hs
              go_upto_region 20 with fail
              clear hcv
              have HBB := Lib.hid (bytesBlk_of w1 5 s)
              have hbV := bytesWorld_below w1 5 s
              have HOV := Lib.hid (own_below HOW.out hbV)
              have HBV := Lib.hid (HBW.out.trans (hbV.mono HBW.out.size))
              have hBg : g1 < w1.heap.size := hg2
              have hWB : wr.heap.size ≤ w1.heap.size := HBW.out.size
              clear hbV HOW hc1 hf1 HBW
              generalize Lib.bytesWorld w1 5 s = V at *
              generalize grownCap w1 64 0 5 = cp at *
              generalize w1.heap.size = B at *
              obtain ⟨hb256, hcell, hfr⟩ := HBB.out (x / 8 % 64) (by rw [bytesOf_length, hs64]; omega)
              have hp8 : 2 ^ (x % 8) < 256 := by show 2 ^ (x % 8) < 2 ^ 8; exact Nat.pow_lt_pow_right (by decide) (by omega)
              have hv256 : (bytesOf s).getD (x / 8 % 64) 0 ^^^ 2 ^ (x % 8) < 256 := Nat.xor_lt_two_pow (n := 8) hb256 hp8
              have hbx : bits .xor .u8 (((bytesOf s).getD (x / 8 % 64) 0 : Nat) : Int) (2 ^ (x % 8) % 256) = (((bytesOf s).getD (x / 8 % 64) 0 ^^^ 2 ^ (x % 8) : Nat) : Int) := by
                rw [show ((2 : Int) ^ (x % 8) % 256) = ((2 ^ (x % 8) : Nat) : Int) by rw [Int.natCast_pow]; show (2 : Int) ^ (x % 8) % 256 = 2 ^ (x % 8); rw [Int.emod_eq_of_lt]; exact Int.pow_nonneg (by decide); have := hp8; rw [show (2 : Int) ^ (x % 8) = ((2 ^ (x % 8) : Nat) : Int) from (Int.natCast_pow 2 (x % 8)).symm]; omega]
                exact bits_xor_u8 hb256 hp8
              have HN := Lib.hid (HBB.out.next (k := x / 8 % 64) hv256)
              have HTU : Hid (turnK l x = l.set (x / 8 / 64) (strOf8 ((bytesOf s).set (x / 8 % 64) ((bytesOf s).getD (x / 8 % 64) 0 ^^^ 2 ^ (x % 8))))) := by rw [Hid, turnK, HSE.out, turnB]
              have hlen64 : ((bytesOf s).set (x / 8 % 64) ((bytesOf s).getD (x / 8 % 64) 0 ^^^ 2 ^ (x % 8))).length = 64 := by rw [List.length_set, bytesOf_length, hs64]
              clear hp8 hv256
              generalize hvv : (bytesOf s).getD (x / 8 % 64) 0 ^^^ 2 ^ (x % 8) = v at *
              generalize hcc : (bytesOf s).getD (x / 8 % 64) 0 = c at *
              clear hvv hcc
              have hcv2 := convert_bytes (P := Tryd.prog) (w := (V.setCell ⟨B, x / 8 % 64, none⟩ (.int .u8 (v : Int))).drew) (b := B) (off := 0) (cap := cp) Tryd.underlying37 Tryd.underlying5 Tryd.underlying9 (HN.out.drew.cells)
              rw [hlen64] at hcv2
              generalize strOf8 ((bytesOf s).set (x / 8 % 64) v) = r2 at *
              have j0 : (0 : Int) ≤ (x : Int) / 8 % 64 := by omega
              have j1 : (x : Int) / 8 % 64 < 64 := by omega
              have HOD : Hid ((V.setCell ⟨B, x / 8 % 64, none⟩ (.int .u8 (v : Int))).drew.ownsRow wr.heap.size 9 1 (.slice (some ⟨g1, 0, none⟩) l.length c1) l.length (l.map Value.string)) := own_farS HOV.out (by omega)
              have HBD := Lib.hid ((HBV.out.setCell (p := ⟨B, x / 8 % 64, none⟩) hWB (.int .u8 (v : Int))).drew)
              clear hlen64 hb256
              go_region
              clear hcell hfr hbx j0 j1
              generalize (V.setCell ⟨B, x / 8 % 64, none⟩ (.int .u8 (v : Int))).drew = W2 at *
              obtain ⟨g2, c2, hge, _, hg3, hcells2⟩ := own_at HOD.out rfl (by omega)
              injection hge with hge1 _ hge2
              injection hge1 with hge1
              injection hge1 with hge1
              subst hge1 hge2
              obtain ⟨hc2, hf2⟩ := hcells2 _ hjl
              have hOZ := own_setS (k := x / 8 / 64) (u := .string r2) HOD.out
              have hBZ := HBD.out.setCell (p := ⟨g1, x / 8 / 64, none⟩) hg1 (.string r2)
              clear hcells2
              go_upto_region 22 with fail
              clear hc2 hf2 hcv2
              generalize W2.setCell ⟨g1, x / 8 / 64, none⟩ (.string r2) = wz at *
              have HOZ : Hid (OwnS wz (.slice (some ⟨g1, 0, none⟩) l.length c1) (turnK l x)) := ⟨wr.heap.size, by rw [HTU.out, List.length_set, List.map_set]; exact hOZ⟩
              have HBZ := Lib.hid hBZ
              clear hOZ hBZ HBB HN HOV HBV HOD HBD HSE HTU hBg hWB hg1 hg2 hg3 i0 i1
              have HJ2 : Hid ((joinB (turnK l x)).length ≤ 10000000) := by rw [Hid, turnK_join HSZ.out (by omega)]; omega
              have htl := turnK_len l x
              have HTAKE2 := Lib.hid (take12_any (.slice (some ⟨g1, 0, none⟩) l.length c1) (turnK l x) wz HOZ.out (by rw [turnK_len]; omega))
              rw [HTN.out] at HTAKE2
              have HCV : Hid (classV (turnK l x) a d b = 1) := by rw [Hid, class_none HTN.out, HTB.out]; rfl
              clear htl
              go_wp2_with fail
              refine HTAKE2.out.mono ?_
              rintro e w7 ⟨rfl, hb7⟩
              have hbz := (Below.refl w7.heap.size w7).alloc (Nat.le_refl _) (.cells #[.int .i64 0, .int .i64 0, .int .i64 0, .string ⟨#[]⟩] 28)
              have hb7z := hb7.trans (hbz.mono hb7.size)
              have HOZ2 := Lib.hid (HOZ.out.below hb7z)
              have HBZ2 := Lib.hid (HBZ.out.trans (hb7z.mono HBZ.out.size))
              unfold takeV takeN shZ
              dsimp only
              clear hb7 hbz hb7z HTAKE2 HOZ HBZ HTN HTB
              go_upto_region 23 with fail
              generalize w7.alloc (.cells #[.int .i64 0, .int .i64 0, .int .i64 0, .string ⟨#[]⟩] 28) = w8 at *
              generalize w7.heap.size = b8 at *
              obtain ⟨y0, y1, y2, y3, _, _, _, _⟩ := HC45.out.below (HWR.out.trans (HBZ2.out.mono HWR.out.size))
              go_wp2_with (first | (go_at_call 7; refine (num12_any _ _).mono ?_; rintro e wn ⟨rfl, rfl⟩))
              refine (class12_any (.slice (some ⟨g1, 0, none⟩) l.length c1) (turnK l x) (a : Int) (d : Int) (b : Int) w8 HOZ2.out (by rw [turnK_len]; omega) HJ2.out).mono ?_
              rintro e w9 ⟨rfl, hb9⟩
              rw [HCV.out]
              have HWR9 := Lib.hid (HWR.out.trans ((HBZ2.out.trans (hb9.mono HBZ2.out.size)).mono HWR.out.size))
              have wx : IntKind.i64.wrap ((x : Int) + 1) = (x : Int) + 1 := IntWalk.i64_in _ (by omega)
              clear hb9 y0 y1 y2 y3 HOZ2 HBZ2 HCV HJ2
              go_wp2_with fail
              go_roundw
              case rel => exact ⟨x + 1, by go_num, by omega, HWR9⟩
              case measure => simp [intOf]; omega
            · obtain rfl : x = 512 * l.length := by omega
              have d1 : decide (((512 * l.length : Nat) : Int) < (l.length : Int) * 64 * 8) = false := decide_eq_false (by omega)
              have HWF := Lib.hid (HW5.out.trans (HWR.out.mono HW5.out.size))
              have hi1 : i + 1 ≤ 2 := by omega
              have HI1 := Lib.hid hi1
              clear hlt hi1
              go_wp2_with fail
              all_goals first
                | (exfalso; omega)
                | (go_roundw
                   case rel => exact ⟨i + 1, by go_num, HI1.out, HWF⟩
                   case measure => simp [intOf]; omega)
      · have HWF := Lib.hid (HBE.out.trans (HWR.out.mono HBE.out.size))
        by_cases hlt : i < S.length
        · have d1 : decide ((i : Int) < (S.length : Int)) = true := decide_eq_true (by omega)
          have d2 : decide ((i : Int) < 2) = false := decide_eq_false (by omega)
          have j1 : (i : Int) < (S.length : Int) := by omega
          clear hgo hi2
          go_wp2_with fail
          refine (wakes12_any wr).mono ?_
          rintro e w9 ⟨rfl, hb9⟩
          have HBF := Lib.hid (HWF.out.trans (hb9.mono HWF.out.size))
          clear hb9
          go_wp2_with fail
          go_ret
          exact ⟨rfl, HBF.out⟩
        · have d1 : decide ((i : Int) < (S.length : Int)) = false := decide_eq_false (by omega)
          clear hgo hi2
          go_wp2_with fail
          refine (wakes12_any wr).mono ?_
          rintro e w9 ⟨rfl, hb9⟩
          have HBF := Lib.hid (HWF.out.trans (hb9.mono HWF.out.size))
          clear hb9
          go_wp2_with fail
          go_ret
          exact ⟨rfl, HBF.out⟩
end Go.Proofs.YtiminahobifomaaDoor
