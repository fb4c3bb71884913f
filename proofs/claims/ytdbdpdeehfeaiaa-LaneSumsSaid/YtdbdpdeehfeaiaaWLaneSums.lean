/- LaneSums, walked. -/
import Derived.Test.YtdbdpdeehfeaiaaLaneM
namespace Go.Proofs.Ytdbdpdeehfeaiaa
open Go.ChangeShapes Go.WideShapes Go.ChangeAt Go.RowKit Go.Joins
set_option linter.unusedVariables false
set_option linter.unusedSimpArgs false

theorem cum2 {W a b : World} (h : Below W.heap.size W a) (hb : Below a.heap.size a b) : Below W.heap.size W b := h.trans (hb.mono h.size)
theorem cum2d {W a b : World} (h : Below W.heap.size W a) (hb : Below a.drew.heap.size a.drew b) : Below W.heap.size W b := h.trans ((below_of_drew hb).mono h.size)
theorem TextsIn.take {w : World} {A : Option Addr} {c : Nat} {L : List ByteArray} (h : TextsIn w (.slice A L.length c) L) {n : Nat} (hn : n ≤ L.length) : TextsIn w (.slice A n c) (L.take n) := by
  obtain ⟨p, cap, e, h1, h2, h3⟩ := h
  cases e
  have hl : (L.take n).length = n := by rw [List.length_take]; omega
  refine ⟨A, c, by rw [hl], by rw [hl]; omega, fun s hs => h2 s (List.mem_of_mem_take hs), ?_⟩
  rw [hl]
  refine ⟨by have := h3.1; omega, fun i hi => ?_⟩
  obtain ⟨b, off, hp, hlt, hc⟩ := h3.2 i (by omega)
  refine ⟨b, off, hp, hlt, ?_⟩
  rw [hc]
  simp [List.getD, List.getElem?_take, hi]
def sumT (L : List ByteArray) : ByteArray := if sumE L = 0 then sumS L else ⟨#[]⟩
theorem sumE_zero {L : List ByteArray} (h : sumE L = 0) : 0 < L.length ∧ mayN L = 0 := by
  unfold sumE at h
  split at h
  · omega
  · exact ⟨by omega, h⟩
theorem sum_all (v : Value) (L : List ByteArray) (w : World) (hS : Strs6 w v L) (hl : L.length ≤ 100000) :
    Calls Try.prog 18 #[v] w fun e w' => e = .returned (.tuple #[.string (sumT L), .int .i64 (sumE L)]) ∧ Below w.heap.size w w' := by
  unfold sumT
  split
  · rename_i h
    rw [h]
    exact sum_yes v L w hS hl (sumE_zero h).1 (sumE_zero h).2
  · rename_i h
    exact sum_no v L w hS hl h
def zeS (z : Int) : ByteArray := if 0 ≤ z ∧ z ≤ 8192 then zeroS z.toNat else ⟨#[]⟩
def zeE (z : Int) : Int := if 0 ≤ z ∧ z ≤ 8192 then 0 else 1
theorem zero_all (z : Int) (w : World) :
    Calls Try.prog 22 #[.int .i64 z] w fun e w' => e = .returned (.tuple #[.string (zeS z), .int .i64 (zeE z)]) ∧ Below w.heap.size w w' := by
  unfold zeS zeE
  split
  · rename_i h
    have := zero_yes z.toNat w (by omega)
    rw [Int.toNat_of_nonneg h.1] at this
    exact this
  · rename_i h
    exact zero_no z w (by omega)
set_option maxRecDepth 100000 in
set_option maxHeartbeats 400000 in
theorem refNum2_any (n k : Int) (w : World) :
    Calls Try.prog 23 #[.int .i64 n, .int .i64 k] w fun e w' => e = .returned (.bool (decide (0 ≤ n ∧ n ≤ k))) ∧ w = w' := by
  go_enter Try.func23, Try.ntmps23
  go_wp2
  all_goals
    go_ret
    refine ⟨?_, rfl⟩
    simp_all <;> omega
theorem slice_cap {H : Type} {enc : TypeId × Value → H} {P : Program} {w : World} {base : Nat} {spare : Nat → Bool} {held : Bool} {t e : TypeId} {fuel : Nat} {v : Value} {x : DataW H × List MemPlace} (ht : P.underlying t = some (.slice e)) (h : DataW.trod enc P w base spare held fuel t [v] = some x) :
    ∃ p n c, v = .slice p n c ∧ n ≤ c := by
  rcases Go.Deep.open_slice ht h with ⟨hcs, _⟩ | ⟨a, len, cap, m, n, D, Pl, hcs, hb, hl, hm, _⟩
  · simp only [List.cons.injEq, and_true] at hcs
    exact ⟨_, _, _, hcs, by omega⟩
  · simp only [List.cons.injEq, and_true] at hcs
    exact ⟨_, _, _, hcs, hl⟩
theorem ask2_cap {H : Type} {enc : TypeId × Value → H} {W : World} {base : Nat} {spare : Nat → Bool} {held : Bool} {vL c1 c2 : Value} {d : DataW H} {p : List MemPlace}
    (h : DataW.Trod enc Try.prog W base spare held 24 (.agg #[vL, c1, c2]) d p) (hf : Fits Try.prog 24 d) :
    ∃ A n c, vL = .slice A n c ∧ n ≤ c := by
  obtain ⟨fuel, h⟩ := h
  obtain ⟨n0, y0, h0, f0⟩ := open_field Try.underlying24 h hf 0 rfl [vL] cellsStrs rfl
  exact slice_cap Try.underlying22 h0
theorem nums_lit (w : World) (a b c d : Int) (T : TypeId) {k : Nat} (hk : k < 4) : (w.alloc (.cells #[.int .i64 a, .int .i64 b, .int .i64 c, .int .i64 d] T)).cell? ⟨w.heap.size, k, none⟩ = some (.int .i64 ([a, b, c, d].getD k 0)) := by
  rw [cell_of_row _ _ _ _ _ _ (heap_alloc_new w _)]
  match k, hk with
  | 0, _ => rfl
  | 1, _ => rfl
  | 2, _ => rfl
  | 3, _ => rfl

set_option maxRecDepth 100000 in
set_option maxHeartbeats 4000000 in
theorem laneSums_walk (w : World) (vL : Value) (C N : Int) (L : List ByteArray) (hT : TextsIn w vL L) (hcap : ∃ A n c, vL = .slice A n c ∧ n ≤ c) (hC : 0 ≤ C ∧ C ≤ 255) (hN : -9223372036854775808 ≤ N ∧ N ≤ 9223372036854775807) :
    Calls Try.prog 6 #[.agg #[vL, .int .u8 C, .int .i64 N]] w fun e w' => e = .returned (.bool true) ∧ Below w.heap.size w w' := by
  obtain ⟨c, rfl⟩ : ∃ c : Nat, C = (c : Int) := ⟨C.toNat, by omega⟩
  have hc : c < 256 := by omega
  have hT2 := hT.below (box3_facts2 w vL (.int .u8 (c : Int)) (.int .i64 N) 24).1
  obtain ⟨hbel, hc0, hc1, hc2, hsz⟩ := box3_facts2 w vL (.int .u8 (c : Int)) (.int .i64 N) 24
  have HTT := Lib.hid hT2
  obtain ⟨A, kL, rfl⟩ := hT.row.shape
  have hkL : L.length ≤ kL := by obtain ⟨_, _, _, e, h⟩ := hcap; cases e; exact h
  have HL := Lib.hid hT2.row
  clear hT hT2
  go_enter Try.func6, Try.ntmps6
  go_wp2_with fail
  refine (heavy2_any _ (c : Int) N L _ HTT.out).mono ?_
  rintro e w1 ⟨bo, hbo, rfl, hb1⟩
  have hHL1 := HL.out.below hb1
  have HTT1 := Lib.hid (HTT.out.below hb1)
  have hlt0 : w.heap.size < (w.alloc (.cells #[.slice A L.length kL, .int .u8 (c : Int), .int .i64 N] 24)).heap.size := by rw [hsz]; omega
  have d0 := below_celllt hc0 hlt0 hb1
  have d1 := below_celllt hc1 hlt0 hb1
  have d2 := below_celllt hc2 hlt0 hb1
  have hb2 := hbel.trans (hb1.mono hbel.size)
  have hlt1 : w.heap.size < w1.heap.size := Nat.lt_of_lt_of_le hlt0 hb1.size
  have HL1 := Lib.hid hHL1
  clear hb1 hc0 hc1 hc2 hsz hbel HL HTT hlt0 hHL1
  generalize hB0 : w.heap.size = B0 at d0 d1 d2 hlt1
  cases bo
  · have hT9 := hbo rfl
    have HM : Hid (∀ s ∈ L, s.size ≤ 9000) := fun s hs => Nat.le_trans (total_mem hs) hT9
    have hLl : L.length ≤ 9000 := by unfold total at hT9; omega
    clear hbo hT9
    clear d1 hcap
    go_wp2_with fail
    go_loopw [3] (fun i wr => ∃ k : Nat, i = .int .i64 k ∧ k ≤ L.length + 1 ∧ k ≤ 6 ∧ Below w1.heap.size w1 wr) (fun i _ => 6 - (intOf i).toNat)
    case atStart => exact ⟨0, rfl, by omega, by omega, Below.refl _ _⟩
    case round =>
      obtain ⟨n, rfl, hn, hn6, hcum⟩ := hrel
      obtain ⟨wo, rfl⟩ : ∃ wo : World, wo = wr := ⟨_, rfl⟩
      have e0 := below_celllt d0 hlt1 hcum
      have e2 := below_celllt d2 hlt1 hcum
      by_cases hlt : n ≤ L.length ∧ n ≤ 5
      · obtain ⟨hl1, hl2⟩ := hlt
        have hnd : decide ((n : Int) ≤ 5) = true := by simp; omega
        have hn0 : (0 : Int) ≤ (n : Int) := by omega
        have hn1 : (n : Int) ≤ (L.length : Int) := by omega
        have hn2 : (n : Int) ≤ (kL : Int) := by omega
        obtain ⟨Ln, hLn⟩ : ∃ Ln, Ln = L.take n := ⟨_, rfl⟩
        have hLl2 : Ln.length = n := by rw [hLn, List.length_take]; omega
        have HTn : Hid (∀ W, Below w1.heap.size w1 W → TextsIn W (.slice A n kL) Ln) := fun W h => by rw [hLn]; exact (HTT1.out.below h).take hl1
        have HGn : Hid (∀ i (h : i < n), ∃ h' : i < L.length, L[i]'h' = Ln[i]'(by omega)) := fun i h => ⟨by omega, by subst hLn; simp⟩
        clear hLn e2
        go_wp2_with fail
        refine (copyStrs_any _ Ln _ (HTn.out _ hcum) (by omega)).mono ?_
        rintro e W3 ⟨vin, rfl, hown, hb⟩
        have hcum := cum2 hcum hb
        have HIN : Hid (∀ W', Below W3.heap.size W3 W' → Strs6 W' vin Ln) := fun W' h => (show Strs6 W3 vin Ln from RowIs.of_own hown).below h
        have HK : Hid (∀ W', Below W3.heap.size W3 W' → W'.cell? ⟨B0, 0, none⟩ = some (.slice A L.length kL)) := fun W' h => below_celllt d0 hlt1 (cum2 hcum h)
        have HTn3 : Hid (∀ W, Below W3.heap.size W3 W → TextsIn W (.slice A n kL) Ln) := fun W h => HTn.out W (cum2 hcum h)
        have HL3 : Hid (∀ W, Below W3.heap.size W3 W → Strs6 W (.slice A L.length kL) L) := fun W h => HL1.out.below (cum2 hcum h)
        have HC3 := Lib.hid hcum
        clear hown hb e0 hcum HTn
        go_wp2_with fail
        refine (sum_all _ Ln _ (HIN.out _ (Below.refl _ _)) (by omega)).mono ?_
        rintro e W4 ⟨rfl, hc3⟩
        have e0 := HK.out _ hc3
        go_wp2_with fail
        refine (refLanes_any _ Ln _ (HTn3.out _ hc3).row (by omega)).mono ?_
        rintro e W5 ⟨rfl, hb⟩
        have hc3 := cum2 hc3 hb
        clear hb e0
        go_upto_if 45 with (fail)
        go_cut [7] from 45 to 45 (fun bd wx => bd = .int .i64 (sumE Ln) ∧ Below W3.heap.size W3 wx)
        case first =>
          by_cases hz : n = 0
          · have hzd : ((n : Int) == 0) = true := by rw [hz]; rfl
            have x1 : Hid (sumE Ln = 1) := by rw [Hid, sumE, if_pos (by omega)]
            clear hz
            go_wp2_with fail
            go_meet
            exact ⟨by rw [x1.out], hc3⟩
          · have hzd : ((n : Int) == 0) = false := beq_eq_false_iff_ne.2 (by omega)
            have x1 : Hid (sumE Ln = mayN Ln) := by rw [Hid, sumE, if_neg (by omega)]
            clear hz
            go_wp2_with fail
            go_meet
            exact ⟨by rw [x1.out], hc3⟩
        case rest =>
        obtain ⟨rfl, hc3⟩ := hcut
        obtain ⟨r, hr⟩ : ∃ r, r = sumE Ln := ⟨_, rfl⟩
        obtain ⟨sm, hsm⟩ : ∃ x, x = sumT Ln := ⟨_, rfl⟩
        rw [← hr, ← hsm]
        have HR := Lib.hid hr
        have HS := Lib.hid hsm
        clear hr hsm
        obtain ⟨W6, rfl⟩ : ∃ W6 : World, W6 = wc := ⟨_, rfl⟩
        go_upto_if 47 with (fail)
        go_cut [8, 9] from 47 to 63 (fun wt ii wx => wt = .string sm ∧ Below W3.heap.size W3 wx)
        case first =>
          by_cases hz : sumE Ln = 0
          · have hrd : (r == 0) = true := by rw [HR.out, hz]; rfl
            obtain ⟨h0, hm⟩ := sumE_zero hz
            have hall := may_all hm
            obtain ⟨m, hm2⟩ : ∃ m, m = (Ln.getD 0 ByteArray.empty).size := ⟨_, rfl⟩
            rw [← hm2] at hall
            have HA : Hid (∀ s ∈ Ln, s.size = m) := fun s hs => (hall s hs).2
            have hm8 : m ≤ 8192 := by rw [← (hall _ (List.getElem_mem h0)).2]; exact (hall _ (List.getElem_mem h0)).1
            have HE : Hid (wantK Ln m Ln.length = sm) := by rw [Hid, HS.out, sumT, if_pos hz, sumS_want Ln hm2.symm]
            have H1 : Hid (wantK Ln m 1 = Ln[0]'h0) := wantK_one HA.out h0
            obtain ⟨b, o, rfl, hbl, hcell⟩ := (HL3.out _ hc3).at_ (by omega : 0 < L.length)
            rw [Nat.add_zero] at hcell
            obtain ⟨hx, hg0⟩ := HGn.out 0 (by omega)
            rw [hg0] at hcell
            rw [← H1.out] at hcell
            have i0 : (0 : Int) < (L.length : Int) := by omega
            have e0 := HK.out _ hc3
            clear hm hall hm2 hz hg0 hx
            rw [hrd]
            go_wp2_with fail
            go_loopw [8, 9] (fun wt ii wr => ∃ k : Nat, ii = .int .i64 k ∧ 1 ≤ k ∧ k ≤ n ∧ wt = .string (wantK Ln m k) ∧ Below W3.heap.size W3 wr) (fun _ ii _ => n - (intOf ii).toNat)
            case atStart => exact ⟨1, rfl, by omega, by omega, rfl, hc3⟩
            case round =>
              clear hc3 e0 hcell
              obtain ⟨k, rfl, hk1, hk, rfl, hc3⟩ := hrel
              have e0 := HK.out _ hc3
              by_cases hkn : k < n
              · obtain ⟨b', o', eA, _, hcell⟩ := (HL3.out _ hc3).at_ (by omega : k < L.length)
                cases eA
                obtain ⟨hx, hg0⟩ := HGn.out k hkn
                rw [hg0] at hcell
                have hks : (Ln[k]'(by omega)).size = m := HA.out _ (List.getElem_mem _)
                have HNX := Lib.hid (wantK_succ HA.out (by omega : k < Ln.length))
                have hwz : (wantK Ln m k).size = m := wantK_size (by omega)
                generalize Ln[k]'(by omega) = u at *
                have i1 : (0 : Int) ≤ (k : Int) := by omega
                have i2 : (k : Int) < (L.length : Int) := by omega
                have hc3' := Lib.hid hc3
                clear hg0 hx
                generalize wantK Ln m k = ww at *
                go_wp2_with fail
                refine (refAdded_any ww u _ (by omega) (by omega) (by omega)).mono ?_
                rintro e W8 ⟨rfl, hb⟩
                have hc3 := cum2 hc3 hb
                rw [← HNX.out]
                clear hb hc3' e0 hcell
                go_wp2_with fail
                go_roundw
                case rel => exact ⟨k + 1, by go_num, by omega, by omega, rfl, hc3⟩
                case measure => simp [intOf]; omega
              · have hke : k = Ln.length := by omega
                have HE2 : Hid (wantK Ln m k = sm) := by rw [hke]; exact HE
                clear hke
                rw [HE2.out]
                go_wp2_with fail
                go_meet
                exact ⟨rfl, hc3⟩
          · have hrd : (r == 0) = false := beq_eq_false_iff_ne.2 (by rw [HR.out]; exact hz)
            have x1 : Hid (sm = ⟨#[]⟩) := by rw [Hid, HS.out, sumT, if_neg hz]
            clear hz
            go_wp2_with fail
            go_meet
            exact ⟨by rw [x1.out], hc3⟩
        case rest =>
        obtain ⟨rfl, hc3⟩ := hcut
        have e0 := HK.out _ hc3
        go_wp2_with (go_at_call 9; refine (num2_any _ _).mono ?_; rintro e w' ⟨rfl, rfl⟩)
        refine (eqStrs6_yes _ _ Ln _ (HIN.out _ hc3) (HTn3.out _ hc3).row (by omega)).mono ?_
        rintro e W9 ⟨rfl, hb⟩
        have hcum := cum2 HC3.out (cum2 hc3 hb)
        clear hb e0
        go_wp2_with fail
        go_roundw
        case rel => exact ⟨n + 1, by go_num, by omega, by omega, hcum⟩
        case measure => simp [intOf]; omega
      · by_cases hl1 : n ≤ L.length
        · have hnd : decide ((n : Int) ≤ 5) = false := by simp; omega
          clear d0 HL1 HTT1
          have hx2 := within_bd N 300 (by omega) (by omega)
          go_upto_region 19 with (fail)
          go_cut [10] from 82 to 87 (fun v wx => v = .slice (some ⟨wo.heap.size, 0, none⟩) 4 4 ∧ Hid (∀ k, k < 4 → wx.cell? ⟨wo.heap.size, k, none⟩ = some (.int .i64 ([N, withinI N 300, 8192, 8193].getD k 0))) ∧ wo.heap.size < wx.heap.size ∧ Below w1.heap.size w1 wx)
          case first =>
            go_region_with (first | (go_at_call 21; refine (within_any _ _ _ (by omega) (by omega)).mono ?_; rintro e w' ⟨rfl, rfl⟩))
            all_goals
              go_wp2_with fail
              go_meet
              first
                | exact ⟨rfl, fun k hk => nums_lit wo _ _ _ _ _ hk, (by show wo.heap.size < (wo.alloc _).heap.size; simp), Below.drew (hcum.alloc hcum.size _)⟩
                | exact ⟨rfl, fun k hk => nums_lit wo.drew _ _ _ _ _ hk, (by show wo.drew.heap.size < (wo.drew.alloc _).heap.size; simp), (Below.drew hcum).alloc (Below.drew hcum).size _⟩
                | exact ⟨rfl, fun k hk => nums_lit wo.drew _ _ _ _ _ hk, (by show wo.drew.heap.size < (wo.drew.alloc _).heap.size; simp), Below.drew ((Below.drew hcum).alloc (Below.drew hcum).size _)⟩
          case rest =>
          obtain ⟨rfl, H4, hlt4, hcum⟩ := hcut
          clear e0 e2 hx2
          obtain ⟨W4, rfl⟩ : ∃ W4 : World, W4 = wc := ⟨_, rfl⟩
          generalize wo.heap.size = B4 at *
          go_wp2_with fail
          go_loopw [11] (fun i wr => ∃ k : Nat, i = .int .i64 k ∧ k ≤ 4 ∧ Below W4.heap.size W4 wr) (fun i _ => 4 - (intOf i).toNat)
          case atStart => exact ⟨0, rfl, by omega, Below.refl _ _⟩
          case round =>
            obtain ⟨k, rfl, hk, hc4⟩ := hrel
            by_cases hk4 : k < 4
            · have hcell := below_celllt (H4.out k hk4) hlt4 hc4
              generalize [N, withinI N 300, 8192, 8193].getD k 0 = z at hcell
              have hkd : decide ((k : Int) < 4) = true := by simp; omega
              have i0 : (0 : Int) ≤ (k : Int) := by omega
              have i1 : (k : Int) < 4 := by omega
              go_wp2_with fail
              refine (zero_all z _).mono ?_
              rintro e W5 ⟨rfl, hb⟩
              have hcell := below_celllt hcell (Nat.lt_of_lt_of_le hlt4 hc4.size) hb
              have hc4 := cum2 hc4 hb
              clear hb
              obtain ⟨ze, hze⟩ : ∃ ze, ze = zeE z := ⟨_, rfl⟩
              obtain ⟨zs, hzs⟩ : ∃ zs, zs = zeS z := ⟨_, rfl⟩
              rw [← hze, ← hzs]
              have HZE := Lib.hid hze
              have HZS := Lib.hid hzs
              clear hze hzs
              obtain ⟨bz, hbz⟩ : ∃ bz, decide (0 ≤ z ∧ z ≤ 8192) = bz := ⟨_, rfl⟩
              have HBZ := Lib.hid hbz
              clear hbz
              go_upto_if 106 with (first | (go_at_call 23; refine (refNum2_any _ _ _).mono ?_; rintro e w' ⟨rfl, rfl⟩; rw [HBZ.out]))
              go_cut [14, 15] from 106 to 112 (fun bd wt wx => bd = .int .i64 ze ∧ wt = .string zs ∧ Below W4.heap.size W4 wx)
              case first =>
                by_cases hz : 0 ≤ z ∧ z ≤ 8192
                · have x1 : Hid (ze = 0) := by rw [Hid, HZE.out, zeE, if_pos hz]
                  have x2 : Hid (zs = zeroS z.toNat) := by rw [Hid, HZS.out, zeS, if_pos hz]
                  obtain rfl : bz = true := by rw [← HBZ.out]; exact decide_eq_true hz
                  clear HBZ
                  obtain ⟨m, rfl⟩ : ∃ m : Nat, z = (m : Int) := ⟨z.toNat, by omega⟩
                  rw [Int.toNat_natCast] at x2
                  have hmk := hmk8 (n := m) (by omega)
                  have hcv : ∀ W : World, (convert 25 9 (.slice (some ⟨W.heap.size, 0, none⟩) m m)).run Try.prog (W.alloc (.cells (cellsOf8 (List.replicate m 0)) 5)) = .ok (.string (zeroS m)) (W.alloc (.cells (cellsOf8 (List.replicate m 0)) 5)) := fun W => by
                    have hB : BytesBlk (W.alloc (.cells (cellsOf8 (List.replicate m 0)) 5)) W.heap.size (List.replicate m 0) := bytesBlk_new W (ns := List.replicate m 0) rfl _ (by intro x hx; rw [List.eq_of_mem_replicate hx]; decide)
                    have := convert_bytes (P := Try.prog) (b := W.heap.size) (off := 0) (cap := m) (ns := List.replicate m 0) Try.underlying25 Try.underlying5 Try.underlying9 (BytesBlk.cells hB)
                    rw [List.length_replicate] at this
                    exact this
                  have hcvd : ∀ W : World, (convert 25 9 (.slice (some ⟨W.heap.size, 0, none⟩) m m)).run Try.prog (W.alloc (.cells (cellsOf8 (List.replicate m 0)) 5)).drew = .ok (.string (zeroS m)) (W.alloc (.cells (cellsOf8 (List.replicate m 0)) 5)).drew := fun W => by
                    have hB : BytesBlk (W.alloc (.cells (cellsOf8 (List.replicate m 0)) 5)) W.heap.size (List.replicate m 0) := bytesBlk_new W (ns := List.replicate m 0) rfl _ (by intro x hx; rw [List.eq_of_mem_replicate hx]; decide)
                    have := convert_bytes (P := Try.prog) (b := W.heap.size) (off := 0) (cap := m) (ns := List.replicate m 0) Try.underlying25 Try.underlying5 Try.underlying9 (BytesBlk.cells (BytesBlk.drew hB))
                    rw [List.length_replicate] at this
                    exact this
                  obtain ⟨C, hC⟩ : ∃ C, C = cellsOf8 (List.replicate m 0) := ⟨_, rfl⟩
                  rw [← hC] at hmk hcv hcvd
                  clear hC hz
                  go_wp2_with fail
                  go_region_with (fail)
                  all_goals
                    go_wp2_with fail
                    go_meet
                    exact ⟨by rw [x1.out], by rw [x2.out], by first | exact Below.drew (hc4.alloc hc4.size _) | exact (Below.drew hc4).alloc (Below.drew hc4).size _ | exact Below.drew ((Below.drew hc4).alloc (Below.drew hc4).size _)⟩
                · have x1 : Hid (ze = 1) := by rw [Hid, HZE.out, zeE, if_neg hz]
                  have x2 : Hid (zs = ⟨#[]⟩) := by rw [Hid, HZS.out, zeS, if_neg hz]
                  obtain rfl : bz = false := by rw [← HBZ.out]; exact decide_eq_false hz
                  clear HBZ
                  go_wp2_with fail
                  go_meet
                  exact ⟨by rw [x1.out], by rw [x2.out], hc4⟩
              case rest =>
              obtain ⟨rfl, rfl, hc4⟩ := hcut
              go_wp2_with (go_at_call 9; refine (num2_any _ _).mono ?_; rintro e w' ⟨rfl, rfl⟩)
              go_roundw
              case rel => exact ⟨k + 1, by go_num, by omega, hc4⟩
              case measure => simp [intOf]; omega
            · have hkd : decide ((k : Int) < 4) = false := by simp; omega
              have hcum := cum2 hcum hc4
              go_wp2_with fail
              refine (wakes2_any _).mono ?_
              rintro e w3 ⟨rfl, hb4⟩
              have hx := hcum.trans (hb4.mono hcum.size)
              have hx2 := hb2.trans (hx.mono hb2.size)
              clear hb4
              go_wp2_with fail
              go_ret
              exact ⟨rfl, hx2⟩
        · skip
          clear d0 HL1 HTT1
          have hx2 := within_bd N 300 (by omega) (by omega)
          go_upto_region 19 with (fail)
          go_cut [10] from 82 to 87 (fun v wx => v = .slice (some ⟨wo.heap.size, 0, none⟩) 4 4 ∧ Hid (∀ k, k < 4 → wx.cell? ⟨wo.heap.size, k, none⟩ = some (.int .i64 ([N, withinI N 300, 8192, 8193].getD k 0))) ∧ wo.heap.size < wx.heap.size ∧ Below w1.heap.size w1 wx)
          case first =>
            go_region_with (first | (go_at_call 21; refine (within_any _ _ _ (by omega) (by omega)).mono ?_; rintro e w' ⟨rfl, rfl⟩))
            all_goals
              go_wp2_with fail
              go_meet
              first
                | exact ⟨rfl, fun k hk => nums_lit wo _ _ _ _ _ hk, (by show wo.heap.size < (wo.alloc _).heap.size; simp), Below.drew (hcum.alloc hcum.size _)⟩
                | exact ⟨rfl, fun k hk => nums_lit wo.drew _ _ _ _ _ hk, (by show wo.drew.heap.size < (wo.drew.alloc _).heap.size; simp), (Below.drew hcum).alloc (Below.drew hcum).size _⟩
                | exact ⟨rfl, fun k hk => nums_lit wo.drew _ _ _ _ _ hk, (by show wo.drew.heap.size < (wo.drew.alloc _).heap.size; simp), Below.drew ((Below.drew hcum).alloc (Below.drew hcum).size _)⟩
          case rest =>
          obtain ⟨rfl, H4, hlt4, hcum⟩ := hcut
          clear e0 e2 hx2
          obtain ⟨W4, rfl⟩ : ∃ W4 : World, W4 = wc := ⟨_, rfl⟩
          generalize wo.heap.size = B4 at *
          go_wp2_with fail
          go_loopw [11] (fun i wr => ∃ k : Nat, i = .int .i64 k ∧ k ≤ 4 ∧ Below W4.heap.size W4 wr) (fun i _ => 4 - (intOf i).toNat)
          case atStart => exact ⟨0, rfl, by omega, Below.refl _ _⟩
          case round =>
            obtain ⟨k, rfl, hk, hc4⟩ := hrel
            by_cases hk4 : k < 4
            · have hcell := below_celllt (H4.out k hk4) hlt4 hc4
              generalize [N, withinI N 300, 8192, 8193].getD k 0 = z at hcell
              have hkd : decide ((k : Int) < 4) = true := by simp; omega
              have i0 : (0 : Int) ≤ (k : Int) := by omega
              have i1 : (k : Int) < 4 := by omega
              go_wp2_with fail
              refine (zero_all z _).mono ?_
              rintro e W5 ⟨rfl, hb⟩
              have hcell := below_celllt hcell (Nat.lt_of_lt_of_le hlt4 hc4.size) hb
              have hc4 := cum2 hc4 hb
              clear hb
              obtain ⟨ze, hze⟩ : ∃ ze, ze = zeE z := ⟨_, rfl⟩
              obtain ⟨zs, hzs⟩ : ∃ zs, zs = zeS z := ⟨_, rfl⟩
              rw [← hze, ← hzs]
              have HZE := Lib.hid hze
              have HZS := Lib.hid hzs
              clear hze hzs
              obtain ⟨bz, hbz⟩ : ∃ bz, decide (0 ≤ z ∧ z ≤ 8192) = bz := ⟨_, rfl⟩
              have HBZ := Lib.hid hbz
              clear hbz
              go_upto_if 106 with (first | (go_at_call 23; refine (refNum2_any _ _ _).mono ?_; rintro e w' ⟨rfl, rfl⟩; rw [HBZ.out]))
              go_cut [14, 15] from 106 to 112 (fun bd wt wx => bd = .int .i64 ze ∧ wt = .string zs ∧ Below W4.heap.size W4 wx)
              case first =>
                by_cases hz : 0 ≤ z ∧ z ≤ 8192
                · have x1 : Hid (ze = 0) := by rw [Hid, HZE.out, zeE, if_pos hz]
                  have x2 : Hid (zs = zeroS z.toNat) := by rw [Hid, HZS.out, zeS, if_pos hz]
                  obtain rfl : bz = true := by rw [← HBZ.out]; exact decide_eq_true hz
                  clear HBZ
                  obtain ⟨m, rfl⟩ : ∃ m : Nat, z = (m : Int) := ⟨z.toNat, by omega⟩
                  rw [Int.toNat_natCast] at x2
                  have hmk := hmk8 (n := m) (by omega)
                  have hcv : ∀ W : World, (convert 25 9 (.slice (some ⟨W.heap.size, 0, none⟩) m m)).run Try.prog (W.alloc (.cells (cellsOf8 (List.replicate m 0)) 5)) = .ok (.string (zeroS m)) (W.alloc (.cells (cellsOf8 (List.replicate m 0)) 5)) := fun W => by
                    have hB : BytesBlk (W.alloc (.cells (cellsOf8 (List.replicate m 0)) 5)) W.heap.size (List.replicate m 0) := bytesBlk_new W (ns := List.replicate m 0) rfl _ (by intro x hx; rw [List.eq_of_mem_replicate hx]; decide)
                    have := convert_bytes (P := Try.prog) (b := W.heap.size) (off := 0) (cap := m) (ns := List.replicate m 0) Try.underlying25 Try.underlying5 Try.underlying9 (BytesBlk.cells hB)
                    rw [List.length_replicate] at this
                    exact this
                  have hcvd : ∀ W : World, (convert 25 9 (.slice (some ⟨W.heap.size, 0, none⟩) m m)).run Try.prog (W.alloc (.cells (cellsOf8 (List.replicate m 0)) 5)).drew = .ok (.string (zeroS m)) (W.alloc (.cells (cellsOf8 (List.replicate m 0)) 5)).drew := fun W => by
                    have hB : BytesBlk (W.alloc (.cells (cellsOf8 (List.replicate m 0)) 5)) W.heap.size (List.replicate m 0) := bytesBlk_new W (ns := List.replicate m 0) rfl _ (by intro x hx; rw [List.eq_of_mem_replicate hx]; decide)
                    have := convert_bytes (P := Try.prog) (b := W.heap.size) (off := 0) (cap := m) (ns := List.replicate m 0) Try.underlying25 Try.underlying5 Try.underlying9 (BytesBlk.cells (BytesBlk.drew hB))
                    rw [List.length_replicate] at this
                    exact this
                  obtain ⟨C, hC⟩ : ∃ C, C = cellsOf8 (List.replicate m 0) := ⟨_, rfl⟩
                  rw [← hC] at hmk hcv hcvd
                  clear hC hz
                  go_wp2_with fail
                  go_region_with (fail)
                  all_goals
                    go_wp2_with fail
                    go_meet
                    exact ⟨by rw [x1.out], by rw [x2.out], by first | exact Below.drew (hc4.alloc hc4.size _) | exact (Below.drew hc4).alloc (Below.drew hc4).size _ | exact Below.drew ((Below.drew hc4).alloc (Below.drew hc4).size _)⟩
                · have x1 : Hid (ze = 1) := by rw [Hid, HZE.out, zeE, if_neg hz]
                  have x2 : Hid (zs = ⟨#[]⟩) := by rw [Hid, HZS.out, zeS, if_neg hz]
                  obtain rfl : bz = false := by rw [← HBZ.out]; exact decide_eq_false hz
                  clear HBZ
                  go_wp2_with fail
                  go_meet
                  exact ⟨by rw [x1.out], by rw [x2.out], hc4⟩
              case rest =>
              obtain ⟨rfl, rfl, hc4⟩ := hcut
              go_wp2_with (go_at_call 9; refine (num2_any _ _).mono ?_; rintro e w' ⟨rfl, rfl⟩)
              go_roundw
              case rel => exact ⟨k + 1, by go_num, by omega, hc4⟩
              case measure => simp [intOf]; omega
            · have hkd : decide ((k : Int) < 4) = false := by simp; omega
              have hcum := cum2 hcum hc4
              go_wp2_with fail
              refine (wakes2_any _).mono ?_
              rintro e w3 ⟨rfl, hb4⟩
              have hx := hcum.trans (hb4.mono hcum.size)
              have hx2 := hb2.trans (hx.mono hb2.size)
              clear hb4
              go_wp2_with fail
              go_ret
              exact ⟨rfl, hx2⟩
  · go_wp2_with fail
    go_ret
    exact ⟨rfl, hb2⟩
end Go.Proofs.Ytdbdpdeehfeaiaa
