/- DigestLengths, walked. -/
import Derived.Test.YtnpngkbcfkolnaaDigH
import Derived.BigQuiet
import Derived.Deep.RegionHeld3
import Derived.Deep.DeepCutAuto
import Derived.Deep.CutRange
import Derived.StillTailTactics
namespace Go.Proofs.Ytnpngkbcfkolnaa
open Go.ChangeShapes Go.WideShapes Go.ChangeAt Go.RowKit Go.Joins
set_option linter.unusedVariables false
set_option linter.unusedSimpArgs false
attribute [local go_sem ↓] Go.wp_at_zero Go.wp_at_succ

theorem below_celllt' {W W' : World} {b j : Nat} {v : Value} (hc : W.cell? ⟨b, j, none⟩ = some v) (h : Below W.heap.size W W') : W'.cell? ⟨b, j, none⟩ = some v := by
  rw [h.cell (p := ⟨b, j, none⟩) (cell_block hc)]; exact hc

theorem keep2 {w w' : World} (h : Below w.drew.heap.size w.drew w') : Below w.heap.size w w' :=
  (show Below w.heap.size w w.drew from ⟨rfl, rfl, rfl, Nat.le_refl _, fun _ _ => rfl⟩).trans h
theorem keep0 (w : World) : Below w.heap.size w w.drew := ⟨rfl, rfl, rfl, Nat.le_refl _, fun _ _ => rfl⟩
theorem keep3 {w w' w2 : World} (h : Below w.drew.heap.size w.drew w') (k : Below w'.heap.size w' w2) : Below w.heap.size w w2 := (keep2 h).trans (k.mono (keep2 h).size)
theorem keep4 {W w a b : World} (h : Below W.heap.size W w) (h1 : Below w.drew.heap.size w.drew a) (h2 : Below a.heap.size a b) : Below W.heap.size W b := h.trans ((keep3 h1 h2).mono h.size)
theorem BytesBlk.next_int {w : World} {B k : Nat} {ns : List Nat} (h : BytesBlk w B ns) {y : Int} (h0 : 0 ≤ y) (h1 : y < 256) : BytesBlk (w.setCell ⟨B, k, none⟩ (.int .u8 y)) B (ns.set k y.toNat) := by
  have e : y = ((y.toNat : Nat) : Int) := by omega
  have := h.next (k := k) (v := y.toNat) (by omega)
  rwa [← e] at this
theorem BytesBlk.below {w w' : World} {B : Nat} {ns : List Nat} (h : BytesBlk w B ns) (hB : B < w.heap.size) (hb : Below w.heap.size w w') : BytesBlk w' B ns := by
  intro i hi
  obtain ⟨h1, h2, h3⟩ := h i hi
  exact ⟨h1, by rw [hb.cell (p := ⟨B, i, none⟩) hB]; exact h2, by rw [hb.frozen (p := ⟨B, i, none⟩) hB]; exact h3⟩
theorem mod256_bd (z : Int) : 0 ≤ z % 256 ∧ z % 256 < 256 := by omega
theorem xor8_bd (x y : Int) : 0 ≤ bits .xor .u8 x y ∧ bits .xor .u8 x y < 256 := by
  show 0 ≤ IntKind.u8.wrap _ ∧ IntKind.u8.wrap _ < 256
  rw [IntKind.wrap_u8]; omega

set_option maxRecDepth 100000 in
set_option maxHeartbeats 4000000 in
theorem digestLengths_walk (w : World) (vS : Value) (ss : List ByteArray) (hS : TextsIn w vS ss) :
    Calls Try.prog 3 #[.agg #[vS]] w fun e w' => e = .returned (.bool true) ∧ Below w.heap.size w w' := by
  have hF := box1_facts w vS 24
  have HT := Lib.hid (hS.below hF.1)
  obtain ⟨p, cap, rfl, h16, hs, hSl⟩ := hS
  have HSl := Lib.hid (hSl.below hF.1)
  have HBs := Lib.hid hs
  clear hSl hs
  go_enter Try.func3, Try.ntmps3
  go_wp2_with fail
  generalize w.alloc (Obj.cells #[Value.slice p ss.length cap] 24) = W at *
  obtain ⟨hbel, hc0, hsz⟩ := hF
  have HC0 := Lib.hid hc0
  have HSZ := Lib.hid hsz
  clear hc0 hsz
  refine (heavy6_any _ ss _ HT.out).mono ?_
  rintro e w1 ⟨heavy, hheavy, rfl, hb1⟩
  cases heavy with
  | true =>
    clear hheavy
    go_wp2_with fail
    go_ret
    exact ⟨rfl, hbel.trans (hb1.mono hbel.size)⟩
  | false =>
    have ht := hheavy rfl
    clear hheavy
    have hlW : w.heap.size < W.heap.size := by rw [HSZ.out]; omega
    have hc0 := below_box HC0 HSZ hb1
    go_upto_if 12 with (fail)
    go_cut [3] from 13 to 16 (fun v wx => ∃ t : ByteArray, v = .string t ∧ t.size ≤ 6000 ∧ Below W.heap.size W wx)
    case first =>
      by_cases h0 : 0 < ss.length
      · obtain ⟨b, off, s, rfl, hsz, HE, hcell⟩ := text_at (HSl.out.below hb1) HBs.out h0
        have hts : s.size ≤ 6000 := by have := total_get h0; rw [← HE.out] at this; omega
        clear HE
        rw [Nat.add_zero] at hcell
        go_wp2_with fail
        go_meet
        exact ⟨s, rfl, hts, hb1⟩
      · go_wp2_with fail
        go_meet
        exact ⟨_, rfl, by decide, hb1⟩
    case rest =>
    obtain ⟨t, rfl, ht6, hbc⟩ := hcut
    obtain ⟨tz, htz⟩ : ∃ tz, t.size = tz := ⟨_, rfl⟩
    rw [htz] at ht6
    clear hb1
    go_wp2_with fail
    go_loopw [4] (fun i wr => ∃ n : Nat, i = .int .i64 n ∧ n ≤ 132 ∧ Below W.heap.size W wr) (fun i _ => (132 - intOf i).toNat)
    case atStart => exact ⟨0, rfl, by omega, hbc⟩
    case round =>
      clear hbc
      obtain ⟨n, rfl, hn, hwr⟩ := hrel
      by_cases hlt : n < 132
      · have hnd : decide ((n : Int) < 132) = true := by simp; omega
        have hmk := hmk8 (n := n) (by omega)
        obtain ⟨C, hC⟩ : ∃ C, C = cellsOf8 (List.replicate n 0) := ⟨_, rfl⟩
        rw [← hC] at hmk
        have HCC := Lib.hid hC
        clear hC
        obtain ⟨wq, rfl⟩ : ∃ wq : World, wq = wr := ⟨_, rfl⟩
        go_wp2_with fail
        have HD0 : Hid (BytesBlk (wq.alloc (.cells C 5)) wq.heap.size (List.replicate n 0)) := by rw [HCC.out]; exact bytesBlk_new wq (ns := List.replicate n 0) rfl _ (by simp)
        have HB0 := Lib.hid (hwr.alloc hwr.size (.cells C 5))
        have hgs := hwr.size
        have hlt9 : wq.heap.size < (wq.alloc (.cells C 5)).heap.size := by simp
        clear hmk hwr
        generalize wq.alloc (.cells C 5) = W4 at *
        generalize wq.heap.size = Bb at *
        go_loopw [6] (fun i wr => ∃ (k : Nat) (ns : List Nat), i = .int .i64 k ∧ k ≤ n ∧ ns.length = n ∧ Bb < wr.heap.size ∧ Hid (BytesBlk wr Bb ns) ∧ Hid (Below W.heap.size W wr)) (fun i _ => n - (intOf i).toNat)
        case atStart => exact ⟨0, _, rfl, by omega, by simp, hlt9, HD0, HB0⟩
        case round =>
          clear HD0 HB0 hlt9
          obtain ⟨k, ns, rfl, hk, hns, hBl, HD, HB⟩ := hrel
          have HNS := Lib.hid hns
          have hns1 : ns.length ≤ 132 := by omega
          by_cases hkn : k < n
          · obtain ⟨c1, c2, c3⟩ := HD.out k (by omega)
            generalize ns.getD k 0 = old at c1 c2
            clear hns
            have i0 : (0 : Int) ≤ (k : Int) := by omega
            have i1 : (k : Int) < (n : Int) := by omega
            go_upto_region 13 with (fail)
            go_cut [] from 23 to 54 (fun wx => ∃ y : Int, 0 ≤ y ∧ y < 256 ∧ wx = wr.setCell ⟨Bb, k, none⟩ (.int .u8 y))
            case first =>
              go_wp2_with fail
              go_meet
              exact ⟨_, (mod256_bd _).1, (mod256_bd _).2, rfl⟩
            case rest =>
            obtain ⟨y, hy0, hy1, rfl⟩ := hcut
            have HD5 := Lib.hid (HD.out.next_int (k := k) hy0 hy1)
            have HB5 := Lib.hid (HB.out.setCell (p := ⟨Bb, k, none⟩) hgs (.int .u8 y))
            have hBl5 : Bb < (wr.setCell ⟨Bb, k, none⟩ (.int .u8 y)).heap.size := by rw [World.size_setCell]; exact hBl
            clear c1 c2 c3 HD HB hBl
            generalize wr.setCell ⟨Bb, k, none⟩ (.int .u8 y) = W5 at *
            by_cases ht0 : 0 < tz
            · obtain ⟨c1, c2, c3⟩ := HD5.out k (by rw [List.length_set, HNS.out]; exact hkn)
              generalize (ns.set k y.toNat).getD k 0 = old2 at c1 c2
              obtain ⟨r, hr⟩ : ∃ r : Nat, k % tz = r := ⟨_, rfl⟩
              have hrt' : r < tz := by rw [← hr]; exact Nat.mod_lt _ ht0
              have e1 : (k : Int).tmod (tz : Int) = (r : Int) := by rw [Int.tmod_eq_emod_of_nonneg (Int.natCast_nonneg _), ← hr]; exact (Int.natCast_emod k tz).symm
              have e2 : (0 : Int) ≤ (r : Int) := by omega
              have e5 : ¬ ((tz : Int) = 0) := by omega
              have e7 : ¬ (tz = 0) := by omega
              have e3 : (r : Int) < (tz : Int) := by omega
              clear hr
              have hrt : r < t.size := by rw [htz]; exact hrt'
              obtain ⟨c, hc⟩ : ∃ c : Nat, ∀ h : r < t.size, (t[r]'h).toNat = c := ⟨(t[r]'hrt).toNat, fun _ => rfl⟩
              go_upto_region 15 with (fail)
              go_still_tail 14, (by kernel_rfl)
              change wpList _ _ _ _ _ (World.drew _)
              go_wp2_with fail
              have hx := xor8_bd (old2 : Int) (c : Int)
              go_roundw
              case rel => exact ⟨k + 1, _, by go_num, by omega, by rw [List.length_set, List.length_set]; exact HNS.out, by show _ < (World.setCell _ _ _).heap.size; rw [World.size_setCell]; exact hBl5, Lib.hid (HD5.out.next_int (k := k) hx.1 hx.2).drew, Lib.hid (HB5.out.setCell (p := ⟨Bb, k, none⟩) hgs _).drew⟩
              case measure => simp [intOf]; omega
            · go_wp2_with fail
              go_roundw
              case rel => exact ⟨k + 1, _, by go_num, by omega, by rw [List.length_set]; exact HNS.out, hBl5, HD5, HB5⟩
              case measure => simp [intOf]; omega
          · have hcv : ∀ W', Below wr.heap.size wr W' → (convert 26 9 (.slice (some ⟨Bb, 0, none⟩) n n)).run Try.prog W' = .ok (.string (strOf8 ns)) W' := fun W' h => by
              have := convert_bytes (P := Try.prog) (w := W') (b := Bb) (off := 0) (cap := n) (ns := ns) Try.underlying26 Try.underlying5 Try.underlying9 (BytesBlk.cells (HD.out.below hBl h))
              rwa [hns] at this
            have hsz : (strOf8 ns).size ≤ 132 := by rw [strOf8_size]; omega
            obtain ⟨wq, rfl⟩ : ∃ wq : World, wq = wr := ⟨_, rfl⟩
            generalize strOf8 ns = s at *
            have HKK := Lib.hid hcv
            clear hcv hns
            go_wp2_with fail
            go_region_held3 (fun W' => (convert 26 9 (.slice (some ⟨Bb, 0, none⟩) n n)).run Try.prog W' = .ok (.string s) W') (first | exact HKK.out _ (keep0 _) | exact HKK.out _ (keep2 (by assumption)) | exact HKK.out _ (keep3 (by assumption) (by assumption)))
              (first | (go_at_call 9; refine (of_any _ _ (by omega)).mono ?_; rintro e w' ⟨rfl, hbx⟩) | (go_at_call 10; refine (refDigest_any _ _ (by omega)).mono ?_; rintro e w' ⟨rfl, hby⟩))
            all_goals
              first | have hfin := keep4 HB.out hbx hby | have hfin := keep4 HB.out hby hbx
              go_wp2_with fail
              go_roundw
              case rel => exact ⟨n + 1, by go_num, by omega, hfin⟩
              case measure => simp [intOf]; omega
      · go_wp2_with fail
        refine (wakes6_any _).mono ?_
        rintro e w7 ⟨rfl, hb7⟩
        have hx := hbel.trans ((hwr.trans (hb7.mono hwr.size)).mono hbel.size)
        clear hb7
        go_wp2_with fail
        go_ret
        exact ⟨rfl, hx⟩
end Go.Proofs.Ytnpngkbcfkolnaa
