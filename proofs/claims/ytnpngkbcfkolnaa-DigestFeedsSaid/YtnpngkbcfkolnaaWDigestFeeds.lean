/- DigestFeeds, walked. -/
import Derived.Test.YtnpngkbcfkolnaaDigH
import Derived.BigQuiet
import Derived.Deep.RegionHeld3
namespace Go.Proofs.Ytnpngkbcfkolnaa
open Go.ChangeShapes Go.WideShapes Go.ChangeAt Go.RowKit Go.Joins
set_option linter.unusedVariables false
set_option linter.unusedSimpArgs false
attribute [local go_sem ↓] Go.wp_at_zero Go.wp_at_succ

theorem below_celllt' {W W' : World} {b j : Nat} {v : Value} (hc : W.cell? ⟨b, j, none⟩ = some v) (h : Below W.heap.size W W') : W'.cell? ⟨b, j, none⟩ = some v := by
  rw [h.cell (p := ⟨b, j, none⟩) (cell_block hc)]; exact hc

set_option maxRecDepth 100000 in
set_option maxHeartbeats 4000000 in
theorem digestFeeds_walk (w : World) (vS : Value) (ss : List ByteArray) (hS : TextsIn w vS ss) :
    Calls Try.prog 5 #[.agg #[vS]] w fun e w' => e = .returned (.bool true) ∧ Below w.heap.size w w' := by
  have hF := box1_facts w vS 24
  have HT := Lib.hid (hS.below hF.1)
  obtain ⟨p, cap, rfl, h16, hs, hSl⟩ := hS
  have HSl := Lib.hid (hSl.below hF.1)
  have HBs := Lib.hid hs
  clear hSl hs
  go_enter Try.func5, Try.ntmps5
  go_wp2_with fail
  generalize w.alloc (Obj.cells #[Value.slice p ss.length cap] 24) = W at *
  obtain ⟨hbel, hc0, hsz⟩ := hF
  have HC0 := Lib.hid hc0
  have HSZ := Lib.hid hsz
  clear hc0 hsz
  refine (heavy6_any _ ss _ HT.out).mono ?_
  rintro e w1 ⟨heavy, hheavy, rfl, hb1⟩
  cases heavy with
  | true =>
    clear hheavy
    go_wp2_with fail
    go_ret
    exact ⟨rfl, hbel.trans (hb1.mono hbel.size)⟩
  | false =>
    have ht := hheavy rfl
    clear hheavy
    have hlW : w.heap.size < W.heap.size := by rw [HSZ.out]; omega
    go_wp2_with fail
    refine (new_any _).mono ?_
    rintro e w2 ⟨g, rfl, hg, hh, hb2⟩
    have hwA := hb1.trans (hb2.mono hb1.size)
    have hgW : W.heap.size ≤ g := Nat.le_trans hb1.size hg
    have HH0 := Lib.hid hh
    have HB0 := Lib.hid hwA
    clear hb2 hh hb1 hwA
    go_wp2_with fail
    go_loopw [4, 5] (fun t i wr => ∃ (k : Nat) (T : ByteArray), i = .int .i64 k ∧ t = .string T ∧ k ≤ 12 ∧ T.size ≤ 6000 * k ∧ Hid (HashOf wr g T) ∧ Hid (Below W.heap.size W wr)) (fun _ i _ => (12 - intOf i).toNat)
    case atStart => exact ⟨0, ByteArray.empty, rfl, rfl, by omega, by simp, HH0, HB0⟩
    case round =>
      clear HH0 HB0
      obtain ⟨k, T, rfl, rfl, hk, hT, HH, HB⟩ := hrel
      have hc0 := below_box HC0 HSZ HB.out
      have hT1 : T.size ≤ 72000 := by omega
      by_cases h4 : k < ss.length ∧ k < 12
      · obtain ⟨h3, h4⟩ := h4
        have hk4 : decide ((k : Int) < 12) = true := by simp; omega
        obtain ⟨b, off, s, rfl, hsz, HE, hcell⟩ := text_at (HSl.out.below HB.out) HBs.out h3
        have hts : s.size ≤ 6000 := by have := total_get h3; rw [← HE.out] at this; omega
        have hcW : W.cell? ⟨b, off + k, none⟩ = some (.string s) := by
          obtain ⟨b', off', hp, hlt', hcc⟩ := HSl.out.2 k h3
          cases hp
          rw [hcc, HE.out]
        have HCW := Lib.hid hcW
        clear HE hcW
        go_wp2_with fail
        refine (write_any g T s _ HH.out (by omega)).mono ?_
        rintro e w3 ⟨rfl, hh, hkp⟩
        have HH3 := Lib.hid hh
        have HB3 := Lib.hid (HB.out.trans (hkp.below HB.out.size (fun k hk' e => by subst e; omega)))
        have hTs : (T ++ s).size ≤ 6000 * (k + 1) := by rw [ByteArray.size_append]; omega
        have hTs2 : (T ++ s).size ≤ 78000 := by rw [ByteArray.size_append]; omega
        clear hh hkp HH HB hc0 hcell
        have hc0 := below_box HC0 HSZ HB3.out
        have hcell : w3.cell? ⟨b, off + k, none⟩ = some (.string s) := below_celllt' HCW.out HB3.out
        go_wp2_with fail
        generalize T ++ s = T2 at *
        refine (len_any g T2 _ HH3.out).mono ?_
        rintro e w4 ⟨rfl, rfl⟩
        go_wp2_with fail
        refine (sum_any g T2 _ HH3.out (by omega)).mono ?_
        rintro e w5 ⟨rfl, hb5⟩
        have HH5 := Lib.hid (CellsAt.below HH3.out hb5)
        have HB5 := Lib.hid (HB3.out.trans (hb5.mono HB3.out.size))
        clear hb5 HH3 HB3 hc0 hcell
        go_wp2_with fail
        refine (refDigest_any T2 _ (by omega)).mono ?_
        rintro e w6 ⟨rfl, hb6⟩
        have HH6 := Lib.hid (CellsAt.below HH5.out hb6)
        have HB6 := Lib.hid (HB5.out.trans (hb6.mono HB5.out.size))
        clear hb6 HH5 HB5
        go_wp2_with fail
        refine (sum_any g T2 _ HH6.out (by omega)).mono ?_
        rintro e w7 ⟨rfl, hb7⟩
        have HH7 := Lib.hid (CellsAt.below HH6.out hb7)
        have HB7 := Lib.hid (HB6.out.trans (hb7.mono HB6.out.size))
        clear hb7 HH6 HB6
        go_wp2_with fail
        refine (of_any T2 _ (by omega)).mono ?_
        rintro e w8 ⟨rfl, hb8⟩
        have HH8 := Lib.hid (CellsAt.below HH7.out hb8)
        have HB8 := Lib.hid (HB7.out.trans (hb8.mono HB7.out.size))
        clear hb8 HH7 HB7
        go_wp2_with fail
        go_roundw
        case rel => exact ⟨k + 1, T2, by go_num, rfl, by omega, hTs, HH8, HB8⟩
        case measure => simp [intOf]; omega
      · by_cases h3 : k < ss.length
        · have hk6 : decide ((k : Int) < 12) = false := by simp; omega
          go_wp2_with fail
          refine (len_any g T _ HH.out).mono ?_
          rintro e w4 ⟨rfl, rfl⟩
          go_wp2_with fail
          refine (sum_any g T _ HH.out (by omega)).mono ?_
          rintro e w5 ⟨rfl, hb5⟩
          have HB5 := Lib.hid (HB.out.trans (hb5.mono HB.out.size))
          clear hb5 HH hc0
          go_wp2_with fail
          refine (refDigest_any T _ (by omega)).mono ?_
          rintro e w6 ⟨rfl, hb6⟩
          have HB6 := Lib.hid (HB5.out.trans (hb6.mono HB5.out.size))
          clear hb6 HB5
          go_wp2_with fail
          refine (wakes6_any _).mono ?_
          rintro e w7 ⟨rfl, hb7⟩
          have hx := HB6.out.trans (hb7.mono HB6.out.size)
          clear hb7
          go_wp2_with fail
          go_ret
          exact ⟨rfl, hbel.trans (hx.mono hbel.size)⟩
        · have hk3 : ¬ (k : Int) < (ss.length : Int) := by omega
          go_wp2_with fail
          refine (len_any g T _ HH.out).mono ?_
          rintro e w4 ⟨rfl, rfl⟩
          go_wp2_with fail
          refine (sum_any g T _ HH.out (by omega)).mono ?_
          rintro e w5 ⟨rfl, hb5⟩
          have HB5 := Lib.hid (HB.out.trans (hb5.mono HB.out.size))
          clear hb5 HH hc0
          go_wp2_with fail
          refine (refDigest_any T _ (by omega)).mono ?_
          rintro e w6 ⟨rfl, hb6⟩
          have HB6 := Lib.hid (HB5.out.trans (hb6.mono HB5.out.size))
          clear hb6 HB5
          go_wp2_with fail
          refine (wakes6_any _).mono ?_
          rintro e w7 ⟨rfl, hb7⟩
          have hx := HB6.out.trans (hb7.mono HB6.out.size)
          clear hb7
          go_wp2_with fail
          go_ret
          exact ⟨rfl, hbel.trans (hx.mono hbel.size)⟩
end Go.Proofs.Ytnpngkbcfkolnaa
