/- DigestOf, walked. -/
import Derived.Test.YtnpngkbcfkolnaaDigH
import Derived.BigQuiet
import Derived.Deep.RegionHeld3
namespace Go.Proofs.Ytnpngkbcfkolnaa
open Go.ChangeShapes Go.WideShapes Go.ChangeAt Go.RowKit Go.Joins
set_option linter.unusedVariables false
set_option linter.unusedSimpArgs false
attribute [local go_sem ↓] Go.wp_at_zero Go.wp_at_succ

theorem keep2 {w w' : World} (h : Below w.drew.heap.size w.drew w') : Below w.heap.size w w' :=
  (show Below w.heap.size w w.drew from ⟨rfl, rfl, rfl, Nat.le_refl _, fun _ _ => rfl⟩).trans h
theorem keep3 {w w' w2 : World} (h : Below w.drew.heap.size w.drew w') (k : Below w'.heap.size w' w2) : Below w.heap.size w w2 := (keep2 h).trans (k.mono (keep2 h).size)

theorem keep4 {W w a b : World} (h : Below W.heap.size W w) (h1 : Below w.drew.heap.size w.drew a) (h2 : Below a.heap.size a b) : Below W.heap.size W b := h.trans ((keep3 h1 h2).mono h.size)

set_option maxRecDepth 100000 in
set_option maxHeartbeats 4000000 in
theorem digestOf_walk (w : World) (vS : Value) (ss : List ByteArray) (hS : TextsIn w vS ss) :
    Calls Try.prog 4 #[.agg #[vS]] w fun e w' => e = .returned (.bool true) ∧ Below w.heap.size w w' := by
  have hF := box1_facts w vS 24
  have HT := Lib.hid (hS.below hF.1)
  obtain ⟨p, cap, rfl, h16, hs, hSl⟩ := hS
  have HSl := Lib.hid (hSl.below hF.1)
  have HBs := Lib.hid hs
  clear hSl hs
  have habc : digestS ⟨#[97, 98, 99]⟩ = ⟨#[80, 140, 94, 140, 50, 124, 20, 226, 225, 167, 43, 163, 78, 235, 69, 47, 55, 69, 139, 32, 158, 214, 58, 41, 77, 153, 155, 76, 134, 103, 89, 130]⟩ := by kernel_rfl
  have HABC := Lib.hid habc
  clear habc
  go_enter Try.func4, Try.ntmps4
  go_wp2_with fail
  generalize w.alloc (Obj.cells #[Value.slice p ss.length cap] 24) = W at *
  obtain ⟨hbel, hc0, hsz⟩ := hF
  have HC0 := Lib.hid hc0
  have HSZ := Lib.hid hsz
  clear hc0 hsz
  refine (heavy6_any _ ss _ HT.out).mono ?_
  rintro e w1 ⟨heavy, hheavy, rfl, hb1⟩
  cases heavy with
  | true =>
    clear hheavy
    go_wp2_with fail
    go_ret
    exact ⟨rfl, hbel.trans (hb1.mono hbel.size)⟩
  | false =>
    have ht := hheavy rfl
    clear hheavy
    have hlW : w.heap.size < W.heap.size := by rw [HSZ.out]; omega
    go_wp2_with fail
    go_loopw [3] (fun i wr => ∃ k : Nat, i = .int .i64 k ∧ k ≤ 6 ∧ Below W.heap.size W wr) (fun i _ => (6 - intOf i).toNat)
    case atStart => exact ⟨0, rfl, by omega, hb1⟩
    case round =>
      clear hb1
      obtain ⟨k, rfl, h1, hwo⟩ := hrel
      have hc0 := below_box HC0 HSZ hwo
      by_cases h4 : k < ss.length ∧ k < 6
      · obtain ⟨h3, h4⟩ := h4
        have hk4 : decide ((k : Int) < 6) = true := by simp; omega
        obtain ⟨b, off, s, rfl, hsz, HE, hcell⟩ := text_at (HSl.out.below hwo) HBs.out h3
        have hts : s.size ≤ 6000 := by have := total_get h3; rw [← HE.out] at this; omega
        have hbW : b < wr.heap.size := cell_block hcell
        have hwW : w.heap.size < wr.heap.size := Nat.lt_of_lt_of_le hlW hwo.size
        have i0 : (0 : Int) ≤ (k : Int) := by omega
        have i1 : (k : Int) < (ss.length : Int) := by omega
        obtain ⟨wq, rfl⟩ : ∃ wq : World, wq = wr := ⟨_, rfl⟩
        have HKK : Hid (∀ W', Below wq.heap.size wq W' → (W'.cell? ⟨w.heap.size, 0, none⟩ = some (.slice (some ⟨b, off, none⟩) ss.length cap) ∧ W'.cell? ⟨b, off + k, none⟩ = some (.string s))) := fun W' h => ⟨by rw [h.cell (p := ⟨w.heap.size, 0, none⟩) hwW]; exact hc0, by rw [h.cell (p := ⟨b, off + k, none⟩) hbW]; exact hcell⟩
        have HWO := Lib.hid hwo
        clear HE
        go_wp2_with fail
        go_region_held3 (fun W' => W'.cell? ⟨w.heap.size, 0, none⟩ = some (.slice (some ⟨b, off, none⟩) ss.length cap) ∧ W'.cell? ⟨b, off + k, none⟩ = some (.string s)) (first | go_keep | exact HKK.out _ (keep2 (by assumption)) | exact HKK.out _ (keep3 (by assumption) (by assumption)))
          (first | (go_at_call 9; refine (of_any _ _ (by omega)).mono ?_; rintro e w' ⟨rfl, hbx⟩) | (go_at_call 10; refine (refDigest_any _ _ (by omega)).mono ?_; rintro e w' ⟨rfl, hby⟩) | (go_at_call 12; refine (rows_any _ _ (by omega)).mono ?_; rintro e w' ⟨rfl, rfl⟩) | (go_at_call 13; refine (refBlocks_any _ _ (by omega)).mono ?_; rintro e w' ⟨rfl, rfl⟩))
        all_goals
          first | have hfin := keep4 HWO.out hbx hby | have hfin := keep4 HWO.out hby hbx
          go_wp2_with fail
          go_roundw
          case rel => exact ⟨k + 1, by go_num, by omega, hfin⟩
          case measure => simp [intOf]; omega
      · by_cases h3 : k < ss.length
        · have hk6 : decide ((k : Int) < 6) = false := by simp; omega
          go_wp2_with fail
          refine (of_any _ _ (by decide)).mono ?_
          rintro e w3 ⟨rfl, hb3⟩
          rw [HABC.out]
          have hx := hwo.trans (hb3.mono hwo.size)
          clear hb3
          go_wp2_with fail
          refine (wakes6_any _).mono ?_
          rintro e w4 ⟨rfl, hb4⟩
          have hx2 := hbel.trans ((hx.trans (hb4.mono hx.size)).mono hbel.size)
          clear hb4
          go_wp2_with fail
          go_ret
          exact ⟨rfl, hx2⟩
        · have hk3 : ¬ (k : Int) < (ss.length : Int) := by omega
          go_wp2_with fail
          refine (of_any _ _ (by decide)).mono ?_
          rintro e w3 ⟨rfl, hb3⟩
          rw [HABC.out]
          have hx := hwo.trans (hb3.mono hwo.size)
          clear hb3
          go_wp2_with fail
          refine (wakes6_any _).mono ?_
          rintro e w4 ⟨rfl, hb4⟩
          have hx2 := hbel.trans ((hx.trans (hb4.mono hx.size)).mono hbel.size)
          clear hb4
          go_wp2_with fail
          go_ret
          exact ⟨rfl, hx2⟩
end Go.Proofs.Ytnpngkbcfkolnaa
