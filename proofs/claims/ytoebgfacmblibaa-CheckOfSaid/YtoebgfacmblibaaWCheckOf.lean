/- CheckOf, walked. -/
import Derived.Test.YtoebgfacmblibaaCheckR
import Derived.BigQuiet
namespace Go.Proofs.Ytoebgfacmblibaa
open Go.ChangeShapes Go.WideShapes Go.ChangeAt Go.RowKit Go.Joins
set_option linter.unusedVariables false
set_option linter.unusedSimpArgs false

set_option maxRecDepth 100000 in
set_option maxHeartbeats 1000000 in
theorem checkOf_walk (w : World) (vS : Value) (ss : List ByteArray) (hS : TextsIn w vS ss) :
    Calls Try.prog 5 #[.agg #[vS]] w fun e w' => e = .returned (.bool true) ∧ Below w.heap.size w w' := by
  have hF := box1_facts w vS 24
  have HT := Lib.hid (hS.below hF.1)
  obtain ⟨p, cap, rfl, h16, hs, hSl⟩ := hS
  have HSl := Lib.hid (hSl.below hF.1)
  have HB := Lib.hid hs
  clear hSl hs
  go_enter Try.func5, Try.ntmps5
  go_wp2_with fail
  generalize w.alloc (Obj.cells #[Value.slice p ss.length cap] 24) = W at *
  obtain ⟨hbel, hc0, hsz⟩ := hF
  have HC0 := Lib.hid hc0
  have HSZ := Lib.hid hsz
  clear hc0 hsz
  refine (heavy6_any _ ss _ HT.out).mono ?_
  rintro e w1 ⟨heavy, hheavy, rfl, hb1⟩
  cases heavy with
  | true =>
    clear hheavy
    go_wp2_with fail
    go_ret
    exact ⟨rfl, hbel.trans (hb1.mono hbel.size)⟩
  | false =>

    have ht := hheavy rfl
    clear hheavy
    go_wp2_with fail
    go_loopw [3] (fun i wr => ∃ k : Nat, i = .int .i64 k ∧ k ≤ 6 ∧ Below W.heap.size W wr) (fun i _ => (6 - intOf i).toNat)
    case atStart => exact ⟨0, rfl, by omega, hb1⟩
    case round =>
      clear hb1
      obtain ⟨k, rfl, h1, hwo⟩ := hrel
      have hc0 := below_box HC0 HSZ hwo
      by_cases h4 : k < ss.length ∧ k < 6
      · obtain ⟨h3, h4⟩ := h4
        have hk4 : decide ((k : Int) < 6) = true := by simp; omega
        obtain ⟨b, off, s, rfl, hsz, HE, hcell⟩ := text_at (HSl.out.below hwo) HB.out h3
        have hts : s.size ≤ 6000 := by have := total_get h3; rw [← HE.out] at this; omega
        have hm1 := moreI_bd 0 s (by omega) (by omega)
        by_cases h300 : s.size ≤ 300
        · have hd3 : decide ((300 : Int) < s.size) = false := by simp; omega
          have hd4 : decide (300 < s.size) = false := by simp; omega
          go_wp2_with (first
            | (go_at_call 8; refine (of_any _ _ (by unfold maxLen; omega)).mono ?_; rintro e w' ⟨rfl, rfl⟩)
            | (go_at_call 10; refine (sum_any _ _ _ (by omega) (by omega) (by unfold maxLen; omega)).mono ?_; rintro e w' ⟨rfl, rfl⟩)
            | (go_at_call 12; refine (more_any _ _ _ (by omega) (by omega) (by unfold maxLen; omega)).mono ?_; rintro e w' ⟨rfl, rfl⟩))
          clear hc0 hcell
          obtain ⟨wo, rfl⟩ : ∃ wo : World, wo = wr := ⟨_, rfl⟩
          go_loopw [6] (fun j wr => ∃ x : Nat, j = .int .i64 x ∧ x ≤ s.size + 1 ∧ Below W.heap.size W wr) (fun j _ => (s.size + 1 - intOf j).toNat)
          case atStart => exact ⟨0, rfl, by omega, hwo⟩
          case round =>
            clear hwo
            obtain ⟨x, rfl, hx, hwr⟩ := hrel
            by_cases h6 : x ≤ s.size
            · have hx1 : (s.extract 0 x).size ≤ 6000 := by rw [ByteArray.size_extract]; omega
              have hx2 : (s.extract x s.size).size ≤ 6000 := by rw [extract_size]; omega
              have f1 := two_more s _ _ (bytesOf_split s x)
              have f2 := two_both s _ _ (bytesOf_split s x)
              rw [extract_size, show ((s.size - x : Nat) : Int) = (s.size : Int) - x by omega] at f2
              have hm2 := moreI_bd 0 (s.extract 0 x) (by omega) (by omega)
              have hm3 := moreI_bd 0 (s.extract x s.size) (by omega) (by omega)
              go_wp2_with fail
              go_quiet (first
                | (go_at_call 8; exact quiet_left (of_any _ _ (by unfold maxLen; omega))))
              go_wp2_with (first
                | (go_at_call 12; refine (more_any _ _ _ (by omega) (by omega) (by unfold maxLen; omega)).mono ?_; rintro e w' ⟨rfl, rfl⟩))
              refine (both_any _ _ _ _ (by omega) (by omega) (by omega) (by omega) (by omega) (by omega)).mono ?_
              rintro e w2 ⟨rfl, hb2⟩
              have hb3 := (below_drewN hwr _).trans (hb2.mono hwr.size)
              clear hb2
              go_wp2_with fail
              go_roundw
              case rel => exact ⟨x + 1, by go_num, by omega, hb3⟩
              case measure => simp [intOf]; omega
            · go_wp2_with fail
              go_roundw
              case rel => exact ⟨k + 1, by go_num, by omega, hwr⟩
              case measure => simp [intOf]; omega
        · have hd3 : decide ((300 : Int) < s.size) = true := by simp; omega
          have hd4 : decide (300 < s.size) = true := by simp; omega
          go_wp2_with (first
            | (go_at_call 8; refine (of_any _ _ (by unfold maxLen; omega)).mono ?_; rintro e w' ⟨rfl, rfl⟩)
            | (go_at_call 10; refine (sum_any _ _ _ (by omega) (by omega) (by unfold maxLen; omega)).mono ?_; rintro e w' ⟨rfl, rfl⟩)
            | (go_at_call 12; refine (more_any _ _ _ (by omega) (by omega) (by unfold maxLen; omega)).mono ?_; rintro e w' ⟨rfl, rfl⟩))
          go_roundw
          case rel => exact ⟨k + 1, by go_num, by omega, hwo⟩
          case measure => simp [intOf]; omega
      · go_wp2_with (first
          | (go_at_call 9; refine (wakes9_any _).mono ?_; rintro e w' ⟨rfl, rfl⟩))
        all_goals
          go_ret
          exact ⟨rfl, hbel.trans (hwo.mono hbel.size)⟩
end Go.Proofs.Ytoebgfacmblibaa
