/- CheckBoth, walked. -/
import Derived.Test.YtoebgfacmblibaaCheckR
import Derived.BigQuiet
namespace Go.Proofs.Ytoebgfacmblibaa
open Go.ChangeShapes Go.WideShapes Go.ChangeAt Go.RowKit Go.Joins
set_option linter.unusedVariables false
set_option linter.unusedSimpArgs false

theorem both_zero (a b n : Int) (h : 0 ≤ n) : (bothI a b (-n) != bothI a b 0) = false := by
  have e : bothI a b (-n) = bothI a b 0 := by
    unfold bothI
    rw [show (-n).toNat = (0 : Int).toNat by omega]
  rw [e]; simp

set_option maxRecDepth 100000 in
set_option maxHeartbeats 1000000 in
theorem checkBoth_walk (w : World) (vS : Value) (ss : List ByteArray) (hS : TextsIn w vS ss) :
    Calls Try.prog 6 #[.agg #[vS]] w fun e w' => e = .returned (.bool true) ∧ Below w.heap.size w w' := by
  have hF := box1_facts w vS 24
  have HT := Lib.hid (hS.below hF.1)
  obtain ⟨p, cap, rfl, h16, hs, hSl⟩ := hS
  have HSl := Lib.hid (hSl.below hF.1)
  have HB := Lib.hid hs
  clear hSl hs
  go_enter Try.func6, Try.ntmps6
  go_wp2_with fail
  generalize w.alloc (Obj.cells #[Value.slice p ss.length cap] 24) = W at *
  obtain ⟨hbel, hc0, hsz⟩ := hF
  have HC0 := Lib.hid hc0
  have HSZ := Lib.hid hsz
  clear hc0 hsz
  refine (heavy6_any _ ss _ HT.out).mono ?_
  rintro e w1 ⟨heavy, hheavy, rfl, hb1⟩
  cases heavy with
  | true =>
    clear hheavy
    go_wp2_with fail
    go_ret
    exact ⟨rfl, hbel.trans (hb1.mono hbel.size)⟩
  | false =>

    have ht := hheavy rfl
    clear hheavy
    go_wp2_with fail
    go_loopw [3] (fun i wr => ∃ k : Nat, i = .int .i64 k ∧ k ≤ 6 ∧ Below W.heap.size W wr) (fun i _ => (6 - intOf i).toNat)
    case atStart => exact ⟨0, rfl, by omega, hb1⟩
    case round =>
      clear hb1
      obtain ⟨k, rfl, h1, hwo⟩ := hrel
      have hc0 := below_box HC0 HSZ hwo
      by_cases h4 : k < ss.length ∧ k < 6
      · obtain ⟨h3, h4⟩ := h4
        have hk4 : decide ((k : Int) < 6) = true := by simp; omega
        go_wp2_with fail
        clear hc0
        obtain ⟨wo, rfl⟩ : ∃ wo : World, wo = wr := ⟨_, rfl⟩
        go_loopw [4] (fun j wr => ∃ x : Nat, j = .int .i64 x ∧ x ≤ 6 ∧ Below W.heap.size W wr) (fun j _ => (6 - intOf j).toNat)
        case atStart => exact ⟨0, rfl, by omega, hwo⟩
        case round =>
          clear hwo
          obtain ⟨x, rfl, hx, hwr⟩ := hrel
          have hc0 := below_box HC0 HSZ hwr
          by_cases h6 : x < ss.length ∧ x < 6
          · obtain ⟨h5, h6⟩ := h6
            have hx4 : decide ((x : Int) < 6) = true := by simp; omega
            obtain ⟨b, off, s, rfl, hsz, HE, hcell⟩ := text_at (HSl.out.below hwr) HB.out h3
            obtain ⟨b', off', t, hp, hsz2, HE2, hcell2⟩ := text_at (HSl.out.below hwr) HB.out h5
            obtain ⟨rfl, rfl⟩ : b = b' ∧ off = off' := by simpa using hp
            clear hp
            have hts : s.size ≤ 6000 := by have := total_get h3; rw [← HE.out] at this; omega
            have htt : t.size ≤ 6000 := by have := total_get h5; rw [← HE2.out] at this; omega
            have hm1 := moreI_bd 5 s (by omega) (by omega)
            have hm2 := moreI_bd 0 t (by omega) (by omega)
            have hwi := within_bd ((s.size : Int) * 37 + t.size) 700 (by omega) (by omega)
            go_wp2_with fail
            go_quiet (first
              | (go_at_call 10; exact quiet_left (sum_any _ _ _ (by omega) (by omega) (by unfold maxLen; omega))))
            go_wp2_with fail
            go_quiet (first
              | (go_at_call 14; exact quiet_add_left (within_any _ _ _ (by omega) (by omega))))
            generalize withinI ((s.size : Int) * 37 + t.size) 700 = n at *
            generalize moreI 5 s = u at *
            generalize moreI 0 t = v at *
            have hz := both_zero u v n hwi.1
            clear hcell hcell2 hc0
            have hwr2 := fun m => below_drewN hwr m
            have HWR2 := Lib.hid hwr2
            clear hwr2 hwr
            go_wp2_with fail
            refine (both_any _ _ _ _ (by omega) (by omega) (by omega) (by omega) (by omega) (by omega)).mono ?_
            rintro e w2 ⟨rfl, hb2⟩
            have hb3 := (HWR2.out _).trans (hb2.mono (HWR2.out _).size)
            clear hb2
            go_wp2_with (first
              | (go_at_call 15; refine (refBoth_any _ _ _ _ (by omega) (by omega) (by omega) (by omega) (by omega) (by omega)).mono ?_; rintro e w' ⟨rfl, rfl⟩))
            refine (both_any _ _ _ _ (by omega) (by omega) (by omega) (by omega) (by omega) (by omega)).mono ?_
            rintro e w3 ⟨rfl, hb4⟩
            have hb5 := hb3.trans (hb4.mono hb3.size)
            clear hb4 hb3
            go_wp2_with (first
              | (go_at_call 15; refine (refBoth_any _ _ _ _ (by omega) (by omega) (by omega) (by omega) (by omega) (by omega)).mono ?_; rintro e w' ⟨rfl, rfl⟩))
            go_roundw
            case rel => exact ⟨x + 1, by go_num, by omega, hb5⟩
            case measure => simp [intOf]; omega
          · go_wp2_with fail
            all_goals
              go_roundw
              case rel => exact ⟨k + 1, by go_num, by omega, hwr⟩
              case measure => simp [intOf]; omega
      · go_wp2_with (first
          | (go_at_call 9; refine (wakes9_any _).mono ?_; rintro e w' ⟨rfl, rfl⟩))
        all_goals
          go_ret
          exact ⟨rfl, hbel.trans (hwo.mono hbel.size)⟩
end Go.Proofs.Ytoebgfacmblibaa
