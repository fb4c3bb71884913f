/- FieldRules, walked. -/
import Derived.Test.YtjnalbhfinejgaaField
import Derived.Test.YtjnalbhfinejgaaFieldLog
import Derived.Test.YtjnalbhfinejgaaAsk1
import Derived.BigQuiet
namespace Go.Proofs.Ytjnalbhfinejgaa
open Go.ChangeShapes Go.WideShapes Go.ChangeAt Go.RowKit Go.Joins
set_option linter.unusedVariables false
set_option linter.unusedSimpArgs false

theorem rule_comm (a b : Nat) (ha : a < 256) (hb : b < 256) : (gm (a : Int) (b : Int) != gm (b : Int) (a : Int)) = false := by
  rw [gm_nat, gm_nat, Gf.mul_comm ha hb]; simp
theorem rule_assoc (a b c : Nat) (ha : a < 256) (hb : b < 256) (hc : c < 256) : (gm (gm (a : Int) (b : Int)) (c : Int) != gm (a : Int) (gm (b : Int) (c : Int))) = false := by
  rw [gm_nat, gm_nat, gm_nat, gm_nat, Gf.mul_assoc ha hb hc]; simp
theorem rule_dist (a b c : Nat) (ha : a < 256) (hb : b < 256) (hc : c < 256) : (gm (a : Int) (bits .xor .u8 (b : Int) (c : Int)) != bits .xor .u8 (gm (a : Int) (b : Int)) (gm (a : Int) (c : Int))) = false := by
  rw [bits_xor_u8 hb hc, gm_nat, gm_nat, gm_nat, bits_xor_u8 (Gf.mul_lt _ ha) (Gf.mul_lt _ ha), Gf.mul_xor_right ha hb hc]; simp
theorem rule_one (a : Nat) (ha : a < 256) : (gm (a : Int) 1 != (a : Int)) = false := by
  rw [show (1 : Int) = ((1 : Nat) : Int) from rfl, gm_nat, Gf.mul_one a ha]; simp
theorem rule_div (a b : Nat) (ha : a < 256) (hb : b < 256) (h0 : b ≠ 0) : (gm (gm (a : Int) (gp (b : Int) 254)) (b : Int) != (a : Int)) = false := by
  rw [show (254 : Int) = ((254 : Nat) : Int) from rfl, gp_nat, gm_nat, gm_nat]
  have h := Gf.mul_inv hb h0
  have h2 := Gf.inv_lt b
  unfold Gf.inv at h h2
  rw [Gf.mul_assoc ha h2 hb, h, Gf.mul_one a ha]; simp
theorem rule_log (b : Nat) (hb : b < 256) (h0 : b ≠ 0) : (gp 2 ((Gf.log b : Nat) : Int) != (b : Int)) = false := by
  rw [show (2 : Int) = ((2 : Nat) : Int) from rfl, gp_nat, Gf.pow_two, Gf.up_log hb h0]; simp

set_option maxRecDepth 100000 in
set_option maxHeartbeats 1000000 in
theorem fieldRules_walk (w : World) (vB vN : Value) (ns : List Nat) (hB : BytesIn w vB ns) :
    Calls Try.prog 9 #[.agg #[vB, vN]] w fun e w' => e = .returned (.bool true) ∧ Below w.heap.size w w' := by
  have hlt := hB.1
  obtain ⟨p, cap, rfl, hS⟩ := bytesIn_slice hB
  clear hB
  go_enter Try.func9, Try.ntmps9
  go_wp2_with fail
  have hF := box2_facts w (Value.slice p ns.length cap) vN 25
  have hS2 := Lib.hid (hS.below hF.1)
  have hm := hS.1
  clear hS
  generalize w.alloc (Obj.cells #[Value.slice p ns.length cap, vN] 25) = W at *
  obtain ⟨hbel, hc0, hc1, hsz⟩ := hF
  have HL := Lib.hid hlt
  have HC0 := Lib.hid hc0
  have HSZ := Lib.hid hsz
  clear hlt hsz hc0 hc1

  go_loopw [3] (fun i wr => ∃ k : Nat, i = .int .i64 k ∧ k ≤ 20 ∧ Below W.heap.size W wr) (fun i _ => (20 - intOf i).toNat)
  case atStart => exact ⟨0, rfl, by omega, Below.refl _ _⟩
  case round =>
    obtain ⟨k, rfl, h1, hwr⟩ := hrel
    have hc0 := below_box HC0 HSZ hwr
    by_cases h4 : k + 2 < ns.length ∧ k < 20
    · obtain ⟨h3, h4⟩ := h4
      obtain ⟨p0, off, a, rfl, ha, _, hcell⟩ := byte_at (hS2.out.below hwr) HL.out (i := k) (by omega)
      obtain ⟨b, hb, _, hcell1⟩ := byte_next (hS2.out.below hwr) HL.out (i := k + 1) (by omega)
      obtain ⟨c, hc, _, hcell2⟩ := byte_next (hS2.out.below hwr) HL.out (i := k + 2) (by omega)
      have hk4 : decide ((k : Int) < 20) = true := by simp; omega
      have hk5 : decide ((k : Int) + 2 < ns.length) = true := by simp; omega
      have f1 := rule_comm a b ha hb
      have f2 := rule_assoc a b c ha hb hc
      have f3 := rule_dist a b c ha hb hc
      have f4 := rule_one a ha
      have g1 := gm_bd (a := (a : Int)) (b : Int) (by omega) (by omega)
      have g2 := gm_bd (a := (b : Int)) (c : Int) (by omega) (by omega)
      have g3 : 0 ≤ bits .xor .u8 (b : Int) (c : Int) ∧ bits .xor .u8 (b : Int) (c : Int) ≤ 255 := by rw [bits_xor_u8 hb hc]; have := Gf.xor_lt hb hc; omega
      go_wp2_with fail
      go_quiet (fail)
      by_cases hb0 : b = 0
      · have hbe : ((b : Int) == 0) = true := by rw [beq_iff_eq]; omega
        have HB0 := Lib.hid hb0
        clear hb0
        go_wp2_with (first
          | (go_at_call 12; refine (fieldAdd_any _ _ _).mono ?_; rintro e w' ⟨rfl, rfl⟩)
          | (go_at_call 10; refine (fieldMul_any _ _ _ (by omega) (by omega) (by omega) (by omega)).mono ?_; rintro e w' ⟨rfl, rfl⟩))
        go_roundw
        case rel => exact ⟨k + 1, by go_num, by omega, below_drewN hwr _⟩
        case measure => simp [intOf]; omega
      · have hbe : ((b : Int) == 0) = false := by rw [beq_eq_false_iff_ne]; omega
        have f5 := rule_div a b ha hb hb0
        have f6 := rule_log b hb hb0
        have g4 := gp_bd (b : Int) 254
        have g5 := Gf.log_lt hb hb0
        have g6 := gm_bd (a := (a : Int)) (gp (b : Int) 254) (by omega) (by omega)
        go_wp2_with (first
          | (go_at_call 12; refine (fieldAdd_any _ _ _).mono ?_; rintro e w' ⟨rfl, rfl⟩)
          | (go_at_call 10; refine (fieldMul_any _ _ _ (by omega) (by omega) (by omega) (by omega)).mono ?_; rintro e w' ⟨rfl, rfl⟩)
          | (go_at_call 21; refine (fieldDiv_yes _ _ _ (by omega) (by omega) (by omega) (by omega)).mono ?_; rintro e w' ⟨rfl, rfl⟩))
        refine (fieldLog_yes _ _ (by omega) (by omega)).mono ?_
        rintro e w1 ⟨rfl, hb1⟩
        have hb2 : Below W.heap.size W w1 := (below_drewN hwr _).trans (hb1.mono hwr.size)
        clear hc0 hcell hcell1 hcell2 hb1
        go_wp2_with (first
          | (go_at_call 16; refine (fieldExp_yes _ _ (by omega) (by omega)).mono ?_; rintro e w' ⟨rfl, rfl⟩)
          | (go_at_call 15; refine (num_any _ _).mono ?_; rintro e w' ⟨rfl, rfl⟩)
          | (go_at_call 10; refine (fieldMul_any _ _ _ (by omega) (by omega) (by omega) (by omega)).mono ?_; rintro e w' ⟨rfl, rfl⟩))
        go_roundw
        case rel => exact ⟨k + 1, by go_num, by omega, hb2⟩
        case measure => simp [intOf]; omega
    · go_wp2_with (go_at_call 13; refine (wakes_any _).mono ?_; rintro e w' ⟨rfl, rfl⟩)
      all_goals
        go_ret
        exact ⟨rfl, hbel.trans (hwr.mono hbel.size)⟩
end Go.Proofs.Ytjnalbhfinejgaa
