/- Bytes' products: field.Mul and the document's own, walked. -/
import Derived.Test.YtibinkppbdeofaaRows
import Derived.WalkKit
import Derived.WalkSpells
import Derived.WalkLawsBesides
import Derived.Handy
import Derived.Lib.Hide
import Derived.Test.YtibinkppbdeofaaGf
import Derived.Test.YtibinkppbdeofaaBits
namespace Go.Proofs.Ytibinkppbdeofaa
open Go.RowKit
set_option linter.unusedVariables false
set_option linter.unusedSimpArgs false

/-- The product of two bytes, of integers. -/
def gm (a b : Int) : Int := ((Gf.mul a.toNat b.toNat : Nat) : Int)

theorem gm_nat (a b : Nat) : gm (a : Int) (b : Int) = ((Gf.mul a b : Nat) : Int) := by simp [gm]
theorem gm_bd {a : Int} (b : Int) (ha : 0 ≤ a) (ha' : a ≤ 255) : 0 ≤ gm a b ∧ gm a b ≤ 255 := by
  obtain ⟨a, rfl⟩ := Int.eq_ofNat_of_zero_le ha
  have := Gf.mul_lt (a := a) b.toNat (by omega)
  simp only [gm, Int.toNat_natCast]; omega

/-- One round of the product: the facts that the next round wants, of both tests. -/
theorem mul_round {f y n x r : Nat} (h1 : y < 256) (h2 : x < 256) (h3 : n < 256) (h0 : 0 < y) (H : y < 2 ^ f ∧ Gf.mulGo f y n x = r) :
    ∃ g : Nat, y / 2 < 2 ^ g ∧ (∀ n' x' : Nat, n' = (if y % 2 = 1 then n ^^^ x else n) → x' = (if x < 128 then 2 * x else (2 * x) ^^^ 285) → x' < 256 ∧ n' < 256 ∧ Gf.mulGo g (y / 2) n' x' = r) := by
  obtain ⟨hy, hr⟩ := H
  cases f with
  | zero => simp at hy; omega
  | succ g =>
    refine ⟨g, by rw [Nat.pow_succ] at hy; omega, ?_⟩
    intro n' x' hn hx
    subst hn; subst hx
    refine ⟨Gf.dbl_lt x h2, ?_, hr⟩
    split
    · exact Gf.xor_lt h3 h2
    · exact h3

theorem and1_yes {y : Nat} (h : y < 256) (e : (bits .and .u8 (y : Int) 1 == 1) = true) : y % 2 = 1 := by
  rw [bits_and1_u8 h] at e; simp at e; omega
theorem and1_no {y : Nat} (h : y < 256) (e : (bits .and .u8 (y : Int) 1 == 1) = false) : y % 2 ≠ 1 := by
  rw [bits_and1_u8 h] at e; simp at e; omega

set_option maxRecDepth 100000 in
set_option maxHeartbeats 400000 in
theorem fieldMul_any (a b : Int) (w : World) (ha : 0 ≤ a) (ha' : a ≤ 255) (hb : 0 ≤ b) (hb' : b ≤ 255) :
    Calls Try.prog 68 #[.int .u8 a, .int .u8 b] w fun e w' => e = .returned (.int .u8 (gm a b)) ∧ w = w' := by
  obtain ⟨a, rfl⟩ := Int.eq_ofNat_of_zero_le ha
  obtain ⟨b, rfl⟩ := Int.eq_ofNat_of_zero_le hb
  go_enter Try.func68, Try.ntmps68
  go_wp2
  go_loop [1,5,6] (fun y n x => ∃ f y' n' x' : Nat, y = .int .u8 y' ∧ n = .int .i64 n' ∧ x = .int .i64 x' ∧ y' < 256 ∧ x' < 256 ∧ n' < 256 ∧ Hid (y' < 2 ^ f ∧ Gf.mulGo f y' n' x' = Gf.mul a b)) (fun y _ _ => (intOf y).toNat)
  case atStart => exact ⟨8, b, 0, a, rfl, rfl, rfl, by omega, by omega, by omega, by omega, rfl⟩
  case round =>
    obtain ⟨f, y, n, x, rfl, rfl, rfl, h1, h2, h3, H⟩ := hrel
    by_cases h0 : 0 < y
    · go_wp2
      all_goals
        obtain ⟨g, hg, HS⟩ := mul_round h1 h2 h3 h0 H.out
        have HG := Lib.hid hg
        clear hg
      · have t1 := and1_yes h1 (by assumption)
        have t2 : ¬ x < 128 := by omega
        obtain ⟨a1, a2, a3⟩ := HS _ _ rfl rfl
        simp only [t1, t2, if_true, if_false] at a1 a2 a3
        go_round
        case rel => exact ⟨g, y / 2, n ^^^ x, (2 * x) ^^^ 285, by go_num, by rw [bits_xor_i64 (by omega) (by omega)], by rw [show ((x : Int) * 2) = ((2 * x : Nat) : Int) by omega]; exact congrArg _ (bits_xor_i64 (b := 285) (by omega) (by omega)), by omega, a1, a2, HG.out, a3⟩
        case measure => simp [intOf]; omega
      · have t1 := and1_yes h1 (by assumption)
        have t2 : x < 128 := by omega
        obtain ⟨a1, a2, a3⟩ := HS _ _ rfl rfl
        simp only [t1, t2, if_true, if_false] at a1 a2 a3
        go_round
        case rel => exact ⟨g, y / 2, n ^^^ x, 2 * x, by go_num, by rw [bits_xor_i64 (by omega) (by omega)], by go_num, by omega, a1, a2, HG.out, a3⟩
        case measure => simp [intOf]; omega
      · have t1 := and1_no h1 (by assumption)
        have t2 : ¬ x < 128 := by omega
        obtain ⟨a1, a2, a3⟩ := HS _ _ rfl rfl
        simp only [t1, t2, if_true, if_false] at a1 a2 a3
        go_round
        case rel => exact ⟨g, y / 2, n, (2 * x) ^^^ 285, by go_num, rfl, by rw [show ((x : Int) * 2) = ((2 * x : Nat) : Int) by omega]; exact congrArg _ (bits_xor_i64 (b := 285) (by omega) (by omega)), by omega, a1, a2, HG.out, a3⟩
        case measure => simp [intOf]; omega
      · have t1 := and1_no h1 (by assumption)
        have t2 : x < 128 := by omega
        obtain ⟨a1, a2, a3⟩ := HS _ _ rfl rfl
        simp only [t1, t2, if_true, if_false] at a1 a2 a3
        go_round
        case rel => exact ⟨g, y / 2, n, 2 * x, by go_num, rfl, by go_num, by omega, a1, a2, HG.out, a3⟩
        case measure => simp [intOf]; omega
    · obtain rfl : y = 0 := by omega
      have hn : n = Gf.mul a b := by rw [← H.out.2, Gf.mulGo_zero]
      have HN := Lib.hid hn; clear hn
      go_wp2
      go_ret
      refine ⟨?_, rfl⟩
      simp [gm, HN.out]


theorem shr_nat (b k : Nat) : ((b : Int) / 2 ^ k) = ((b / 2 ^ k : Nat) : Int) := by
  rw [Int.natCast_ediv, Int.natCast_pow]; rfl
theorem and1_shr_yes {b k : Nat} (h : (b : Int) ≤ 255) (e : (bits .and .u8 ((b : Int) / 2 ^ k) 1 == 1) = true) : b / 2 ^ k % 2 = 1 := by
  have : b / 2 ^ k ≤ b := Nat.div_le_self _ _
  rw [shr_nat, bits_and1_u8 (by omega)] at e; have := beq_iff_eq.1 e; omega
theorem and1_shr_no {b k : Nat} (h : (b : Int) ≤ 255) (e : (bits .and .u8 ((b : Int) / 2 ^ k) 1 == 1) = false) : b / 2 ^ k % 2 ≠ 1 := by
  have : b / 2 ^ k ≤ b := Nat.div_le_self _ _
  rw [shr_nat, bits_and1_u8 (by omega)] at e; have := beq_eq_false_iff_ne.1 e; omega
theorem ref_round {b k n x r : Nat} (h0 : k < 8) (h2 : x < 256) (h3 : n < 256) (H : Gf.mulGo (8 - k) (b / 2 ^ k) n x = r) :
    ∀ n' x' : Nat, n' = (if b / 2 ^ k % 2 = 1 then n ^^^ x else n) → x' = (if x < 128 then 2 * x else (2 * x) ^^^ 285) → x' < 256 ∧ n' < 256 ∧ Hid (Gf.mulGo (8 - (k + 1)) (b / 2 ^ (k + 1)) n' x' = r) := by
  intro n' x' hn hx
  subst hn; subst hx
  refine ⟨Gf.dbl_lt x h2, ?_, ?_⟩
  · split
    · exact Gf.xor_lt h3 h2
    · exact h3
  · rw [show 8 - k = (8 - (k + 1)) + 1 by omega, Gf.mulGo] at H
    rw [Nat.pow_succ, ← Nat.div_div_eq_div_mul]
    exact H

set_option maxRecDepth 100000 in
set_option maxHeartbeats 400000 in
theorem refMul_any (a b : Int) (w : World) (ha : 0 ≤ a) (ha' : a ≤ 255) (hb : 0 ≤ b) (hb' : b ≤ 255) :
    Calls Try.prog 43 #[.int .u8 a, .int .u8 b] w fun e w' => e = .returned (.int .u8 (gm a b)) ∧ w = w' := by
  obtain ⟨a, rfl⟩ := Int.eq_ofNat_of_zero_le ha
  obtain ⟨b, rfl⟩ := Int.eq_ofNat_of_zero_le hb
  go_enter Try.func43, Try.ntmps43
  go_wp2
  go_loop [5,6,7] (fun x n i => ∃ k n' x' : Nat, i = .int .i64 k ∧ n = .int .i64 n' ∧ x = .int .i64 x' ∧ k ≤ 8 ∧ x' < 256 ∧ n' < 256 ∧ Hid (Gf.mulGo (8 - k) (b / 2 ^ k) n' x' = Gf.mul a b)) (fun _ _ i => (8 - intOf i).toNat)
  case atStart => exact ⟨0, 0, a, rfl, rfl, rfl, by omega, by omega, by omega, by simp [Hid, Gf.mul]⟩
  case round =>
    obtain ⟨k, n, x, rfl, rfl, rfl, h1, h2, h3, H⟩ := hrel
    by_cases h0 : k < 8
    · go_wp2
      · have t1 := and1_shr_yes hb' (by assumption)
        have t2 : ¬ x < 128 := by omega
        obtain ⟨a1, a2, a3⟩ := ref_round h0 h2 h3 H.out _ _ rfl rfl
        simp only [t1, t2, if_true, if_false] at a1 a2 a3
        go_round
        case rel => exact ⟨k + 1, n ^^^ x, (2 * x) ^^^ 285, by go_num, by rw [bits_xor_i64 (by omega) (by omega)], by rw [show ((x : Int) * 2) = ((2 * x : Nat) : Int) by omega]; exact congrArg _ (bits_xor_i64 (b := 285) (by omega) (by omega)), by omega, a1, a2, a3⟩
        case measure => simp [intOf]; omega
      · have t1 := and1_shr_yes hb' (by assumption)
        have t2 : x < 128 := by omega
        obtain ⟨a1, a2, a3⟩ := ref_round h0 h2 h3 H.out _ _ rfl rfl
        simp only [t1, t2, if_true, if_false] at a1 a2 a3
        go_round
        case rel => exact ⟨k + 1, n ^^^ x, 2 * x, by go_num, by rw [bits_xor_i64 (by omega) (by omega)], by go_num, by omega, a1, a2, a3⟩
        case measure => simp [intOf]; omega
      · have t1 := and1_shr_no hb' (by assumption)
        have t2 : ¬ x < 128 := by omega
        obtain ⟨a1, a2, a3⟩ := ref_round h0 h2 h3 H.out _ _ rfl rfl
        simp only [t1, t2, if_true, if_false] at a1 a2 a3
        go_round
        case rel => exact ⟨k + 1, n, (2 * x) ^^^ 285, by go_num, rfl, by rw [show ((x : Int) * 2) = ((2 * x : Nat) : Int) by omega]; exact congrArg _ (bits_xor_i64 (b := 285) (by omega) (by omega)), by omega, a1, a2, a3⟩
        case measure => simp [intOf]; omega
      · have t1 := and1_shr_no hb' (by assumption)
        have t2 : x < 128 := by omega
        obtain ⟨a1, a2, a3⟩ := ref_round h0 h2 h3 H.out _ _ rfl rfl
        simp only [t1, t2, if_true, if_false] at a1 a2 a3
        go_round
        case rel => exact ⟨k + 1, n, 2 * x, by go_num, rfl, by go_num, by omega, a1, a2, a3⟩
        case measure => simp [intOf]; omega
    · obtain rfl : k = 8 := by omega
      have HN := Lib.hid H.out
      clear H
      go_wp2
      go_ret
      refine ⟨?_, rfl⟩
      simp [gm, ← HN.out, Gf.mulGo]
end Go.Proofs.Ytibinkppbdeofaa
