/- Powers, the page's way and the code's; inverses; walked. -/
import Derived.Test.YtibinkppbdeofaaRows
import Derived.WalkKit
import Derived.WalkSpells
import Derived.WalkLawsBesides
import Derived.Handy
import Derived.Lib.Hide
import Derived.Test.YtibinkppbdeofaaMulTwo
namespace Go.Proofs.Ytibinkppbdeofaa
open Go.RowKit
set_option linter.unusedVariables false
set_option linter.unusedSimpArgs false

theorem and1_i64_yes {n : Nat} (h : n ≤ 9223372036854775807) (e : (bits .and .i64 (n : Int) 1 == 1) = true) : n % 2 = 1 := by
  rw [bits_and1_i64 (by omega)] at e; have := beq_iff_eq.1 e; omega
theorem and1_i64_no {n : Nat} (h : n ≤ 9223372036854775807) (e : (bits .and .i64 (n : Int) 1 == 1) = false) : n % 2 ≠ 1 := by
  rw [bits_and1_i64 (by omega)] at e; have := beq_eq_false_iff_ne.1 e; omega

/-- The power of a byte, of integers. -/
def gp (a n : Int) : Int := ((Gf.pow a.toNat n.toNat : Nat) : Int)
theorem gp_nat (a n : Nat) : gp (a : Int) (n : Int) = ((Gf.pow a n : Nat) : Int) := by simp [gp]
theorem gp_bd (a n : Int) : 0 ≤ gp a n ∧ gp a n ≤ 255 := by
  have := Gf.pow_lt a.toNat n.toNat
  simp only [gp]; omega


set_option maxRecDepth 100000 in
set_option maxHeartbeats 400000 in
theorem refPow_any (a n : Int) (w : World) (ha : 0 ≤ a) (ha' : a ≤ 255) (hn : 0 ≤ n) (hn' : n ≤ 9223372036854775807) :
    Calls Try.prog 69 #[.int .u8 a, .int .i64 n] w fun e w' => e = .returned (.int .u8 (gp a n)) ∧ w = w' := by
  obtain ⟨a, rfl⟩ := Int.eq_ofNat_of_zero_le ha
  obtain ⟨n, rfl⟩ := Int.eq_ofNat_of_zero_le hn
  go_enter Try.func69, Try.ntmps69
  go_wp2
  go_loop [0,1,5] (fun a' n' x' => ∃ k m x : Nat, a' = .int .u8 k ∧ n' = .int .i64 m ∧ x' = .int .u8 x ∧ k < 256 ∧ x < 256 ∧ m ≤ 9223372036854775807 ∧ Hid (Gf.mul x (Gf.pow k m) = Gf.pow a n)) (fun _ n' _ => (intOf n').toNat)
  case atStart => exact ⟨a, n, 1, rfl, rfl, rfl, by omega, by omega, by omega, by simp [Hid, Gf.one_mul _ (Gf.pow_lt a n)]⟩
  case round =>
    obtain ⟨k, m, x, rfl, rfl, rfl, h1, h2, h3, H⟩ := hrel
    by_cases h0 : 0 < m
    · have hk := Gf.mul_lt (a := k) k h1
      have hx := Gf.mul_lt (a := x) k h2
      have HR : Hid (Gf.mul (if m % 2 = 1 then Gf.mul x k else x) (Gf.pow (Gf.mul k k) (m / 2)) = Gf.pow a n) := by rw [Hid, Gf.pow_round h1 h2]; exact H.out
      go_wp2_with (go_at_call 43; refine (refMul_any _ _ _ (by omega) (by omega) (by omega) (by omega)).mono ?_; rintro e w' ⟨rfl, rfl⟩)
      · have t1 := and1_i64_yes h3 (by assumption)
        simp only [t1, if_true] at HR
        go_round
        case rel => exact ⟨Gf.mul k k, m / 2, Gf.mul x k, by rw [gm_nat], by go_num, by rw [gm_nat], hk, hx, by omega, HR⟩
        case measure => simp [intOf]; omega
      · have t1 := and1_i64_no h3 (by assumption)
        simp only [t1, if_false] at HR
        go_round
        case rel => exact ⟨Gf.mul k k, m / 2, x, by rw [gm_nat], by go_num, rfl, hk, h2, by omega, HR⟩
        case measure => simp [intOf]; omega
    · obtain rfl : m = 0 := by omega
      have HN : Hid (x = Gf.pow a n) := by rw [Hid, ← H.out]; simp only [Gf.pow]; rw [Gf.mul_one x h2]
      clear H
      go_wp2
      go_ret
      refine ⟨?_, rfl⟩
      rw [gp_nat, ← HN.out]; rfl

set_option maxRecDepth 100000 in
set_option maxHeartbeats 400000 in
theorem raised_any (a n : Int) (w : World) (ha : 0 ≤ a) (ha' : a ≤ 255) (hn : 0 ≤ n) (hn' : n ≤ 9223372036854775807) :
    Calls Try.prog 67 #[.int .u8 a, .int .i64 n] w fun e w' => e = .returned (.int .u8 (gp a n)) ∧ w = w' := by
  obtain ⟨a, rfl⟩ := Int.eq_ofNat_of_zero_le ha
  obtain ⟨n, rfl⟩ := Int.eq_ofNat_of_zero_le hn
  go_enter Try.func67, Try.ntmps67
  go_wp2
  go_loop [0,1,5] (fun a' n' x' => ∃ k m x : Nat, a' = .int .u8 k ∧ n' = .int .i64 m ∧ x' = .int .u8 x ∧ k < 256 ∧ x < 256 ∧ m ≤ 9223372036854775807 ∧ Hid (Gf.mul x (Gf.pow k m) = Gf.pow a n)) (fun _ n' _ => (intOf n').toNat)
  case atStart => exact ⟨a, n, 1, rfl, rfl, rfl, by omega, by omega, by omega, by simp [Hid, Gf.one_mul _ (Gf.pow_lt a n)]⟩
  case round =>
    obtain ⟨k, m, x, rfl, rfl, rfl, h1, h2, h3, H⟩ := hrel
    by_cases h0 : 0 < m
    · have hk := Gf.mul_lt (a := k) k h1
      have hx := Gf.mul_lt (a := x) k h2
      have HR : Hid (Gf.mul (if m % 2 = 1 then Gf.mul x k else x) (Gf.pow (Gf.mul k k) (m / 2)) = Gf.pow a n) := by rw [Hid, Gf.pow_round h1 h2]; exact H.out
      go_wp2_with (go_at_call 68; refine (fieldMul_any _ _ _ (by omega) (by omega) (by omega) (by omega)).mono ?_; rintro e w' ⟨rfl, rfl⟩)
      · have t1 := and1_i64_yes h3 (by assumption)
        simp only [t1, if_true] at HR
        go_round
        case rel => exact ⟨Gf.mul k k, m / 2, Gf.mul x k, by rw [gm_nat], by go_num, by rw [gm_nat], hk, hx, by omega, HR⟩
        case measure => simp [intOf]; omega
      · have t1 := and1_i64_no h3 (by assumption)
        simp only [t1, if_false] at HR
        go_round
        case rel => exact ⟨Gf.mul k k, m / 2, x, by rw [gm_nat], by go_num, rfl, hk, h2, by omega, HR⟩
        case measure => simp [intOf]; omega
    · obtain rfl : m = 0 := by omega
      have HN : Hid (x = Gf.pow a n) := by rw [Hid, ← H.out]; simp only [Gf.pow]; rw [Gf.mul_one x h2]
      clear H
      go_wp2
      go_ret
      refine ⟨?_, rfl⟩
      rw [gp_nat, ← HN.out]; rfl


set_option maxRecDepth 100000 in
set_option maxHeartbeats 400000 in
theorem refInv_any (a : Int) (w : World) (ha : 0 ≤ a) (ha' : a ≤ 255) :
    Calls Try.prog 62 #[.int .u8 a] w fun e w' => e = .returned (.int .u8 (gp a 254)) ∧ w = w' := by
  go_enter Try.func62, Try.ntmps62
  go_wp2_with (go_at_call 69; refine (refPow_any _ _ _ (by omega) (by omega) (by omega) (by omega)).mono ?_; rintro e w' ⟨rfl, rfl⟩)
  go_ret
  exact ⟨rfl, rfl⟩

set_option maxRecDepth 100000 in
set_option maxHeartbeats 400000 in
theorem over_any (a : Int) (w : World) (ha : 0 ≤ a) (ha' : a ≤ 255) :
    Calls Try.prog 57 #[.int .u8 a] w fun e w' => e = .returned (.int .u8 (gp a 254)) ∧ w = w' := by
  go_enter Try.func57, Try.ntmps57
  go_wp2_with (go_at_call 67; refine (raised_any _ _ _ (by omega) (by omega) (by omega) (by omega)).mono ?_; rintro e w' ⟨rfl, rfl⟩)
  go_ret
  exact ⟨rfl, rfl⟩

theorem refInv_nat (a : Nat) (w : World) (ha : a < 256) :
    Calls Try.prog 62 #[.int .u8 (a : Int)] w fun e w' => e = .returned (.int .u8 ((Gf.inv a : Nat) : Int)) ∧ w = w' := by
  have h := refInv_any (a : Int) w (by omega) (by omega)
  rw [show (254 : Int) = ((254 : Nat) : Int) from rfl, gp_nat] at h
  exact h
theorem over_nat (a : Nat) (w : World) (ha : a < 256) :
    Calls Try.prog 57 #[.int .u8 (a : Int)] w fun e w' => e = .returned (.int .u8 ((Gf.inv a : Nat) : Int)) ∧ w = w' := by
  have h := over_any (a : Int) w (by omega) (by omega)
  rw [show (254 : Int) = ((254 : Nat) : Int) from rfl, gp_nat] at h
  exact h
end Go.Proofs.Ytibinkppbdeofaa
