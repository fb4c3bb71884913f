/- What field.Mul, field.Add and the document's own product come to: the plain product of two bytes. -/
import Derived.Test.YtjnalbhfinejgaaRows
import Derived.WalkKit
import Derived.WalkSpells
import Derived.WalkLawsBesides
import Derived.Handy
import Derived.Lib.Hide
import Derived.Test.YtjnalbhfinejgaaGf
import Derived.Test.YtjnalbhfinejgaaBits
namespace Go.Proofs.Ytjnalbhfinejgaa
open Go.RowKit
set_option linter.unusedVariables false
set_option linter.unusedSimpArgs false

/-- The product of two bytes, of integers. -/
def gm (a b : Int) : Int := ((Gf.mul a.toNat b.toNat : Nat) : Int)

theorem gm_nat (a b : Nat) : gm (a : Int) (b : Int) = ((Gf.mul a b : Nat) : Int) := by simp [gm]
theorem gm_bd {a : Int} (b : Int) (ha : 0 ≤ a) (ha' : a ≤ 255) : 0 ≤ gm a b ∧ gm a b ≤ 255 := by
  obtain ⟨a, rfl⟩ := Int.eq_ofNat_of_zero_le ha
  have := Gf.mul_lt (a := a) b.toNat (by omega)
  simp only [gm, Int.toNat_natCast]; omega

/-- One round of the product: the facts that the next round wants, of both tests. -/
theorem mul_round {f y n x r : Nat} (h1 : y < 256) (h2 : x < 256) (h3 : n < 256) (h0 : 0 < y) (H : y < 2 ^ f ∧ Gf.mulGo f y n x = r) :
    ∃ g : Nat, y / 2 < 2 ^ g ∧ (∀ n' x' : Nat, n' = (if y % 2 = 1 then n ^^^ x else n) → x' = (if x < 128 then 2 * x else (2 * x) ^^^ 285) → x' < 256 ∧ n' < 256 ∧ Gf.mulGo g (y / 2) n' x' = r) := by
  obtain ⟨hy, hr⟩ := H
  cases f with
  | zero => simp at hy; omega
  | succ g =>
    refine ⟨g, by rw [Nat.pow_succ] at hy; omega, ?_⟩
    intro n' x' hn hx
    subst hn; subst hx
    refine ⟨Gf.dbl_lt x h2, ?_, hr⟩
    split
    · exact Gf.xor_lt h3 h2
    · exact h3

theorem and1_yes {y : Nat} (h : y < 256) (e : (bits .and .u8 (y : Int) 1 == 1) = true) : y % 2 = 1 := by
  rw [bits_and1_u8 h] at e; simp at e; omega
theorem and1_no {y : Nat} (h : y < 256) (e : (bits .and .u8 (y : Int) 1 == 1) = false) : y % 2 ≠ 1 := by
  rw [bits_and1_u8 h] at e; simp at e; omega

set_option maxRecDepth 100000 in
set_option maxHeartbeats 400000 in
theorem fieldMul_any (a b : Int) (w : World) (ha : 0 ≤ a) (ha' : a ≤ 255) (hb : 0 ≤ b) (hb' : b ≤ 255) :
    Calls Try.prog 10 #[.int .u8 a, .int .u8 b] w fun e w' => e = .returned (.int .u8 (gm a b)) ∧ w = w' := by
  obtain ⟨a, rfl⟩ := Int.eq_ofNat_of_zero_le ha
  obtain ⟨b, rfl⟩ := Int.eq_ofNat_of_zero_le hb
  go_enter Try.func10, Try.ntmps10
  go_wp2
  go_loop [1,5,6] (fun y n x => ∃ f y' n' x' : Nat, y = .int .u8 y' ∧ n = .int .i64 n' ∧ x = .int .i64 x' ∧ y' < 256 ∧ x' < 256 ∧ n' < 256 ∧ Hid (y' < 2 ^ f ∧ Gf.mulGo f y' n' x' = Gf.mul a b)) (fun y _ _ => (intOf y).toNat)
  case atStart => exact ⟨8, b, 0, a, rfl, rfl, rfl, by omega, by omega, by omega, by omega, rfl⟩
  case round =>
    obtain ⟨f, y, n, x, rfl, rfl, rfl, h1, h2, h3, H⟩ := hrel
    by_cases h0 : 0 < y
    · go_wp2
      all_goals
        obtain ⟨g, hg, HS⟩ := mul_round h1 h2 h3 h0 H.out
        have HG := Lib.hid hg
        clear hg
      · have t1 := and1_yes h1 (by assumption)
        have t2 : ¬ x < 128 := by omega
        obtain ⟨a1, a2, a3⟩ := HS _ _ rfl rfl
        simp only [t1, t2, if_true, if_false] at a1 a2 a3
        go_round
        case rel => exact ⟨g, y / 2, n ^^^ x, (2 * x) ^^^ 285, by go_num, by rw [bits_xor_i64 (by omega) (by omega)], by rw [show ((x : Int) * 2) = ((2 * x : Nat) : Int) by omega]; exact congrArg _ (bits_xor_i64 (b := 285) (by omega) (by omega)), by omega, a1, a2, HG.out, a3⟩
        case measure => simp [intOf]; omega
      · have t1 := and1_yes h1 (by assumption)
        have t2 : x < 128 := by omega
        obtain ⟨a1, a2, a3⟩ := HS _ _ rfl rfl
        simp only [t1, t2, if_true, if_false] at a1 a2 a3
        go_round
        case rel => exact ⟨g, y / 2, n ^^^ x, 2 * x, by go_num, by rw [bits_xor_i64 (by omega) (by omega)], by go_num, by omega, a1, a2, HG.out, a3⟩
        case measure => simp [intOf]; omega
      · have t1 := and1_no h1 (by assumption)
        have t2 : ¬ x < 128 := by omega
        obtain ⟨a1, a2, a3⟩ := HS _ _ rfl rfl
        simp only [t1, t2, if_true, if_false] at a1 a2 a3
        go_round
        case rel => exact ⟨g, y / 2, n, (2 * x) ^^^ 285, by go_num, rfl, by rw [show ((x : Int) * 2) = ((2 * x : Nat) : Int) by omega]; exact congrArg _ (bits_xor_i64 (b := 285) (by omega) (by omega)), by omega, a1, a2, HG.out, a3⟩
        case measure => simp [intOf]; omega
      · have t1 := and1_no h1 (by assumption)
        have t2 : x < 128 := by omega
        obtain ⟨a1, a2, a3⟩ := HS _ _ rfl rfl
        simp only [t1, t2, if_true, if_false] at a1 a2 a3
        go_round
        case rel => exact ⟨g, y / 2, n, 2 * x, by go_num, rfl, by go_num, by omega, a1, a2, HG.out, a3⟩
        case measure => simp [intOf]; omega
    · obtain rfl : y = 0 := by omega
      have hn : n = Gf.mul a b := by rw [← H.out.2, Gf.mulGo_zero]
      have HN := Lib.hid hn; clear hn
      go_wp2
      go_ret
      refine ⟨?_, rfl⟩
      simp [gm, HN.out]


set_option maxRecDepth 100000 in
set_option maxHeartbeats 400000 in
theorem fieldAdd_any (a b : Int) (w : World) :
    Calls Try.prog 12 #[.int .u8 a, .int .u8 b] w fun e w' => e = .returned (.int .u8 (bits .xor .u8 a b)) ∧ w = w' := by
  go_enter Try.func12, Try.ntmps12
  go_wp2
  go_ret
  exact ⟨rfl, rfl⟩

theorem shr_nat (b k : Nat) : ((b : Int) / 2 ^ k) = ((b / 2 ^ k : Nat) : Int) := by
  rw [Int.natCast_ediv, Int.natCast_pow]; rfl
theorem and1_shr_yes {b k : Nat} (h : (b : Int) ≤ 255) (e : (bits .and .u8 ((b : Int) / 2 ^ k) 1 == 1) = true) : b / 2 ^ k % 2 = 1 := by
  have : b / 2 ^ k ≤ b := Nat.div_le_self _ _
  rw [shr_nat, bits_and1_u8 (by omega)] at e; have := beq_iff_eq.1 e; omega
theorem and1_shr_no {b k : Nat} (h : (b : Int) ≤ 255) (e : (bits .and .u8 ((b : Int) / 2 ^ k) 1 == 1) = false) : b / 2 ^ k % 2 ≠ 1 := by
  have : b / 2 ^ k ≤ b := Nat.div_le_self _ _
  rw [shr_nat, bits_and1_u8 (by omega)] at e; have := beq_eq_false_iff_ne.1 e; omega
theorem ref_round {b k n x r : Nat} (h0 : k < 8) (h2 : x < 256) (h3 : n < 256) (H : Gf.mulGo (8 - k) (b / 2 ^ k) n x = r) :
    ∀ n' x' : Nat, n' = (if b / 2 ^ k % 2 = 1 then n ^^^ x else n) → x' = (if x < 128 then 2 * x else (2 * x) ^^^ 285) → x' < 256 ∧ n' < 256 ∧ Hid (Gf.mulGo (8 - (k + 1)) (b / 2 ^ (k + 1)) n' x' = r) := by
  intro n' x' hn hx
  subst hn; subst hx
  refine ⟨Gf.dbl_lt x h2, ?_, ?_⟩
  · split
    · exact Gf.xor_lt h3 h2
    · exact h3
  · rw [show 8 - k = (8 - (k + 1)) + 1 by omega, Gf.mulGo] at H
    rw [Nat.pow_succ, ← Nat.div_div_eq_div_mul]
    exact H

set_option maxRecDepth 100000 in
set_option maxHeartbeats 400000 in
theorem refMul_any (a b : Int) (w : World) (ha : 0 ≤ a) (ha' : a ≤ 255) (hb : 0 ≤ b) (hb' : b ≤ 255) :
    Calls Try.prog 11 #[.int .u8 a, .int .u8 b] w fun e w' => e = .returned (.int .u8 (gm a b)) ∧ w = w' := by
  obtain ⟨a, rfl⟩ := Int.eq_ofNat_of_zero_le ha
  obtain ⟨b, rfl⟩ := Int.eq_ofNat_of_zero_le hb
  go_enter Try.func11, Try.ntmps11
  go_wp2
  go_loop [5,6,7] (fun x n i => ∃ k n' x' : Nat, i = .int .i64 k ∧ n = .int .i64 n' ∧ x = .int .i64 x' ∧ k ≤ 8 ∧ x' < 256 ∧ n' < 256 ∧ Hid (Gf.mulGo (8 - k) (b / 2 ^ k) n' x' = Gf.mul a b)) (fun _ _ i => (8 - intOf i).toNat)
  case atStart => exact ⟨0, 0, a, rfl, rfl, rfl, by omega, by omega, by omega, by simp [Hid, Gf.mul]⟩
  case round =>
    obtain ⟨k, n, x, rfl, rfl, rfl, h1, h2, h3, H⟩ := hrel
    by_cases h0 : k < 8
    · go_wp2
      · have t1 := and1_shr_yes hb' (by assumption)
        have t2 : ¬ x < 128 := by omega
        obtain ⟨a1, a2, a3⟩ := ref_round h0 h2 h3 H.out _ _ rfl rfl
        simp only [t1, t2, if_true, if_false] at a1 a2 a3
        go_round
        case rel => exact ⟨k + 1, n ^^^ x, (2 * x) ^^^ 285, by go_num, by rw [bits_xor_i64 (by omega) (by omega)], by rw [show ((x : Int) * 2) = ((2 * x : Nat) : Int) by omega]; exact congrArg _ (bits_xor_i64 (b := 285) (by omega) (by omega)), by omega, a1, a2, a3⟩
        case measure => simp [intOf]; omega
      · have t1 := and1_shr_yes hb' (by assumption)
        have t2 : x < 128 := by omega
        obtain ⟨a1, a2, a3⟩ := ref_round h0 h2 h3 H.out _ _ rfl rfl
        simp only [t1, t2, if_true, if_false] at a1 a2 a3
        go_round
        case rel => exact ⟨k + 1, n ^^^ x, 2 * x, by go_num, by rw [bits_xor_i64 (by omega) (by omega)], by go_num, by omega, a1, a2, a3⟩
        case measure => simp [intOf]; omega
      · have t1 := and1_shr_no hb' (by assumption)
        have t2 : ¬ x < 128 := by omega
        obtain ⟨a1, a2, a3⟩ := ref_round h0 h2 h3 H.out _ _ rfl rfl
        simp only [t1, t2, if_true, if_false] at a1 a2 a3
        go_round
        case rel => exact ⟨k + 1, n, (2 * x) ^^^ 285, by go_num, rfl, by rw [show ((x : Int) * 2) = ((2 * x : Nat) : Int) by omega]; exact congrArg _ (bits_xor_i64 (b := 285) (by omega) (by omega)), by omega, a1, a2, a3⟩
        case measure => simp [intOf]; omega
      · have t1 := and1_shr_no hb' (by assumption)
        have t2 : x < 128 := by omega
        obtain ⟨a1, a2, a3⟩ := ref_round h0 h2 h3 H.out _ _ rfl rfl
        simp only [t1, t2, if_true, if_false] at a1 a2 a3
        go_round
        case rel => exact ⟨k + 1, n, 2 * x, by go_num, rfl, by go_num, by omega, a1, a2, a3⟩
        case measure => simp [intOf]; omega
    · obtain rfl : k = 8 := by omega
      have HN := Lib.hid H.out
      clear H
      go_wp2
      go_ret
      refine ⟨?_, rfl⟩
      simp [gm, ← HN.out, Gf.mulGo]

theorem and1_i64_yes {n : Nat} (h : n ≤ 9223372036854775807) (e : (bits .and .i64 (n : Int) 1 == 1) = true) : n % 2 = 1 := by
  rw [bits_and1_i64 (by omega)] at e; have := beq_iff_eq.1 e; omega
theorem and1_i64_no {n : Nat} (h : n ≤ 9223372036854775807) (e : (bits .and .i64 (n : Int) 1 == 1) = false) : n % 2 ≠ 1 := by
  rw [bits_and1_i64 (by omega)] at e; have := beq_eq_false_iff_ne.1 e; omega

/-- The power of a byte, of integers. -/
def gp (a n : Int) : Int := ((Gf.pow a.toNat n.toNat : Nat) : Int)
theorem gp_nat (a n : Nat) : gp (a : Int) (n : Int) = ((Gf.pow a n : Nat) : Int) := by simp [gp]
theorem gp_bd (a n : Int) : 0 ≤ gp a n ∧ gp a n ≤ 255 := by
  have := Gf.pow_lt a.toNat n.toNat
  simp only [gp]; omega


set_option maxRecDepth 100000 in
set_option maxHeartbeats 400000 in
theorem refPow_any (a n : Int) (w : World) (ha : 0 ≤ a) (ha' : a ≤ 255) (hn : 0 ≤ n) (hn' : n ≤ 9223372036854775807) :
    Calls Try.prog 17 #[.int .u8 a, .int .i64 n] w fun e w' => e = .returned (.int .u8 (gp a n)) ∧ w = w' := by
  obtain ⟨a, rfl⟩ := Int.eq_ofNat_of_zero_le ha
  obtain ⟨n, rfl⟩ := Int.eq_ofNat_of_zero_le hn
  go_enter Try.func17, Try.ntmps17
  go_wp2
  go_loop [0,1,5] (fun a' n' x' => ∃ k m x : Nat, a' = .int .u8 k ∧ n' = .int .i64 m ∧ x' = .int .u8 x ∧ k < 256 ∧ x < 256 ∧ m ≤ 9223372036854775807 ∧ Hid (Gf.mul x (Gf.pow k m) = Gf.pow a n)) (fun _ n' _ => (intOf n').toNat)
  case atStart => exact ⟨a, n, 1, rfl, rfl, rfl, by omega, by omega, by omega, by simp [Hid, Gf.one_mul _ (Gf.pow_lt a n)]⟩
  case round =>
    obtain ⟨k, m, x, rfl, rfl, rfl, h1, h2, h3, H⟩ := hrel
    by_cases h0 : 0 < m
    · have hk := Gf.mul_lt (a := k) k h1
      have hx := Gf.mul_lt (a := x) k h2
      have HR : Hid (Gf.mul (if m % 2 = 1 then Gf.mul x k else x) (Gf.pow (Gf.mul k k) (m / 2)) = Gf.pow a n) := by rw [Hid, Gf.pow_round h1 h2]; exact H.out
      go_wp2_with (go_at_call 11; refine (refMul_any _ _ _ (by omega) (by omega) (by omega) (by omega)).mono ?_; rintro e w' ⟨rfl, rfl⟩)
      · have t1 := and1_i64_yes h3 (by assumption)
        simp only [t1, if_true] at HR
        go_round
        case rel => exact ⟨Gf.mul k k, m / 2, Gf.mul x k, by rw [gm_nat], by go_num, by rw [gm_nat], hk, hx, by omega, HR⟩
        case measure => simp [intOf]; omega
      · have t1 := and1_i64_no h3 (by assumption)
        simp only [t1, if_false] at HR
        go_round
        case rel => exact ⟨Gf.mul k k, m / 2, x, by rw [gm_nat], by go_num, rfl, hk, h2, by omega, HR⟩
        case measure => simp [intOf]; omega
    · obtain rfl : m = 0 := by omega
      have HN : Hid (x = Gf.pow a n) := by rw [Hid, ← H.out]; simp only [Gf.pow]; rw [Gf.mul_one x h2]
      clear H
      go_wp2
      go_ret
      refine ⟨?_, rfl⟩
      rw [gp_nat, ← HN.out]; rfl

set_option maxRecDepth 100000 in
set_option maxHeartbeats 400000 in
theorem raised_any (a n : Int) (w : World) (ha : 0 ≤ a) (ha' : a ≤ 255) (hn : 0 ≤ n) (hn' : n ≤ 9223372036854775807) :
    Calls Try.prog 23 #[.int .u8 a, .int .i64 n] w fun e w' => e = .returned (.int .u8 (gp a n)) ∧ w = w' := by
  obtain ⟨a, rfl⟩ := Int.eq_ofNat_of_zero_le ha
  obtain ⟨n, rfl⟩ := Int.eq_ofNat_of_zero_le hn
  go_enter Try.func23, Try.ntmps23
  go_wp2
  go_loop [0,1,5] (fun a' n' x' => ∃ k m x : Nat, a' = .int .u8 k ∧ n' = .int .i64 m ∧ x' = .int .u8 x ∧ k < 256 ∧ x < 256 ∧ m ≤ 9223372036854775807 ∧ Hid (Gf.mul x (Gf.pow k m) = Gf.pow a n)) (fun _ n' _ => (intOf n').toNat)
  case atStart => exact ⟨a, n, 1, rfl, rfl, rfl, by omega, by omega, by omega, by simp [Hid, Gf.one_mul _ (Gf.pow_lt a n)]⟩
  case round =>
    obtain ⟨k, m, x, rfl, rfl, rfl, h1, h2, h3, H⟩ := hrel
    by_cases h0 : 0 < m
    · have hk := Gf.mul_lt (a := k) k h1
      have hx := Gf.mul_lt (a := x) k h2
      have HR : Hid (Gf.mul (if m % 2 = 1 then Gf.mul x k else x) (Gf.pow (Gf.mul k k) (m / 2)) = Gf.pow a n) := by rw [Hid, Gf.pow_round h1 h2]; exact H.out
      go_wp2_with (go_at_call 10; refine (fieldMul_any _ _ _ (by omega) (by omega) (by omega) (by omega)).mono ?_; rintro e w' ⟨rfl, rfl⟩)
      · have t1 := and1_i64_yes h3 (by assumption)
        simp only [t1, if_true] at HR
        go_round
        case rel => exact ⟨Gf.mul k k, m / 2, Gf.mul x k, by rw [gm_nat], by go_num, by rw [gm_nat], hk, hx, by omega, HR⟩
        case measure => simp [intOf]; omega
      · have t1 := and1_i64_no h3 (by assumption)
        simp only [t1, if_false] at HR
        go_round
        case rel => exact ⟨Gf.mul k k, m / 2, x, by rw [gm_nat], by go_num, rfl, hk, h2, by omega, HR⟩
        case measure => simp [intOf]; omega
    · obtain rfl : m = 0 := by omega
      have HN : Hid (x = Gf.pow a n) := by rw [Hid, ← H.out]; simp only [Gf.pow]; rw [Gf.mul_one x h2]
      clear H
      go_wp2
      go_ret
      refine ⟨?_, rfl⟩
      rw [gp_nat, ← HN.out]; rfl


set_option maxRecDepth 100000 in
set_option maxHeartbeats 400000 in
theorem fieldPow_yes (a n : Int) (w : World) (ha : 0 ≤ a) (ha' : a ≤ 255) (hn : 0 ≤ n) (hn' : n ≤ 9223372036854775807) :
    Calls Try.prog 14 #[.int .u8 a, .int .i64 n] w fun e w' => e = .returned (.tuple #[.int .u8 (gp a n), .int .i64 0]) ∧ w = w' := by
  go_enter Try.func14, Try.ntmps14
  go_wp2_with (go_at_call 23; refine (raised_any _ _ _ (by omega) (by omega) (by omega) (by omega)).mono ?_; rintro e w' ⟨rfl, rfl⟩)
  go_ret2
  exact ⟨rfl, rfl⟩

set_option maxRecDepth 100000 in
set_option maxHeartbeats 400000 in
theorem fieldPow_no (a n : Int) (w : World) (hn : n < 0) :
    Calls Try.prog 14 #[.int .u8 a, .int .i64 n] w fun e w' => e = .returned (.tuple #[.int .u8 0, .int .i64 1]) ∧ w = w' := by
  go_enter Try.func14, Try.ntmps14
  go_wp2
  go_ret2
  exact ⟨rfl, rfl⟩

set_option maxRecDepth 100000 in
set_option maxHeartbeats 400000 in
theorem fieldExp_yes (n : Int) (w : World) (hn : 0 ≤ n) (hn' : n ≤ 9223372036854775807) :
    Calls Try.prog 16 #[.int .i64 n] w fun e w' => e = .returned (.tuple #[.int .u8 (gp 2 n), .int .i64 0]) ∧ w = w' := by
  go_enter Try.func16, Try.ntmps16
  go_wp2_with (go_at_call 14; refine (fieldPow_yes _ _ _ (by omega) (by omega) (by omega) (by omega)).mono ?_; rintro e w' ⟨rfl, rfl⟩)
  go_ret2
  exact ⟨rfl, rfl⟩

set_option maxRecDepth 100000 in
set_option maxHeartbeats 400000 in
theorem fieldExp_no (n : Int) (w : World) (hn : n < 0) :
    Calls Try.prog 16 #[.int .i64 n] w fun e w' => e = .returned (.tuple #[.int .u8 0, .int .i64 1]) ∧ w = w' := by
  go_enter Try.func16, Try.ntmps16
  go_wp2_with (go_at_call 14; refine (fieldPow_no _ _ _ (by omega)).mono ?_; rintro e w' ⟨rfl, rfl⟩)
  go_ret2
  exact ⟨rfl, rfl⟩

set_option maxRecDepth 100000 in
set_option maxHeartbeats 400000 in
theorem refInv_any (a : Int) (w : World) (ha : 0 ≤ a) (ha' : a ≤ 255) :
    Calls Try.prog 19 #[.int .u8 a] w fun e w' => e = .returned (.int .u8 (gp a 254)) ∧ w = w' := by
  go_enter Try.func19, Try.ntmps19
  go_wp2_with (go_at_call 17; refine (refPow_any _ _ _ (by omega) (by omega) (by omega) (by omega)).mono ?_; rintro e w' ⟨rfl, rfl⟩)
  go_ret
  exact ⟨rfl, rfl⟩

set_option maxRecDepth 100000 in
set_option maxHeartbeats 400000 in
theorem over_any (a : Int) (w : World) (ha : 0 ≤ a) (ha' : a ≤ 255) :
    Calls Try.prog 25 #[.int .u8 a] w fun e w' => e = .returned (.int .u8 (gp a 254)) ∧ w = w' := by
  go_enter Try.func25, Try.ntmps25
  go_wp2_with (go_at_call 23; refine (raised_any _ _ _ (by omega) (by omega) (by omega) (by omega)).mono ?_; rintro e w' ⟨rfl, rfl⟩)
  go_ret
  exact ⟨rfl, rfl⟩

set_option maxRecDepth 100000 in
set_option maxHeartbeats 400000 in
theorem fieldDiv_yes (a b : Int) (w : World) (ha : 0 ≤ a) (ha' : a ≤ 255) (hb : 1 ≤ b) (hb' : b ≤ 255) :
    Calls Try.prog 21 #[.int .u8 a, .int .u8 b] w fun e w' => e = .returned (.tuple #[.int .u8 (gm a (gp b 254)), .int .i64 0]) ∧ w = w' := by
  have hp := gp_bd b 254
  go_enter Try.func21, Try.ntmps21
  go_wp2_with (first
    | (go_at_call 25; refine (over_any _ _ (by omega) (by omega)).mono ?_; rintro e w' ⟨rfl, rfl⟩)
    | (go_at_call 10; refine (fieldMul_any _ _ _ (by omega) (by omega) (by omega) (by omega)).mono ?_; rintro e w' ⟨rfl, rfl⟩))
  go_ret2
  exact ⟨rfl, rfl⟩

set_option maxRecDepth 100000 in
set_option maxHeartbeats 400000 in
theorem fieldDiv_no (a : Int) (w : World) :
    Calls Try.prog 21 #[.int .u8 a, .int .u8 0] w fun e w' => e = .returned (.tuple #[.int .u8 0, .int .i64 1]) ∧ w = w' := by
  go_enter Try.func21, Try.ntmps21
  go_wp2
  go_ret2
  exact ⟨rfl, rfl⟩

set_option maxRecDepth 100000 in
set_option maxHeartbeats 400000 in
theorem fieldInv_yes (a : Int) (w : World) (ha : 1 ≤ a) (ha' : a ≤ 255) :
    Calls Try.prog 18 #[.int .u8 a] w fun e w' => e = .returned (.tuple #[.int .u8 (gm 1 (gp a 254)), .int .i64 0]) ∧ w = w' := by
  go_enter Try.func18, Try.ntmps18
  go_wp2_with (go_at_call 21; refine (fieldDiv_yes _ _ _ (by omega) (by omega) (by omega) (by omega)).mono ?_; rintro e w' ⟨rfl, rfl⟩)
  go_ret2
  exact ⟨rfl, rfl⟩

set_option maxRecDepth 100000 in
set_option maxHeartbeats 400000 in
theorem fieldInv_no (w : World) :
    Calls Try.prog 18 #[.int .u8 0] w fun e w' => e = .returned (.tuple #[.int .u8 0, .int .i64 1]) ∧ w = w' := by
  go_enter Try.func18, Try.ntmps18
  go_wp2_with (go_at_call 21; refine (fieldDiv_no _ _).mono ?_; rintro e w' ⟨rfl, rfl⟩)
  go_ret2
  exact ⟨rfl, rfl⟩

set_option maxRecDepth 100000 in
set_option maxHeartbeats 400000 in
theorem refLog_any (a : Int) (w : World) (ha : 1 ≤ a) (ha' : a ≤ 255) :
    Calls Try.prog 22 #[.int .u8 a] w fun e w' => e = .returned (.int .i64 ((Gf.log a.toNat : Nat) : Int)) ∧ w = w' := by
  obtain ⟨a, rfl⟩ := Int.eq_ofNat_of_zero_le (show 0 ≤ a by omega)
  have hl := Gf.log_lt (a := a) (by omega) (by omega)
  have HU := Lib.hid (Gf.up_log (a := a) (by omega) (by omega))
  go_enter Try.func22, Try.ntmps22
  go_wp2
  go_loop [3,4] (fun n x => ∃ k : Nat, n = .int .i64 k ∧ x = .int .u8 ((Gf.up k 1 : Nat) : Int) ∧ k ≤ Gf.log a) (fun n _ => (Gf.log a - (intOf n).toNat))
  case atStart => exact ⟨0, rfl, rfl, by omega⟩
  case round =>
    obtain ⟨k, rfl, rfl, hk⟩ := hrel
    have hu := Gf.up_lt k 1 (by decide)
    by_cases h0 : k < Gf.log a
    · have hne : (((Gf.up k 1 : Nat) : Int) != (a : Int)) = true := by
        have := Gf.up_ne h0 (by omega)
        rw [bne_iff_ne]; omega
      go_wp2_with (go_at_call 11; refine (refMul_any _ _ _ (by omega) (by omega) (by omega) (by omega)).mono ?_; rintro e w' ⟨rfl, rfl⟩)
      go_round
      case rel => exact ⟨k + 1, by go_num, by rw [show (2 : Int) = ((2 : Nat) : Int) from rfl, gm_nat, Gf.mul_two _ hu, ← Gf.up_dbl]; rfl, by omega⟩
      case measure => simp [intOf]; omega
    · have hek : k = Gf.log a := by omega
      have hne : (((Gf.up k 1 : Nat) : Int) != (a : Int)) = false := by
        rw [hek, HU.out]; simp
      have HK := Lib.hid hek
      clear hek
      go_wp2
      go_ret
      refine ⟨?_, rfl⟩
      rw [HK.out]; rfl

set_option maxRecDepth 100000 in
set_option maxHeartbeats 400000 in
theorem num_any (n : Int) (w : World) :
    Calls Try.prog 15 #[.int .i64 n] w fun e w' => e = .returned (.int .i64 n) ∧ w = w' := by
  go_enter Try.func15, Try.ntmps15
  go_wp2
  go_ret
  exact ⟨rfl, rfl⟩

set_option maxRecDepth 100000 in
set_option maxHeartbeats 400000 in
theorem wakes_any (w : World) :
    Calls Try.prog 13 #[] w fun e w' => e = .returned (.bool true) ∧ w = w' := by
  have h1 : gm 2 128 = 29 := by decide +kernel
  have h2 : bits .xor .u8 3 5 = 6 := by decide +kernel
  go_enter Try.func13, Try.ntmps13
  go_wp2_with (first
    | (go_at_call 12; refine (fieldAdd_any _ _ _).mono ?_; rintro e w' ⟨rfl, rfl⟩)
    | (go_at_call 10; refine (fieldMul_any _ _ _ (by omega) (by omega) (by omega) (by omega)).mono ?_; rintro e w' ⟨rfl, rfl⟩))
  go_ret
  exact ⟨rfl, rfl⟩
end Go.Proofs.Ytjnalbhfinejgaa
