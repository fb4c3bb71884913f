/- The model's operations on bits, at natural numbers within their range. -/
import Derived.WalkKit
namespace Go.Proofs.YtiminahobifomaaDoor
open Go.RowKit

theorem ofInt_nat (n a : Nat) : BitVec.ofInt n (a : Int) = BitVec.ofNat n a := by
  apply BitVec.eq_of_toNat_eq; simp

theorem bits_xor_k (k : IntKind) {a b : Nat} (ha : a < 2 ^ k.bits) (hb : b < 2 ^ k.bits) : bits .xor k (a : Int) (b : Int) = k.wrap ((a ^^^ b : Nat) : Int) := by
  simp only [bits, ofInt_nat, BitVec.toNat_xor, BitVec.toNat_ofNat, Nat.mod_eq_of_lt ha, Nat.mod_eq_of_lt hb]
theorem bits_and_k (k : IntKind) {a b : Nat} (ha : a < 2 ^ k.bits) (hb : b < 2 ^ k.bits) : bits .and k (a : Int) (b : Int) = k.wrap ((a &&& b : Nat) : Int) := by
  simp only [bits, ofInt_nat, BitVec.toNat_and, BitVec.toNat_ofNat, Nat.mod_eq_of_lt ha, Nat.mod_eq_of_lt hb]
theorem bits_or_k (k : IntKind) {a b : Nat} (ha : a < 2 ^ k.bits) (hb : b < 2 ^ k.bits) : bits .or k (a : Int) (b : Int) = k.wrap ((a ||| b : Nat) : Int) := by
  simp only [bits, ofInt_nat, BitVec.toNat_or, BitVec.toNat_ofNat, Nat.mod_eq_of_lt ha, Nat.mod_eq_of_lt hb]

theorem bits_xor_u8 {a b : Nat} (ha : a < 256) (hb : b < 256) : bits .xor .u8 (a : Int) (b : Int) = ((a ^^^ b : Nat) : Int) := by
  have h := Nat.xor_lt_two_pow (n := 8) ha hb
  rw [bits_xor_k .u8 ha hb, IntWalk.u8_in]; omega

theorem bits_xor_i64 {a b : Nat} (ha : a < 2 ^ 63) (hb : b < 2 ^ 63) : bits .xor .i64 (a : Int) (b : Int) = ((a ^^^ b : Nat) : Int) := by
  have h := Nat.xor_lt_two_pow (n := 63) ha hb
  rw [bits_xor_k .i64 (Nat.lt_trans ha (by decide)) (Nat.lt_trans hb (by decide)), IntWalk.i64_in]; omega

theorem bits_and1_u8 {y : Nat} (h : y < 256) : bits .and .u8 (y : Int) 1 = ((y % 2 : Nat) : Int) := by
  have e := bits_and_k .u8 (a := y) (b := 1) h (by decide)
  rw [Nat.and_one_is_mod, IntWalk.u8_in _ (by omega)] at e
  exact e

theorem bits_and1_i64 {y : Nat} (h : y < 2 ^ 63) : bits .and .i64 (y : Int) 1 = ((y % 2 : Nat) : Int) := by
  have e := bits_and_k .i64 (a := y) (b := 1) (Nat.lt_trans h (by decide)) (by decide)
  rw [Nat.and_one_is_mod, IntWalk.i64_in _ (by omega)] at e
  exact e
end Go.Proofs.YtiminahobifomaaDoor
