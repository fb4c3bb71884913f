/- Bytes' products: field.Mul and the document's own, walked. -/
import Derived.Test.YtiminahobifomaaDoorRows
import Derived.WalkKit
import Derived.WalkSpells
import Derived.WalkLawsBesides
import Derived.Handy
import Derived.Lib.Hide
import Derived.Test.YtiminahobifomaaDoorGf
import Derived.Test.YtiminahobifomaaDoorBits
namespace Go.Proofs.YtiminahobifomaaDoor
open Go.RowKit
set_option linter.unusedVariables false
set_option linter.unusedSimpArgs false

/-- The product of two bytes, of integers. -/
def gm (a b : Int) : Int := ((Gf.mul a.toNat b.toNat : Nat) : Int)

theorem gm_nat (a b : Nat) : gm (a : Int) (b : Int) = ((Gf.mul a b : Nat) : Int) := by simp [gm]
theorem gm_bd {a : Int} (b : Int) (ha : 0 ≤ a) (ha' : a ≤ 255) : 0 ≤ gm a b ∧ gm a b ≤ 255 := by
  obtain ⟨a, rfl⟩ := Int.eq_ofNat_of_zero_le ha
  have := Gf.mul_lt (a := a) b.toNat (by omega)
  simp only [gm, Int.toNat_natCast]; omega

/-- One round of the product: the facts that the next round wants, of both tests. -/
theorem mul_round {f y n x r : Nat} (h1 : y < 256) (h2 : x < 256) (h3 : n < 256) (h0 : 0 < y) (H : y < 2 ^ f ∧ Gf.mulGo f y n x = r) :
    ∃ g : Nat, y / 2 < 2 ^ g ∧ (∀ n' x' : Nat, n' = (if y % 2 = 1 then n ^^^ x else n) → x' = (if x < 128 then 2 * x else (2 * x) ^^^ 285) → x' < 256 ∧ n' < 256 ∧ Gf.mulGo g (y / 2) n' x' = r) := by
  obtain ⟨hy, hr⟩ := H
  cases f with
  | zero => simp at hy; omega
  | succ g =>
    refine ⟨g, by rw [Nat.pow_succ] at hy; omega, ?_⟩
    intro n' x' hn hx
    subst hn; subst hx
    refine ⟨Gf.dbl_lt x h2, ?_, hr⟩
    split
    · exact Gf.xor_lt h3 h2
    · exact h3

theorem and1_yes {y : Nat} (h : y < 256) (e : (bits .and .u8 (y : Int) 1 == 1) = true) : y % 2 = 1 := by
  rw [bits_and1_u8 h] at e; simp at e; omega
theorem and1_no {y : Nat} (h : y < 256) (e : (bits .and .u8 (y : Int) 1 == 1) = false) : y % 2 ≠ 1 := by
  rw [bits_and1_u8 h] at e; simp at e; omega

theorem shr_nat (b k : Nat) : ((b : Int) / 2 ^ k) = ((b / 2 ^ k : Nat) : Int) := by
  rw [Int.natCast_ediv, Int.natCast_pow]; rfl
theorem and1_shr_yes {b k : Nat} (h : (b : Int) ≤ 255) (e : (bits .and .u8 ((b : Int) / 2 ^ k) 1 == 1) = true) : b / 2 ^ k % 2 = 1 := by
  have : b / 2 ^ k ≤ b := Nat.div_le_self _ _
  rw [shr_nat, bits_and1_u8 (by omega)] at e; have := beq_iff_eq.1 e; omega
theorem and1_shr_no {b k : Nat} (h : (b : Int) ≤ 255) (e : (bits .and .u8 ((b : Int) / 2 ^ k) 1 == 1) = false) : b / 2 ^ k % 2 ≠ 1 := by
  have : b / 2 ^ k ≤ b := Nat.div_le_self _ _
  rw [shr_nat, bits_and1_u8 (by omega)] at e; have := beq_eq_false_iff_ne.1 e; omega
theorem ref_round {b k n x r : Nat} (h0 : k < 8) (h2 : x < 256) (h3 : n < 256) (H : Gf.mulGo (8 - k) (b / 2 ^ k) n x = r) :
    ∀ n' x' : Nat, n' = (if b / 2 ^ k % 2 = 1 then n ^^^ x else n) → x' = (if x < 128 then 2 * x else (2 * x) ^^^ 285) → x' < 256 ∧ n' < 256 ∧ Hid (Gf.mulGo (8 - (k + 1)) (b / 2 ^ (k + 1)) n' x' = r) := by
  intro n' x' hn hx
  subst hn; subst hx
  refine ⟨Gf.dbl_lt x h2, ?_, ?_⟩
  · split
    · exact Gf.xor_lt h3 h2
    · exact h3
  · rw [show 8 - k = (8 - (k + 1)) + 1 by omega, Gf.mulGo] at H
    rw [Nat.pow_succ, ← Nat.div_div_eq_div_mul]
    exact H

end Go.Proofs.YtiminahobifomaaDoor
