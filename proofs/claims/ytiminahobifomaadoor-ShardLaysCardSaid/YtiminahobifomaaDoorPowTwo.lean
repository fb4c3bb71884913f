/- Powers, the page's way and the code's; inverses; walked. -/
import Derived.Test.YtiminahobifomaaDoorRows
import Derived.WalkKit
import Derived.WalkSpells
import Derived.WalkLawsBesides
import Derived.Handy
import Derived.Lib.Hide
import Derived.Test.YtiminahobifomaaDoorMulTwo
namespace Go.Proofs.YtiminahobifomaaDoor
open Go.RowKit
set_option linter.unusedVariables false
set_option linter.unusedSimpArgs false

theorem and1_i64_yes {n : Nat} (h : n ≤ 9223372036854775807) (e : (bits .and .i64 (n : Int) 1 == 1) = true) : n % 2 = 1 := by
  rw [bits_and1_i64 (by omega)] at e; have := beq_iff_eq.1 e; omega
theorem and1_i64_no {n : Nat} (h : n ≤ 9223372036854775807) (e : (bits .and .i64 (n : Int) 1 == 1) = false) : n % 2 ≠ 1 := by
  rw [bits_and1_i64 (by omega)] at e; have := beq_eq_false_iff_ne.1 e; omega

/-- The power of a byte, of integers. -/
def gp (a n : Int) : Int := ((Gf.pow a.toNat n.toNat : Nat) : Int)
theorem gp_nat (a n : Nat) : gp (a : Int) (n : Int) = ((Gf.pow a n : Nat) : Int) := by simp [gp]
theorem gp_bd (a n : Int) : 0 ≤ gp a n ∧ gp a n ≤ 255 := by
  have := Gf.pow_lt a.toNat n.toNat
  simp only [gp]; omega


end Go.Proofs.YtiminahobifomaaDoor
