/- The plain arithmetic of the field of 256 numbers: the product bit by bit, that it is a field. No program is in sight. -/
import Derived.Laws.BitsLemmas
import Derived.WalkKit
import Derived.Test.YtijcmdcjjcemfaaRows
import Derived.WalkSpells
import Derived.WalkLawsBesides
import Derived.Handy
import Derived.Lib.Hide
import Derived.Test.YtijcmdcjjcemfaaPkA00
import Derived.BigQuiet
import Derived.BigRegion
import Derived.Deep.RegionHeld3
import Derived.StillTailTactics
import Derived.Deep.DeepCutAuto
import Derived.Deep.CutRange
import Derived.Deep.DrawnRows
namespace Go.Proofs.Ytijcmdcjjcemfaa
namespace Gf
def dbl (x : Nat) : Nat := if x < 128 then 2*x else (2*x) ^^^ 285

def mulGo : Nat → Nat → Nat → Nat → Nat
  | 0, _, n, _ => n
  | f+1, b, n, x => mulGo f (b/2) (if b % 2 = 1 then n ^^^ x else n) (dbl x)

def mul (a b : Nat) : Nat := mulGo 8 b 0 a

theorem xor_lt {x y : Nat} (hx : x < 256) (hy : y < 256) : x ^^^ y < 256 := Nat.xor_lt_two_pow (n := 8) hx hy

theorem dbl_lt : ∀ x, x < 256 → dbl x < 256 := by decide +kernel

/-- the two ways of writing the doubling agree with the xor. -/
theorem dbl_eq (x : Nat) (h : x < 256) : dbl x = (2 * x) ^^^ (if x.testBit 7 then 285 else 0) := by
  have : ∀ x, x < 256 → dbl x = (2 * x) ^^^ (if x.testBit 7 then 285 else 0) := by decide +kernel
  exact this x h

theorem two_xor (x y : Nat) : 2 * (x ^^^ y) = (2 * x) ^^^ (2 * y) := by
  have := Nat.shiftLeft_xor_distrib (a := x) (b := y) (i := 1)
  simpa [Nat.shiftLeft_eq, Nat.mul_comm] using this

theorem dbl_xor {x y : Nat} (hx : x < 256) (hy : y < 256) : dbl (x ^^^ y) = dbl x ^^^ dbl y := by
  rw [dbl_eq _ (xor_lt hx hy), dbl_eq _ hx, dbl_eq _ hy, two_xor, Nat.testBit_xor]
  cases x.testBit 7 <;> cases y.testBit 7 <;> simp
  · simp [Nat.xor_assoc]
  · ac_rfl
  · rw [show (2 * x ^^^ 285 ^^^ (2 * y ^^^ 285)) = (2 * x ^^^ 2 * y) ^^^ (285 ^^^ 285) by ac_rfl]; simp

theorem mulGo_lt (f : Nat) : ∀ b n x, n < 256 → x < 256 → mulGo f b n x < 256 := by
  induction f with
  | zero => intro b n x hn _; exact hn
  | succ f ih =>
    intro b n x hn hx
    unfold mulGo
    refine ih _ _ _ ?_ (dbl_lt x hx)
    split
    · exact xor_lt hn hx
    · exact hn

theorem mul_lt {a : Nat} (b : Nat) (ha : a < 256) : mul a b < 256 := mulGo_lt 8 b 0 a (by decide) ha

theorem mulGo_zero (f : Nat) : ∀ n x, mulGo f 0 n x = n := by
  induction f with
  | zero => intro n x; rfl
  | succ f ih => intro n x; simp [mulGo, ih]

theorem mulGo_xor (f : Nat) : ∀ b n x n' x', n < 256 → x < 256 → n' < 256 → x' < 256 →
    mulGo f b (n ^^^ n') (x ^^^ x') = mulGo f b n x ^^^ mulGo f b n' x' := by
  induction f with
  | zero => intros; rfl
  | succ f ih =>
    intro b n x n' x' hn hx hn' hx'
    simp only [mulGo]
    rw [dbl_xor hx hx']
    split
    · rw [show (n ^^^ n' ^^^ (x ^^^ x')) = (n ^^^ x) ^^^ (n' ^^^ x') by ac_rfl]
      exact ih _ _ _ _ _ (xor_lt hn hx) (dbl_lt _ hx) (xor_lt hn' hx') (dbl_lt _ hx')
    · exact ih _ _ _ _ _ hn (dbl_lt _ hx) hn' (dbl_lt _ hx')

theorem mul_xor_left {a a' : Nat} (b : Nat) (ha : a < 256) (ha' : a' < 256) : mul (a ^^^ a') b = mul a b ^^^ mul a' b := by
  have := mulGo_xor 8 b 0 a 0 a' (by decide) ha (by decide) ha'
  simpa [mul] using this

theorem mulGo_dbl (f : Nat) : ∀ b n x, n < 256 → x < 256 → mulGo f b (dbl n) (dbl x) = dbl (mulGo f b n x) := by
  induction f with
  | zero => intros; rfl
  | succ f ih =>
    intro b n x hn hx
    simp only [mulGo]
    split
    · rw [← dbl_xor hn hx]; exact ih _ _ _ (xor_lt hn hx) (dbl_lt _ hx)
    · exact ih _ _ _ hn (dbl_lt _ hx)

theorem mul_dbl {a : Nat} (b : Nat) (ha : a < 256) : mul (dbl a) b = dbl (mul a b) :=
  mulGo_dbl 8 b 0 a (by decide) ha

theorem one_mul : ∀ b, b < 256 → mul 1 b = b := by decide +kernel
theorem zero_mul : ∀ b, b < 256 → mul 0 b = 0 := by decide +kernel
theorem mul_zero (a : Nat) : mul a 0 = 0 := mulGo_zero 8 0 a
theorem mul_one : ∀ b, b < 256 → mul b 1 = b := by decide +kernel

/-- 2 multiplied so many times. -/
def up : Nat → Nat → Nat
  | 0, x => x
  | i + 1, x => up i (dbl x)

theorem up_lt (i : Nat) : ∀ x, x < 256 → up i x < 256 := by
  induction i with
  | zero => intro x h; exact h
  | succ i ih => intro x h; exact ih _ (dbl_lt x h)

theorem up_add (i : Nat) : ∀ j x, up (i + j) x = up j (up i x) := by
  induction i with
  | zero => intro j x; simp [up]
  | succ i ih => intro j x; rw [Nat.succ_add]; exact ih j (dbl x)

theorem up_dbl (i : Nat) : ∀ x, up i (dbl x) = dbl (up i x) := by
  induction i with
  | zero => intro x; rfl
  | succ i ih => intro x; exact ih (dbl x)

theorem mul_up (i : Nat) : ∀ a b, a < 256 → mul (up i a) b = up i (mul a b) := by
  induction i with
  | zero => intros; rfl
  | succ i ih => intro a b ha; simp only [up]; rw [ih _ _ (dbl_lt a ha), mul_dbl b ha]

theorem mul_exp (i b : Nat) (hb : b < 256) : mul (up i 1) b = up i b := by
  rw [mul_up i 1 b (by decide), one_mul b hb]

/-- the list 1, 2, 4 .. -/
def run : Nat → Nat → List Nat
  | 0, _ => []
  | i + 1, x => x :: run i (dbl x)

theorem run_get (n : Nat) : ∀ x i, i < n → (run n x)[i]? = some (up i x) := by
  induction n with
  | zero => intro x i h; omega
  | succ n ih =>
    intro x i h
    cases i with
    | zero => rfl
    | succ i => simp only [run, List.getElem?_cons_succ, up]; exact ih _ _ (by omega)

theorem run_length (n : Nat) : ∀ x, (run n x).length = n := by
  induction n with
  | zero => intro x; rfl
  | succ n ih => intro x; simp [run, ih]

theorem all_in : ∀ x, x < 256 → x ≠ 0 → x ∈ run 255 1 := by decide +kernel

theorem exists_exp {x : Nat} (h : x < 256) (h0 : x ≠ 0) : ∃ i, i < 255 ∧ up i 1 = x := by
  have := all_in x h h0
  obtain ⟨i, hi, hx⟩ := List.getElem_of_mem this
  rw [run_length] at hi
  refine ⟨i, hi, ?_⟩
  have h2 := run_get 255 1 i hi
  rw [List.getElem?_eq_getElem (by rw [run_length]; exact hi)] at h2
  simp at h2; rw [← h2, hx]

theorem mul_comm {a b : Nat} (ha : a < 256) (hb : b < 256) : mul a b = mul b a := by
  by_cases h0 : a = 0
  · subst h0; rw [zero_mul b hb, mul_zero]
  by_cases h1 : b = 0
  · subst h1; rw [zero_mul a ha, mul_zero]
  obtain ⟨i, _, rfl⟩ := exists_exp ha h0
  obtain ⟨j, _, rfl⟩ := exists_exp hb h1
  rw [mul_exp i _ hb, mul_exp j _ ha, ← up_add, ← up_add, Nat.add_comm]

theorem mul_assoc {a b c : Nat} (ha : a < 256) (hb : b < 256) (hc : c < 256) : mul (mul a b) c = mul a (mul b c) := by
  by_cases h0 : a = 0
  · subst h0; rw [zero_mul b hb, zero_mul c hc, zero_mul _ (mul_lt _ hb)]
  obtain ⟨i, _, rfl⟩ := exists_exp ha h0
  rw [mul_exp i _ hb, mul_exp i _ (mul_lt _ hb), mul_up i b c hb]

theorem mul_xor_right {a b b' : Nat} (ha : a < 256) (hb : b < 256) (hb' : b' < 256) : mul a (b ^^^ b') = mul a b ^^^ mul a b' := by
  rw [mul_comm ha (xor_lt hb hb'), mul_xor_left _ hb hb', mul_comm hb ha, mul_comm hb' ha]

theorem run_nodup : (run 255 1).Nodup := by decide +kernel
theorem run_pos : ∀ x ∈ run 255 1, x ≠ 0 := by decide +kernel
theorem up_255 : ∀ x, x < 256 → up 255 x = x := by decide +kernel



/-- A number multiplied n times by itself. -/
def pow (a : Nat) : Nat → Nat
  | 0 => 1
  | n + 1 => mul (pow a n) a

theorem pow_lt (a n : Nat) : pow a n < 256 := by
  induction n with
  | zero => exact Nat.lt_of_sub_eq_succ rfl
  | succ n ih => exact mul_lt _ ih

theorem pow_add {a : Nat} (ha : a < 256) (m n : Nat) : pow a (m + n) = mul (pow a m) (pow a n) := by
  induction n with
  | zero => simp only [pow, Nat.add_zero]; rw [mul_one _ (pow_lt a m)]
  | succ n ih => rw [← Nat.add_assoc]; simp only [pow]; rw [ih, mul_assoc (pow_lt a m) (pow_lt a n) ha]

theorem pow_square {a : Nat} (ha : a < 256) (n : Nat) : pow (mul a a) n = pow a (2 * n) := by
  induction n with
  | zero => rfl
  | succ n ih =>
    rw [show 2 * (n + 1) = 2 * n + 1 + 1 by omega]
    simp only [pow]; rw [ih, mul_assoc (pow_lt _ _) ha ha]

/-- A round of the power by squares. -/
theorem pow_round {a n x : Nat} (ha : a < 256) (hx : x < 256) :
    mul (if n % 2 = 1 then mul x a else x) (pow (mul a a) (n / 2)) = mul x (pow a n) := by
  rw [pow_square ha]
  split
  · rename_i h
    rw [mul_assoc hx ha (pow_lt _ _)]
    have e : n = 1 + 2 * (n / 2) := by omega
    conv => rhs; rw [e, pow_add ha]
    simp only [pow]; rw [one_mul a ha]
  · rw [show 2 * (n / 2) = n by omega]

theorem mul_two : ∀ x, x < 256 → mul x 2 = dbl x := by decide +kernel

theorem pow_two (n : Nat) : pow 2 n = up n 1 := by
  induction n with
  | zero => rfl
  | succ n ih => simp only [pow, up]; rw [ih, mul_two _ (up_lt _ _ (by decide)), up_dbl]

theorem pow_up (i n : Nat) : pow (up i 1) n = up (i * n) 1 := by
  induction n with
  | zero => rfl
  | succ n ih => simp only [pow]; rw [ih, mul_exp _ _ (up_lt _ _ (by decide)), ← up_add, Nat.mul_succ, Nat.add_comm]

theorem up_mul255 (i : Nat) : ∀ x, x < 256 → up (255 * i) x = x := by
  induction i with
  | zero => intro x _; rfl
  | succ i ih => intro x h; rw [Nat.mul_succ, up_add, ih x h, up_255 x h]

theorem pow_255 {a : Nat} (h : a < 256) (h0 : a ≠ 0) : pow a 255 = 1 := by
  obtain ⟨i, _, rfl⟩ := exists_exp h h0
  rw [pow_up, Nat.mul_comm, up_mul255 i 1 (by decide)]

/-- The number that times a is 1 (of 0: 0). -/
def inv (a : Nat) : Nat := pow a 254
theorem inv_lt (a : Nat) : inv a < 256 := pow_lt a 254
theorem mul_inv {a : Nat} (h : a < 256) (h0 : a ≠ 0) : mul (inv a) a = 1 := pow_255 h h0
theorem inv_mul {a : Nat} (h : a < 256) (h0 : a ≠ 0) : mul a (inv a) = 1 := by rw [mul_comm h (inv_lt a)]; exact mul_inv h h0
theorem inv_ne {a : Nat} (h : a < 256) (h0 : a ≠ 0) : inv a ≠ 0 := by
  intro e; have := mul_inv h h0; rw [e, zero_mul a h] at this; exact absurd this (by decide)
theorem mul_cancel {a b c : Nat} (ha : a < 256) (hb : b < 256) (hc : c < 256) (h0 : a ≠ 0) (h : mul a b = mul a c) : b = c := by
  have e : mul (inv a) (mul a b) = mul (inv a) (mul a c) := by rw [h]
  rwa [← mul_assoc (inv_lt a) ha hb, ← mul_assoc (inv_lt a) ha hc, mul_inv ha h0, one_mul b hb, one_mul c hc] at e
theorem inv_inv {a : Nat} (h : a < 256) (h0 : a ≠ 0) : inv (inv a) = a := by
  refine mul_cancel (inv_lt a) (inv_lt _) h (inv_ne h h0) ?_
  rw [inv_mul (inv_lt a) (inv_ne h h0), mul_inv h h0]
theorem mul_ne {a b : Nat} (ha : a < 256) (hb : b < 256) (h0 : a ≠ 0) (h1 : b ≠ 0) : mul a b ≠ 0 := by
  intro e
  have := mul_cancel ha hb (by decide : 0 < 256) h0 (by rw [e, mul_zero])
  exact h1 this

/-- The least number of times that 2 is multiplied to be a. -/
def log (a : Nat) : Nat := (run 255 1).idxOf a

theorem log_lt {a : Nat} (h : a < 256) (h0 : a ≠ 0) : log a < 255 := by
  have := List.idxOf_lt_length_of_mem (all_in a h h0)
  rwa [run_length] at this
theorem up_log {a : Nat} (h : a < 256) (h0 : a ≠ 0) : up (log a) 1 = a := by
  have hl := log_lt h h0
  have h2 := run_get 255 1 (log a) hl
  rw [List.getElem?_eq_getElem (by rw [run_length]; exact hl)] at h2
  simp only [Option.some.injEq] at h2
  rw [← h2]
  exact List.getElem_idxOf (by rw [run_length]; exact hl)
theorem idxOf_le {l : List Nat} {a : Nat} : ∀ {k : Nat}, l[k]? = some a → l.idxOf a ≤ k := by
  induction l with
  | nil => intro k h; simp at h
  | cons x l ih =>
    intro k h
    cases k with
    | zero => simp at h; subst h; simp
    | succ k =>
      rw [List.idxOf_cons]
      have := ih (k := k) (by simpa using h)
      cases x == a
      · simp only [cond_false]; omega
      · simp only [cond_true]; omega
theorem up_ne {a k : Nat} (h : k < log a) (hk : k < 255) : up k 1 ≠ a := by
  intro e
  have h2 := run_get 255 1 k hk
  rw [e] at h2
  have := idxOf_le h2
  unfold log at h; omega
theorem up_inj {i j : Nat} (hi : i < 255) (hj : j < 255) (h : up i 1 = up j 1) : i = j := by
  have h3 : i < (run 255 1).length := by rw [run_length]; exact hi
  have h4 : j < (run 255 1).length := by rw [run_length]; exact hj
  have e1 := run_get 255 1 i hi
  have e2 := run_get 255 1 j hj
  rw [List.getElem?_eq_getElem h3] at e1
  rw [List.getElem?_eq_getElem h4] at e2
  simp only [Option.some.injEq] at e1 e2
  exact (List.getElem_inj (h₀ := h3) (h₁ := h4) run_nodup).1 (by rw [e1, e2, h])
theorem log_up {i : Nat} (hi : i < 255) : log (up i 1) = i := by
  have h0 : up i 1 ≠ 0 := by
    have h3 : i < (run 255 1).length := by rw [run_length]; exact hi
    have e1 := run_get 255 1 i hi
    rw [List.getElem?_eq_getElem h3] at e1
    simp only [Option.some.injEq] at e1
    rw [← e1]; exact run_pos _ (List.getElem_mem h3)
  have hl := up_lt i 1 (by decide)
  exact up_inj (log_lt hl h0) hi (up_log hl h0)
theorem up_ne_zero (i : Nat) : up i 1 ≠ 0 := by
  rw [← pow_two]
  induction i with
  | zero => decide
  | succ i ih => exact mul_ne (pow_lt _ _) (by decide) ih (by decide)
end Gf
end Go.Proofs.Ytijcmdcjjcemfaa

/- The model's operations on bits, at natural numbers within their range. -/

namespace Go.Proofs.Ytijcmdcjjcemfaa
open Go.RowKit

theorem ofInt_nat (n a : Nat) : BitVec.ofInt n (a : Int) = BitVec.ofNat n a := by
  apply BitVec.eq_of_toNat_eq; simp

theorem bits_xor_k (k : IntKind) {a b : Nat} (ha : a < 2 ^ k.bits) (hb : b < 2 ^ k.bits) : bits .xor k (a : Int) (b : Int) = k.wrap ((a ^^^ b : Nat) : Int) := by
  simp only [bits, ofInt_nat, BitVec.toNat_xor, BitVec.toNat_ofNat, Nat.mod_eq_of_lt ha, Nat.mod_eq_of_lt hb]
theorem bits_and_k (k : IntKind) {a b : Nat} (ha : a < 2 ^ k.bits) (hb : b < 2 ^ k.bits) : bits .and k (a : Int) (b : Int) = k.wrap ((a &&& b : Nat) : Int) := by
  simp only [bits, ofInt_nat, BitVec.toNat_and, BitVec.toNat_ofNat, Nat.mod_eq_of_lt ha, Nat.mod_eq_of_lt hb]
theorem bits_or_k (k : IntKind) {a b : Nat} (ha : a < 2 ^ k.bits) (hb : b < 2 ^ k.bits) : bits .or k (a : Int) (b : Int) = k.wrap ((a ||| b : Nat) : Int) := by
  simp only [bits, ofInt_nat, BitVec.toNat_or, BitVec.toNat_ofNat, Nat.mod_eq_of_lt ha, Nat.mod_eq_of_lt hb]

theorem bits_xor_u8 {a b : Nat} (ha : a < 256) (hb : b < 256) : bits .xor .u8 (a : Int) (b : Int) = ((a ^^^ b : Nat) : Int) := by
  have h := Nat.xor_lt_two_pow (n := 8) ha hb
  rw [bits_xor_k .u8 ha hb, IntWalk.u8_in]; omega

theorem bits_xor_i64 {a b : Nat} (ha : a < 2 ^ 63) (hb : b < 2 ^ 63) : bits .xor .i64 (a : Int) (b : Int) = ((a ^^^ b : Nat) : Int) := by
  have h := Nat.xor_lt_two_pow (n := 63) ha hb
  rw [bits_xor_k .i64 (Nat.lt_trans ha (by decide)) (Nat.lt_trans hb (by decide)), IntWalk.i64_in]; omega

theorem bits_and1_u8 {y : Nat} (h : y < 256) : bits .and .u8 (y : Int) 1 = ((y % 2 : Nat) : Int) := by
  have e := bits_and_k .u8 (a := y) (b := 1) h (by decide)
  rw [Nat.and_one_is_mod, IntWalk.u8_in _ (by omega)] at e
  exact e

theorem bits_and1_i64 {y : Nat} (h : y < 2 ^ 63) : bits .and .i64 (y : Int) 1 = ((y % 2 : Nat) : Int) := by
  have e := bits_and_k .i64 (a := y) (b := 1) (Nat.lt_trans h (by decide)) (by decide)
  rw [Nat.and_one_is_mod, IntWalk.i64_in _ (by omega)] at e
  exact e
end Go.Proofs.Ytijcmdcjjcemfaa

/- Bytes' products: field.Mul and the document's own, walked. -/

namespace Go.Proofs.Ytijcmdcjjcemfaa
open Go.RowKit
set_option linter.unusedVariables false
set_option linter.unusedSimpArgs false

/-- The product of two bytes, of integers. -/
def gm (a b : Int) : Int := ((Gf.mul a.toNat b.toNat : Nat) : Int)

theorem gm_nat (a b : Nat) : gm (a : Int) (b : Int) = ((Gf.mul a b : Nat) : Int) := by simp [gm]
theorem gm_bd {a : Int} (b : Int) (ha : 0 ≤ a) (ha' : a ≤ 255) : 0 ≤ gm a b ∧ gm a b ≤ 255 := by
  obtain ⟨a, rfl⟩ := Int.eq_ofNat_of_zero_le ha
  have := Gf.mul_lt (a := a) b.toNat (by omega)
  simp only [gm, Int.toNat_natCast]; omega

/-- One round of the product: the facts that the next round wants, of both tests. -/
theorem mul_round {f y n x r : Nat} (h1 : y < 256) (h2 : x < 256) (h3 : n < 256) (h0 : 0 < y) (H : y < 2 ^ f ∧ Gf.mulGo f y n x = r) :
    ∃ g : Nat, y / 2 < 2 ^ g ∧ (∀ n' x' : Nat, n' = (if y % 2 = 1 then n ^^^ x else n) → x' = (if x < 128 then 2 * x else (2 * x) ^^^ 285) → x' < 256 ∧ n' < 256 ∧ Gf.mulGo g (y / 2) n' x' = r) := by
  obtain ⟨hy, hr⟩ := H
  cases f with
  | zero => simp at hy; omega
  | succ g =>
    refine ⟨g, by rw [Nat.pow_succ] at hy; omega, ?_⟩
    intro n' x' hn hx
    subst hn; subst hx
    refine ⟨Gf.dbl_lt x h2, ?_, hr⟩
    split
    · exact Gf.xor_lt h3 h2
    · exact h3

theorem and1_yes {y : Nat} (h : y < 256) (e : (bits .and .u8 (y : Int) 1 == 1) = true) : y % 2 = 1 := by
  rw [bits_and1_u8 h] at e; simp at e; omega
theorem and1_no {y : Nat} (h : y < 256) (e : (bits .and .u8 (y : Int) 1 == 1) = false) : y % 2 ≠ 1 := by
  rw [bits_and1_u8 h] at e; simp at e; omega

set_option maxRecDepth 100000 in
set_option maxHeartbeats 400000 in
theorem fieldMul_any (a b : Int) (w : World) (ha : 0 ≤ a) (ha' : a ≤ 255) (hb : 0 ≤ b) (hb' : b ≤ 255) :
    Calls Try.prog 78 #[.int .u8 a, .int .u8 b] w fun e w' => e = .returned (.int .u8 (gm a b)) ∧ w = w' := by
  obtain ⟨a, rfl⟩ := Int.eq_ofNat_of_zero_le ha
  obtain ⟨b, rfl⟩ := Int.eq_ofNat_of_zero_le hb
  go_enter Try.func78, Try.ntmps78
  go_wp2
  go_loop [1,5,6] (fun y n x => ∃ f y' n' x' : Nat, y = .int .u8 y' ∧ n = .int .i64 n' ∧ x = .int .i64 x' ∧ y' < 256 ∧ x' < 256 ∧ n' < 256 ∧ Hid (y' < 2 ^ f ∧ Gf.mulGo f y' n' x' = Gf.mul a b)) (fun y _ _ => (intOf y).toNat)
  case atStart => exact ⟨8, b, 0, a, rfl, rfl, rfl, by omega, by omega, by omega, by omega, rfl⟩
  case round =>
    obtain ⟨f, y, n, x, rfl, rfl, rfl, h1, h2, h3, H⟩ := hrel
    by_cases h0 : 0 < y
    · go_wp2
      all_goals
        obtain ⟨g, hg, HS⟩ := mul_round h1 h2 h3 h0 H.out
        have HG := Lib.hid hg
        clear hg
      · have t1 := and1_yes h1 (by assumption)
        have t2 : ¬ x < 128 := by omega
        obtain ⟨a1, a2, a3⟩ := HS _ _ rfl rfl
        simp only [t1, t2, if_true, if_false] at a1 a2 a3
        go_round
        case rel => exact ⟨g, y / 2, n ^^^ x, (2 * x) ^^^ 285, by go_num, by rw [bits_xor_i64 (by omega) (by omega)], by rw [show ((x : Int) * 2) = ((2 * x : Nat) : Int) by omega]; exact congrArg _ (bits_xor_i64 (b := 285) (by omega) (by omega)), by omega, a1, a2, HG.out, a3⟩
        case measure => simp [intOf]; omega
      · have t1 := and1_yes h1 (by assumption)
        have t2 : x < 128 := by omega
        obtain ⟨a1, a2, a3⟩ := HS _ _ rfl rfl
        simp only [t1, t2, if_true, if_false] at a1 a2 a3
        go_round
        case rel => exact ⟨g, y / 2, n ^^^ x, 2 * x, by go_num, by rw [bits_xor_i64 (by omega) (by omega)], by go_num, by omega, a1, a2, HG.out, a3⟩
        case measure => simp [intOf]; omega
      · have t1 := and1_no h1 (by assumption)
        have t2 : ¬ x < 128 := by omega
        obtain ⟨a1, a2, a3⟩ := HS _ _ rfl rfl
        simp only [t1, t2, if_true, if_false] at a1 a2 a3
        go_round
        case rel => exact ⟨g, y / 2, n, (2 * x) ^^^ 285, by go_num, rfl, by rw [show ((x : Int) * 2) = ((2 * x : Nat) : Int) by omega]; exact congrArg _ (bits_xor_i64 (b := 285) (by omega) (by omega)), by omega, a1, a2, HG.out, a3⟩
        case measure => simp [intOf]; omega
      · have t1 := and1_no h1 (by assumption)
        have t2 : x < 128 := by omega
        obtain ⟨a1, a2, a3⟩ := HS _ _ rfl rfl
        simp only [t1, t2, if_true, if_false] at a1 a2 a3
        go_round
        case rel => exact ⟨g, y / 2, n, 2 * x, by go_num, rfl, by go_num, by omega, a1, a2, HG.out, a3⟩
        case measure => simp [intOf]; omega
    · obtain rfl : y = 0 := by omega
      have hn : n = Gf.mul a b := by rw [← H.out.2, Gf.mulGo_zero]
      have HN := Lib.hid hn; clear hn
      go_wp2
      go_ret
      refine ⟨?_, rfl⟩
      simp [gm, HN.out]


theorem shr_nat (b k : Nat) : ((b : Int) / 2 ^ k) = ((b / 2 ^ k : Nat) : Int) := by
  rw [Int.natCast_ediv, Int.natCast_pow]; rfl
theorem and1_shr_yes {b k : Nat} (h : (b : Int) ≤ 255) (e : (bits .and .u8 ((b : Int) / 2 ^ k) 1 == 1) = true) : b / 2 ^ k % 2 = 1 := by
  have : b / 2 ^ k ≤ b := Nat.div_le_self _ _
  rw [shr_nat, bits_and1_u8 (by omega)] at e; have := beq_iff_eq.1 e; omega
theorem and1_shr_no {b k : Nat} (h : (b : Int) ≤ 255) (e : (bits .and .u8 ((b : Int) / 2 ^ k) 1 == 1) = false) : b / 2 ^ k % 2 ≠ 1 := by
  have : b / 2 ^ k ≤ b := Nat.div_le_self _ _
  rw [shr_nat, bits_and1_u8 (by omega)] at e; have := beq_eq_false_iff_ne.1 e; omega
theorem ref_round {b k n x r : Nat} (h0 : k < 8) (h2 : x < 256) (h3 : n < 256) (H : Gf.mulGo (8 - k) (b / 2 ^ k) n x = r) :
    ∀ n' x' : Nat, n' = (if b / 2 ^ k % 2 = 1 then n ^^^ x else n) → x' = (if x < 128 then 2 * x else (2 * x) ^^^ 285) → x' < 256 ∧ n' < 256 ∧ Hid (Gf.mulGo (8 - (k + 1)) (b / 2 ^ (k + 1)) n' x' = r) := by
  intro n' x' hn hx
  subst hn; subst hx
  refine ⟨Gf.dbl_lt x h2, ?_, ?_⟩
  · split
    · exact Gf.xor_lt h3 h2
    · exact h3
  · rw [show 8 - k = (8 - (k + 1)) + 1 by omega, Gf.mulGo] at H
    rw [Nat.pow_succ, ← Nat.div_div_eq_div_mul]
    exact H

set_option maxRecDepth 100000 in
set_option maxHeartbeats 400000 in
theorem refMul_any (a b : Int) (w : World) (ha : 0 ≤ a) (ha' : a ≤ 255) (hb : 0 ≤ b) (hb' : b ≤ 255) :
    Calls Try.prog 48 #[.int .u8 a, .int .u8 b] w fun e w' => e = .returned (.int .u8 (gm a b)) ∧ w = w' := by
  obtain ⟨a, rfl⟩ := Int.eq_ofNat_of_zero_le ha
  obtain ⟨b, rfl⟩ := Int.eq_ofNat_of_zero_le hb
  go_enter Try.func48, Try.ntmps48
  go_wp2
  go_loop [5,6,7] (fun x n i => ∃ k n' x' : Nat, i = .int .i64 k ∧ n = .int .i64 n' ∧ x = .int .i64 x' ∧ k ≤ 8 ∧ x' < 256 ∧ n' < 256 ∧ Hid (Gf.mulGo (8 - k) (b / 2 ^ k) n' x' = Gf.mul a b)) (fun _ _ i => (8 - intOf i).toNat)
  case atStart => exact ⟨0, 0, a, rfl, rfl, rfl, by omega, by omega, by omega, by simp [Hid, Gf.mul]⟩
  case round =>
    obtain ⟨k, n, x, rfl, rfl, rfl, h1, h2, h3, H⟩ := hrel
    by_cases h0 : k < 8
    · go_wp2
      · have t1 := and1_shr_yes hb' (by assumption)
        have t2 : ¬ x < 128 := by omega
        obtain ⟨a1, a2, a3⟩ := ref_round h0 h2 h3 H.out _ _ rfl rfl
        simp only [t1, t2, if_true, if_false] at a1 a2 a3
        go_round
        case rel => exact ⟨k + 1, n ^^^ x, (2 * x) ^^^ 285, by go_num, by rw [bits_xor_i64 (by omega) (by omega)], by rw [show ((x : Int) * 2) = ((2 * x : Nat) : Int) by omega]; exact congrArg _ (bits_xor_i64 (b := 285) (by omega) (by omega)), by omega, a1, a2, a3⟩
        case measure => simp [intOf]; omega
      · have t1 := and1_shr_yes hb' (by assumption)
        have t2 : x < 128 := by omega
        obtain ⟨a1, a2, a3⟩ := ref_round h0 h2 h3 H.out _ _ rfl rfl
        simp only [t1, t2, if_true, if_false] at a1 a2 a3
        go_round
        case rel => exact ⟨k + 1, n ^^^ x, 2 * x, by go_num, by rw [bits_xor_i64 (by omega) (by omega)], by go_num, by omega, a1, a2, a3⟩
        case measure => simp [intOf]; omega
      · have t1 := and1_shr_no hb' (by assumption)
        have t2 : ¬ x < 128 := by omega
        obtain ⟨a1, a2, a3⟩ := ref_round h0 h2 h3 H.out _ _ rfl rfl
        simp only [t1, t2, if_true, if_false] at a1 a2 a3
        go_round
        case rel => exact ⟨k + 1, n, (2 * x) ^^^ 285, by go_num, rfl, by rw [show ((x : Int) * 2) = ((2 * x : Nat) : Int) by omega]; exact congrArg _ (bits_xor_i64 (b := 285) (by omega) (by omega)), by omega, a1, a2, a3⟩
        case measure => simp [intOf]; omega
      · have t1 := and1_shr_no hb' (by assumption)
        have t2 : x < 128 := by omega
        obtain ⟨a1, a2, a3⟩ := ref_round h0 h2 h3 H.out _ _ rfl rfl
        simp only [t1, t2, if_true, if_false] at a1 a2 a3
        go_round
        case rel => exact ⟨k + 1, n, 2 * x, by go_num, rfl, by go_num, by omega, a1, a2, a3⟩
        case measure => simp [intOf]; omega
    · obtain rfl : k = 8 := by omega
      have HN := Lib.hid H.out
      clear H
      go_wp2
      go_ret
      refine ⟨?_, rfl⟩
      simp [gm, ← HN.out, Gf.mulGo]
end Go.Proofs.Ytijcmdcjjcemfaa

/- What lane.Into does to bytes: another lane, scaled, is added; plainly. -/

namespace Go.Proofs.Ytijcmdcjjcemfaa
open Go.ChangeShapes Go.WideShapes Go.ChangeAt Go.RowKit Go.Joins
set_option linter.unusedVariables false
set_option linter.unusedSimpArgs false

/-- A text's byte. -/
def byN (s : ByteArray) (i : Nat) : Nat := (s.data.toList.getD i 0).toNat
theorem byN_eq {s : ByteArray} {i : Nat} (h : i < s.size) : byN s i = (s[i]'h).toNat := by
  rw [byN, List.getD, List.getElem?_eq_getElem (by simpa using h)]; rfl
theorem byN_lt (s : ByteArray) (i : Nat) : byN s i < 256 := UInt8.toNat_lt _
theorem bytesOf_get (s : ByteArray) (i : Nat) : (bytesOf s).getD i 0 = byN s i := by
  by_cases h : i < s.size
  · simp [bytesOf, byN, List.getD, h]
  · simp [bytesOf, byN, List.getD, h]

/-- Bytes from off on, n of them, and a lane scaled. -/
def intoL (s : ByteArray) (c off n : Nat) (l : List Nat) : List Nat := (List.range n).foldl (fun l i => l.set (off + i) (l.getD (off + i) 0 ^^^ Gf.mul (byN s i) c)) l
theorem intoL_zero (s : ByteArray) (c off : Nat) (l : List Nat) : intoL s c off 0 l = l := rfl
theorem intoL_step (s : ByteArray) (c off n : Nat) (l : List Nat) : intoL s c off (n + 1) l = (intoL s c off n l).set (off + n) ((intoL s c off n l).getD (off + n) 0 ^^^ Gf.mul (byN s n) c) := by
  rw [intoL, List.range_succ, List.foldl_append]; rfl
theorem intoL_length (s : ByteArray) (c off n : Nat) (l : List Nat) : (intoL s c off n l).length = l.length := by
  induction n with
  | zero => rfl
  | succ n ih => rw [intoL_step, List.length_set, ih]
theorem getD_set_eq {l : List Nat} {i v : Nat} (h : i < l.length) : (l.set i v).getD i 0 = v := by simp [List.getD, h]
theorem getD_set_ne {l : List Nat} {i j v : Nat} (h : i ≠ j) : (l.set i v).getD j 0 = l.getD j 0 := by simp [List.getD, List.getElem?_set, h]
theorem intoL_far (s : ByteArray) (c off n : Nat) (l : List Nat) (j : Nat) (h : j < off ∨ off + n ≤ j) : (intoL s c off n l).getD j 0 = l.getD j 0 := by
  induction n with
  | zero => rfl
  | succ n ih => rw [intoL_step, getD_set_ne (by omega), ih (by omega)]
theorem intoL_get (s : ByteArray) (c off n : Nat) (l : List Nat) (i : Nat) (hi : i < n) (hl : off + n ≤ l.length) : (intoL s c off n l).getD (off + i) 0 = l.getD (off + i) 0 ^^^ Gf.mul (byN s i) c := by
  induction n with
  | zero => omega
  | succ n ih =>
    by_cases h : i = n
    · rw [intoL_step, h, getD_set_eq (by rw [intoL_length]; omega), intoL_far s c off n l (off + n) (by omega)]
    · rw [intoL_step, getD_set_ne (by omega), ih (by omega) (by omega)]
theorem intoL_succ (s : ByteArray) (c off n : Nat) (l : List Nat) : intoL s c off (n + 1) l = (intoL s c off n l).set (off + n) (l.getD (off + n) 0 ^^^ Gf.mul (byN s n) c) := by
  rw [intoL_step, intoL_far s c off n l (off + n) (by omega)]
theorem set_getD_self (l : List Nat) (i : Nat) : l.set i (l.getD i 0) = l := by
  apply List.ext_getElem
  · simp
  · intro j h1 h2
    rw [List.getElem_set]
    split
    · rename_i e; subst e; simp [List.getD, h2]
    · rfl
theorem intoL_none (s : ByteArray) (off n : Nat) (l : List Nat) : intoL s 0 off n l = l := by
  induction n with
  | zero => rfl
  | succ n ih => rw [intoL_succ, Gf.mul_zero, Nat.xor_zero, ih, set_getD_self]
end Go.Proofs.Ytijcmdcjjcemfaa

/- lane.Into, walked: of less than 256 bytes. -/

namespace Go.Proofs.Ytijcmdcjjcemfaa
open Go.ChangeShapes Go.WideShapes Go.ChangeAt Go.RowKit Go.Joins
set_option linter.unusedVariables false
set_option linter.unusedSimpArgs false

theorem fieldMul_nat (a b g : Nat) (w : World) (ha : a < 256) (hb : b < 256) (hg : Gf.mul a b = g) :
    Calls Try.prog 78 #[.int .u8 (a : Int), .int .u8 (b : Int)] w fun e w' => e = .returned (.int .u8 (g : Int)) ∧ w = w' := by
  have h := fieldMul_any (a : Int) (b : Int) w (by omega) (by omega) (by omega) (by omega)
  rw [gm_nat, hg] at h
  exact h

set_option maxRecDepth 100000 in
set_option maxHeartbeats 1000000 in
theorem into_small (B off n cap : Nat) (ns : List Nat) (s : ByteArray) (c : Nat) (w : World) (h : BytesBlk w B ns) (hB : B < w.heap.size) (hoff : off + n ≤ ns.length) (hns : ns.length ≤ 100000) (hs : n ≤ s.size) (hs2 : s.size ≤ 100000) (hc : c < 256) (hc0 : 0 < c) (hn : n < 256) :
    Calls Try.prog 59 #[.slice (some ⟨B, off, none⟩) n cap, .string s, .int .u8 (c : Int)] w fun e w' => e = .returned (.tuple #[]) ∧ BytesBlk w' B (intoL s c off n ns) ∧ Kept (fun k => k = B) w w' := by
  have HD0 := Lib.hid h
  have hcz : ((c : Int) == 0) = false := beq_eq_false_iff_ne.2 (by omega)
  have hnd : decide ((n : Int) < 256) = true := by simp; omega
  clear h
  go_enter Try.func59, Try.ntmps59
  go_wp2_with fail
  go_loopw [17] (fun i wr => ∃ k : Nat, i = .int .i64 k ∧ k ≤ n ∧ Hid (BytesBlk wr B (intoL s c off k ns)) ∧ Hid (Kept (fun k => k = B) w wr)) (fun i _ => n - (intOf i).toNat)
  case atStart => exact ⟨0, rfl, by omega, HD0, Lib.hid (Kept.refl _ _)⟩
  case round =>
    clear HD0
    obtain ⟨k, rfl, hk, HD, HK⟩ := hrel
    by_cases hlt : k < n
    · have ha : k < s.size := by omega
      obtain ⟨a, hca, ha2, ha256⟩ : ∃ a : Nat, (∀ h : k < s.size, (s[k]'h).toNat = a) ∧ byN s k = a ∧ a < 256 := ⟨byN s k, fun h => (byN_eq h).symm, rfl, byN_lt _ _⟩
      obtain ⟨c1, c2, c3⟩ := HD.out (off + k) (by rw [intoL_length]; omega)
      rw [intoL_far s c off k ns (off + k) (by omega)] at c1 c2
      obtain ⟨g, hg⟩ : ∃ g, Gf.mul a c = g := ⟨_, rfl⟩
      have hg256 : g < 256 := by rw [← hg]; exact Gf.mul_lt c ha256
      obtain ⟨x, hx⟩ : ∃ x, ns.getD (off + k) 0 = x := ⟨_, rfl⟩
      rw [hx] at c1 c2
      have hxg := bits_xor_u8 c1 hg256
      obtain ⟨z, hz⟩ : ∃ z, z = x ^^^ g := ⟨_, rfl⟩
      have hz256 : z < 256 := by rw [hz]; exact Nat.xor_lt_two_pow (n := 8) c1 hg256
      have HD1 : Hid (BytesBlk (wr.setCell ⟨B, off + k, none⟩ (.int .u8 (z : Int))) B (intoL s c off (k + 1) ns)) := by
        rw [Hid, intoL_succ, ha2, hx, hg, ← hz]; exact HD.out.next hz256
      rw [← hz] at hxg
      have HG := Lib.hid hg
      have i0 : (0 : Int) ≤ (k : Int) := by omega
      have i1 : (k : Int) < (n : Int) := by omega
      have i2 : (k : Int) < (s.size : Int) := by omega
      have HKK : Hid (Kept (fun k => k = B) w (wr.setCell ⟨B, off + k, none⟩ (.int .u8 (z : Int)))) := Lib.hid (HK.out.setCell (d := ⟨B, off + k, none⟩) (fun _ => rfl) _)
      clear hx hz hg ha2
      go_upto_region 5 with (fail)
      clear HK HD
      go_region_with (first | (go_at_call 78; refine (fieldMul_nat _ _ _ _ (by omega) (by omega) HG.out).mono ?_; rintro e w' ⟨rfl, rfl⟩))
      all_goals
        clear c2 c3
        go_wp2_with fail
        go_roundw
        case rel => first | exact ⟨k + 1, by go_num, by omega, HD1, HKK⟩ | exact ⟨k + 1, by go_num, by omega, HD1, Lib.hid (Kept.drew HKK.out)⟩ | exact ⟨k + 1, by go_num, by omega, HD1, Lib.hid (Kept.drew (Kept.drew HKK.out))⟩
        case measure => simp [intOf]; omega
    · have hke : k = n := by omega
      have H1 := HD.out
      rw [hke] at H1
      have HD1 := Lib.hid H1
      clear hke H1
      go_wp2_with fail
      all_goals
        (try simp only [Exit.inBlock, Exit.then])
        first | refine bodyPost_ret (results_none rfl _ _ _) rfl ?_ | refine bodyPost_end (results_none rfl _ _ _) rfl ?_
        exact ⟨rfl, HD1.out, HK.out⟩
end Go.Proofs.Ytijcmdcjjcemfaa
