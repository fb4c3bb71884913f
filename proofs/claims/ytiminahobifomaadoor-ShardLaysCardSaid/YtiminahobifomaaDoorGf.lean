/- The plain arithmetic of the field of 256 numbers: the product bit by bit, that it is a field. No program is in sight. -/
import Derived.Laws.BitsLemmas
namespace Go.Proofs.YtiminahobifomaaDoor
namespace Gf
def dbl (x : Nat) : Nat := if x < 128 then 2*x else (2*x) ^^^ 285

def mulGo : Nat → Nat → Nat → Nat → Nat
  | 0, _, n, _ => n
  | f+1, b, n, x => mulGo f (b/2) (if b % 2 = 1 then n ^^^ x else n) (dbl x)

def mul (a b : Nat) : Nat := mulGo 8 b 0 a

theorem xor_lt {x y : Nat} (hx : x < 256) (hy : y < 256) : x ^^^ y < 256 := Nat.xor_lt_two_pow (n := 8) hx hy

theorem dbl_lt : ∀ x, x < 256 → dbl x < 256 := by decide +kernel

/-- the two ways of writing the doubling agree with the xor. -/
theorem dbl_eq (x : Nat) (h : x < 256) : dbl x = (2 * x) ^^^ (if x.testBit 7 then 285 else 0) := by
  have : ∀ x, x < 256 → dbl x = (2 * x) ^^^ (if x.testBit 7 then 285 else 0) := by decide +kernel
  exact this x h

theorem two_xor (x y : Nat) : 2 * (x ^^^ y) = (2 * x) ^^^ (2 * y) := by
  have := Nat.shiftLeft_xor_distrib (a := x) (b := y) (i := 1)
  simpa [Nat.shiftLeft_eq, Nat.mul_comm] using this

theorem dbl_xor {x y : Nat} (hx : x < 256) (hy : y < 256) : dbl (x ^^^ y) = dbl x ^^^ dbl y := by
  rw [dbl_eq _ (xor_lt hx hy), dbl_eq _ hx, dbl_eq _ hy, two_xor, Nat.testBit_xor]
  cases x.testBit 7 <;> cases y.testBit 7 <;> simp
  · simp [Nat.xor_assoc]
  · ac_rfl
  · rw [show (2 * x ^^^ 285 ^^^ (2 * y ^^^ 285)) = (2 * x ^^^ 2 * y) ^^^ (285 ^^^ 285) by ac_rfl]; simp

theorem mulGo_lt (f : Nat) : ∀ b n x, n < 256 → x < 256 → mulGo f b n x < 256 := by
  induction f with
  | zero => intro b n x hn _; exact hn
  | succ f ih =>
    intro b n x hn hx
    unfold mulGo
    refine ih _ _ _ ?_ (dbl_lt x hx)
    split
    · exact xor_lt hn hx
    · exact hn

theorem mul_lt {a : Nat} (b : Nat) (ha : a < 256) : mul a b < 256 := mulGo_lt 8 b 0 a (by decide) ha

theorem mulGo_zero (f : Nat) : ∀ n x, mulGo f 0 n x = n := by
  induction f with
  | zero => intro n x; rfl
  | succ f ih => intro n x; simp [mulGo, ih]

theorem mulGo_xor (f : Nat) : ∀ b n x n' x', n < 256 → x < 256 → n' < 256 → x' < 256 →
    mulGo f b (n ^^^ n') (x ^^^ x') = mulGo f b n x ^^^ mulGo f b n' x' := by
  induction f with
  | zero => intros; rfl
  | succ f ih =>
    intro b n x n' x' hn hx hn' hx'
    simp only [mulGo]
    rw [dbl_xor hx hx']
    split
    · rw [show (n ^^^ n' ^^^ (x ^^^ x')) = (n ^^^ x) ^^^ (n' ^^^ x') by ac_rfl]
      exact ih _ _ _ _ _ (xor_lt hn hx) (dbl_lt _ hx) (xor_lt hn' hx') (dbl_lt _ hx')
    · exact ih _ _ _ _ _ hn (dbl_lt _ hx) hn' (dbl_lt _ hx')

theorem mul_xor_left {a a' : Nat} (b : Nat) (ha : a < 256) (ha' : a' < 256) : mul (a ^^^ a') b = mul a b ^^^ mul a' b := by
  have := mulGo_xor 8 b 0 a 0 a' (by decide) ha (by decide) ha'
  simpa [mul] using this

theorem mulGo_dbl (f : Nat) : ∀ b n x, n < 256 → x < 256 → mulGo f b (dbl n) (dbl x) = dbl (mulGo f b n x) := by
  induction f with
  | zero => intros; rfl
  | succ f ih =>
    intro b n x hn hx
    simp only [mulGo]
    split
    · rw [← dbl_xor hn hx]; exact ih _ _ _ (xor_lt hn hx) (dbl_lt _ hx)
    · exact ih _ _ _ hn (dbl_lt _ hx)

theorem mul_dbl {a : Nat} (b : Nat) (ha : a < 256) : mul (dbl a) b = dbl (mul a b) :=
  mulGo_dbl 8 b 0 a (by decide) ha

theorem one_mul : ∀ b, b < 256 → mul 1 b = b := by decide +kernel
theorem zero_mul : ∀ b, b < 256 → mul 0 b = 0 := by decide +kernel
theorem mul_zero (a : Nat) : mul a 0 = 0 := mulGo_zero 8 0 a
theorem mul_one : ∀ b, b < 256 → mul b 1 = b := by decide +kernel

/-- 2 multiplied so many times. -/
def up : Nat → Nat → Nat
  | 0, x => x
  | i + 1, x => up i (dbl x)

theorem up_lt (i : Nat) : ∀ x, x < 256 → up i x < 256 := by
  induction i with
  | zero => intro x h; exact h
  | succ i ih => intro x h; exact ih _ (dbl_lt x h)

theorem up_add (i : Nat) : ∀ j x, up (i + j) x = up j (up i x) := by
  induction i with
  | zero => intro j x; simp [up]
  | succ i ih => intro j x; rw [Nat.succ_add]; exact ih j (dbl x)

theorem up_dbl (i : Nat) : ∀ x, up i (dbl x) = dbl (up i x) := by
  induction i with
  | zero => intro x; rfl
  | succ i ih => intro x; exact ih (dbl x)

theorem mul_up (i : Nat) : ∀ a b, a < 256 → mul (up i a) b = up i (mul a b) := by
  induction i with
  | zero => intros; rfl
  | succ i ih => intro a b ha; simp only [up]; rw [ih _ _ (dbl_lt a ha), mul_dbl b ha]

theorem mul_exp (i b : Nat) (hb : b < 256) : mul (up i 1) b = up i b := by
  rw [mul_up i 1 b (by decide), one_mul b hb]

/-- the list 1, 2, 4 .. -/
def run : Nat → Nat → List Nat
  | 0, _ => []
  | i + 1, x => x :: run i (dbl x)

theorem run_get (n : Nat) : ∀ x i, i < n → (run n x)[i]? = some (up i x) := by
  induction n with
  | zero => intro x i h; omega
  | succ n ih =>
    intro x i h
    cases i with
    | zero => rfl
    | succ i => simp only [run, List.getElem?_cons_succ, up]; exact ih _ _ (by omega)

theorem run_length (n : Nat) : ∀ x, (run n x).length = n := by
  induction n with
  | zero => intro x; rfl
  | succ n ih => intro x; simp [run, ih]

theorem all_in : ∀ x, x < 256 → x ≠ 0 → x ∈ run 255 1 := by decide +kernel

theorem exists_exp {x : Nat} (h : x < 256) (h0 : x ≠ 0) : ∃ i, i < 255 ∧ up i 1 = x := by
  have := all_in x h h0
  obtain ⟨i, hi, hx⟩ := List.getElem_of_mem this
  rw [run_length] at hi
  refine ⟨i, hi, ?_⟩
  have h2 := run_get 255 1 i hi
  rw [List.getElem?_eq_getElem (by rw [run_length]; exact hi)] at h2
  simp at h2; rw [← h2, hx]

theorem mul_comm {a b : Nat} (ha : a < 256) (hb : b < 256) : mul a b = mul b a := by
  by_cases h0 : a = 0
  · subst h0; rw [zero_mul b hb, mul_zero]
  by_cases h1 : b = 0
  · subst h1; rw [zero_mul a ha, mul_zero]
  obtain ⟨i, _, rfl⟩ := exists_exp ha h0
  obtain ⟨j, _, rfl⟩ := exists_exp hb h1
  rw [mul_exp i _ hb, mul_exp j _ ha, ← up_add, ← up_add, Nat.add_comm]

theorem mul_assoc {a b c : Nat} (ha : a < 256) (hb : b < 256) (hc : c < 256) : mul (mul a b) c = mul a (mul b c) := by
  by_cases h0 : a = 0
  · subst h0; rw [zero_mul b hb, zero_mul c hc, zero_mul _ (mul_lt _ hb)]
  obtain ⟨i, _, rfl⟩ := exists_exp ha h0
  rw [mul_exp i _ hb, mul_exp i _ (mul_lt _ hb), mul_up i b c hb]

theorem mul_xor_right {a b b' : Nat} (ha : a < 256) (hb : b < 256) (hb' : b' < 256) : mul a (b ^^^ b') = mul a b ^^^ mul a b' := by
  rw [mul_comm ha (xor_lt hb hb'), mul_xor_left _ hb hb', mul_comm hb ha, mul_comm hb' ha]

theorem run_nodup : (run 255 1).Nodup := by decide +kernel
theorem run_pos : ∀ x ∈ run 255 1, x ≠ 0 := by decide +kernel
theorem up_255 : ∀ x, x < 256 → up 255 x = x := by decide +kernel



/-- A number multiplied n times by itself. -/
def pow (a : Nat) : Nat → Nat
  | 0 => 1
  | n + 1 => mul (pow a n) a

theorem pow_lt (a n : Nat) : pow a n < 256 := by
  induction n with
  | zero => exact Nat.lt_of_sub_eq_succ rfl
  | succ n ih => exact mul_lt _ ih

theorem pow_add {a : Nat} (ha : a < 256) (m n : Nat) : pow a (m + n) = mul (pow a m) (pow a n) := by
  induction n with
  | zero => simp only [pow, Nat.add_zero]; rw [mul_one _ (pow_lt a m)]
  | succ n ih => rw [← Nat.add_assoc]; simp only [pow]; rw [ih, mul_assoc (pow_lt a m) (pow_lt a n) ha]

theorem pow_square {a : Nat} (ha : a < 256) (n : Nat) : pow (mul a a) n = pow a (2 * n) := by
  induction n with
  | zero => rfl
  | succ n ih =>
    rw [show 2 * (n + 1) = 2 * n + 1 + 1 by omega]
    simp only [pow]; rw [ih, mul_assoc (pow_lt _ _) ha ha]

/-- A round of the power by squares. -/
theorem pow_round {a n x : Nat} (ha : a < 256) (hx : x < 256) :
    mul (if n % 2 = 1 then mul x a else x) (pow (mul a a) (n / 2)) = mul x (pow a n) := by
  rw [pow_square ha]
  split
  · rename_i h
    rw [mul_assoc hx ha (pow_lt _ _)]
    have e : n = 1 + 2 * (n / 2) := by omega
    conv => rhs; rw [e, pow_add ha]
    simp only [pow]; rw [one_mul a ha]
  · rw [show 2 * (n / 2) = n by omega]

theorem mul_two : ∀ x, x < 256 → mul x 2 = dbl x := by decide +kernel

theorem pow_two (n : Nat) : pow 2 n = up n 1 := by
  induction n with
  | zero => rfl
  | succ n ih => simp only [pow, up]; rw [ih, mul_two _ (up_lt _ _ (by decide)), up_dbl]

theorem pow_up (i n : Nat) : pow (up i 1) n = up (i * n) 1 := by
  induction n with
  | zero => rfl
  | succ n ih => simp only [pow]; rw [ih, mul_exp _ _ (up_lt _ _ (by decide)), ← up_add, Nat.mul_succ, Nat.add_comm]

theorem up_mul255 (i : Nat) : ∀ x, x < 256 → up (255 * i) x = x := by
  induction i with
  | zero => intro x _; rfl
  | succ i ih => intro x h; rw [Nat.mul_succ, up_add, ih x h, up_255 x h]

theorem pow_255 {a : Nat} (h : a < 256) (h0 : a ≠ 0) : pow a 255 = 1 := by
  obtain ⟨i, _, rfl⟩ := exists_exp h h0
  rw [pow_up, Nat.mul_comm, up_mul255 i 1 (by decide)]

/-- The number that times a is 1 (of 0: 0). -/
def inv (a : Nat) : Nat := pow a 254
theorem inv_lt (a : Nat) : inv a < 256 := pow_lt a 254
theorem mul_inv {a : Nat} (h : a < 256) (h0 : a ≠ 0) : mul (inv a) a = 1 := pow_255 h h0
theorem inv_mul {a : Nat} (h : a < 256) (h0 : a ≠ 0) : mul a (inv a) = 1 := by rw [mul_comm h (inv_lt a)]; exact mul_inv h h0
theorem inv_ne {a : Nat} (h : a < 256) (h0 : a ≠ 0) : inv a ≠ 0 := by
  intro e; have := mul_inv h h0; rw [e, zero_mul a h] at this; exact absurd this (by decide)
theorem mul_cancel {a b c : Nat} (ha : a < 256) (hb : b < 256) (hc : c < 256) (h0 : a ≠ 0) (h : mul a b = mul a c) : b = c := by
  have e : mul (inv a) (mul a b) = mul (inv a) (mul a c) := by rw [h]
  rwa [← mul_assoc (inv_lt a) ha hb, ← mul_assoc (inv_lt a) ha hc, mul_inv ha h0, one_mul b hb, one_mul c hc] at e
theorem inv_inv {a : Nat} (h : a < 256) (h0 : a ≠ 0) : inv (inv a) = a := by
  refine mul_cancel (inv_lt a) (inv_lt _) h (inv_ne h h0) ?_
  rw [inv_mul (inv_lt a) (inv_ne h h0), mul_inv h h0]
theorem mul_ne {a b : Nat} (ha : a < 256) (hb : b < 256) (h0 : a ≠ 0) (h1 : b ≠ 0) : mul a b ≠ 0 := by
  intro e
  have := mul_cancel ha hb (by decide : 0 < 256) h0 (by rw [e, mul_zero])
  exact h1 this

/-- The least number of times that 2 is multiplied to be a. -/
def log (a : Nat) : Nat := (run 255 1).idxOf a

theorem log_lt {a : Nat} (h : a < 256) (h0 : a ≠ 0) : log a < 255 := by
  have := List.idxOf_lt_length_of_mem (all_in a h h0)
  rwa [run_length] at this
theorem up_log {a : Nat} (h : a < 256) (h0 : a ≠ 0) : up (log a) 1 = a := by
  have hl := log_lt h h0
  have h2 := run_get 255 1 (log a) hl
  rw [List.getElem?_eq_getElem (by rw [run_length]; exact hl)] at h2
  simp only [Option.some.injEq] at h2
  rw [← h2]
  exact List.getElem_idxOf (by rw [run_length]; exact hl)
theorem idxOf_le {l : List Nat} {a : Nat} : ∀ {k : Nat}, l[k]? = some a → l.idxOf a ≤ k := by
  induction l with
  | nil => intro k h; simp at h
  | cons x l ih =>
    intro k h
    cases k with
    | zero => simp at h; subst h; simp
    | succ k =>
      rw [List.idxOf_cons]
      have := ih (k := k) (by simpa using h)
      cases x == a
      · simp only [cond_false]; omega
      · simp only [cond_true]; omega
theorem up_ne {a k : Nat} (h : k < log a) (hk : k < 255) : up k 1 ≠ a := by
  intro e
  have h2 := run_get 255 1 k hk
  rw [e] at h2
  have := idxOf_le h2
  unfold log at h; omega
theorem up_inj {i j : Nat} (hi : i < 255) (hj : j < 255) (h : up i 1 = up j 1) : i = j := by
  have h3 : i < (run 255 1).length := by rw [run_length]; exact hi
  have h4 : j < (run 255 1).length := by rw [run_length]; exact hj
  have e1 := run_get 255 1 i hi
  have e2 := run_get 255 1 j hj
  rw [List.getElem?_eq_getElem h3] at e1
  rw [List.getElem?_eq_getElem h4] at e2
  simp only [Option.some.injEq] at e1 e2
  exact (List.getElem_inj (h₀ := h3) (h₁ := h4) run_nodup).1 (by rw [e1, e2, h])
theorem log_up {i : Nat} (hi : i < 255) : log (up i 1) = i := by
  have h0 : up i 1 ≠ 0 := by
    have h3 : i < (run 255 1).length := by rw [run_length]; exact hi
    have e1 := run_get 255 1 i hi
    rw [List.getElem?_eq_getElem h3] at e1
    simp only [Option.some.injEq] at e1
    rw [← e1]; exact run_pos _ (List.getElem_mem h3)
  have hl := up_lt i 1 (by decide)
  exact up_inj (log_lt hl h0) hi (up_log hl h0)
theorem up_ne_zero (i : Nat) : up i 1 ≠ 0 := by
  rw [← pow_two]
  induction i with
  | zero => decide
  | succ i ih => exact mul_ne (pow_lt _ _) (by decide) ih (by decide)
end Gf
end Go.Proofs.YtiminahobifomaaDoor
