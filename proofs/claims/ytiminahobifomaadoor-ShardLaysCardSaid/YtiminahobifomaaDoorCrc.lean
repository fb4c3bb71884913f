/- The plain sums: one more bit of 0, a byte, a text; that they are linear, that unlike texts of up to eight bytes have unlike sums, sums of two texts, powers of a row of bits. No program is in sight. -/
import Derived.Laws.BitsLemmas
namespace Go.Proofs.YtiminahobifomaaDoor
namespace Crc

def poly : Nat := 14514072000185962306
def top : Nat := 18446744073709551615
theorem poly_lt : poly < 2 ^ 64 := by decide
theorem top_lt : top < 2 ^ 64 := by decide

/-- A sum behind one more bit of 0. -/
def tn (x : Nat) : Nat := if x % 2 = 1 then (x / 2) ^^^ poly else x / 2

theorem xor_lt {x y : Nat} (hx : x < 2 ^ 64) (hy : y < 2 ^ 64) : x ^^^ y < 2 ^ 64 := Nat.xor_lt_two_pow hx hy
theorem tn_lt {x : Nat} (h : x < 2 ^ 64) : tn x < 2 ^ 64 := by
  unfold tn; split
  · exact xor_lt (by omega) poly_lt
  · omega

theorem half_xor (x y : Nat) : (x ^^^ y) / 2 = (x / 2) ^^^ (y / 2) := by
  have := Nat.shiftRight_xor_distrib (a := x) (b := y) (i := 1)
  simpa [Nat.shiftRight_eq_div_pow] using this
theorem odd_xor (x y : Nat) : (x ^^^ y) % 2 = (x % 2 + y % 2) % 2 := by
  have h := Nat.xor_mod_two_eq_one (a := x) (b := y)
  omega
theorem xor_zero_eq {x y : Nat} (h : x ^^^ y = 0) : x = y := by
  have e : x ^^^ y ^^^ y = y := by rw [h, Nat.zero_xor]
  rwa [Nat.xor_assoc, Nat.xor_self, Nat.xor_zero] at e
theorem xor_cancel {a x y : Nat} (h : a ^^^ x = a ^^^ y) : x = y := by
  have e : a ^^^ (a ^^^ x) = a ^^^ (a ^^^ y) := by rw [h]
  rwa [← Nat.xor_assoc, ← Nat.xor_assoc, Nat.xor_self, Nat.zero_xor, Nat.zero_xor] at e

theorem tn_xor (x y : Nat) : tn (x ^^^ y) = tn x ^^^ tn y := by
  have ho := odd_xor x y
  have hc : ∀ a b : Nat, a ^^^ poly ^^^ (b ^^^ poly) = a ^^^ b := fun a b => by
    rw [show a ^^^ poly ^^^ (b ^^^ poly) = a ^^^ b ^^^ (poly ^^^ poly) by ac_rfl]; simp
  unfold tn
  rw [half_xor]
  rcases Nat.mod_two_eq_zero_or_one x with hx | hx <;> rcases Nat.mod_two_eq_zero_or_one y with hy | hy
  · rw [if_neg (by omega), if_neg (by omega), if_neg (by omega)]
  · rw [if_pos (by omega), if_neg (by omega), if_pos hy]; ac_rfl
  · rw [if_pos (by omega), if_pos hx, if_neg (by omega)]; ac_rfl
  · rw [if_neg (by omega), if_pos hx, if_pos hy, hc]
theorem tn_zero : tn 0 = 0 := by decide

theorem testBit_63 {x : Nat} (h : x < 2 ^ 63) : x.testBit 63 = false := Nat.testBit_lt_two_pow h
theorem tn_ne {x : Nat} (h : x < 2 ^ 64) (h0 : x ≠ 0) : tn x ≠ 0 := by
  unfold tn
  split
  · intro e
    have h1 := congrArg (fun n => Nat.testBit n 63) e
    simp only [Nat.testBit_xor, testBit_63 (show x / 2 < 2 ^ 63 by omega)] at h1
    revert h1; decide
  · omega
theorem tn_inj {x y : Nat} (hx : x < 2 ^ 64) (hy : y < 2 ^ 64) (h : tn x = tn y) : x = y := by
  have h1 : tn (x ^^^ y) = 0 := by rw [tn_xor, h]; simp
  by_cases e : x ^^^ y = 0
  · exact xor_zero_eq e
  · exact absurd h1 (tn_ne (xor_lt hx hy) e)

/-- So many bits of 0. -/
def tns : Nat → Nat → Nat
  | 0, x => x
  | n + 1, x => tns n (tn x)
theorem tns_lt (n : Nat) : ∀ {x : Nat}, x < 2 ^ 64 → tns n x < 2 ^ 64 := by
  induction n with
  | zero => intro x h; exact h
  | succ n ih => intro x h; exact ih (tn_lt h)
theorem tns_xor (n : Nat) : ∀ x y, tns n (x ^^^ y) = tns n x ^^^ tns n y := by
  induction n with
  | zero => intro x y; rfl
  | succ n ih => intro x y; simp only [tns]; rw [tn_xor, ih]
theorem tns_inj (n : Nat) : ∀ {x y : Nat}, x < 2 ^ 64 → y < 2 ^ 64 → tns n x = tns n y → x = y := by
  induction n with
  | zero => intro x y _ _ h; exact h
  | succ n ih => intro x y hx hy h; exact tn_inj hx hy (ih (tn_lt hx) (tn_lt hy) h)
theorem tns_add (m : Nat) : ∀ n x, tns (m + n) x = tns n (tns m x) := by
  induction m with
  | zero => intro n x; simp [tns]
  | succ m ih => intro n x; rw [Nat.succ_add]; exact ih n (tn x)
theorem tns_succ (n x : Nat) : tns (n + 1) x = tn (tns n x) := tns_add n 1 x
theorem tns_zero (n : Nat) : tns n 0 = 0 := by
  induction n with
  | zero => rfl
  | succ n ih => simp only [tns]; rw [tn_zero, ih]
/-- Bits 0 at the low end go out without a trace. -/
theorem tns_shift (n : Nat) : ∀ y, tns n (y * 2 ^ n) = y := by
  induction n with
  | zero => intro y; simp [tns]
  | succ n ih =>
    intro y
    have : tn (y * 2 ^ (n + 1)) = y * 2 ^ n := by
      have e : y * 2 ^ (n + 1) = 2 * (y * 2 ^ n) := by rw [Nat.pow_succ]; ac_rfl
      unfold tn
      rw [e, if_neg (by omega), Nat.mul_div_cancel_left _ (by decide)]
    simp only [tns]; rw [this, ih]

/-- A byte more. -/
def eat (x b : Nat) : Nat := tns 8 (x ^^^ b)
def eats (x : Nat) (l : List Nat) : Nat := l.foldl eat x
def neg (x : Nat) : Nat := top ^^^ x
/-- The sum of a text, of that of what is ahead of it. -/
def more (c : Nat) (l : List Nat) : Nat := neg (eats (neg c) l)

theorem neg_lt {x : Nat} (h : x < 2 ^ 64) : neg x < 2 ^ 64 := xor_lt top_lt h
theorem xor_twice (t x : Nat) : t ^^^ (t ^^^ x) = x := by rw [← Nat.xor_assoc, Nat.xor_self, Nat.zero_xor]
theorem neg_eq (x : Nat) : neg x = top ^^^ x := rfl
theorem neg_neg (x : Nat) : neg (neg x) = x := by rw [neg_eq, neg_eq, xor_twice]
theorem neg_inj {x y : Nat} (h : neg x = neg y) : x = y := by
  have := congrArg neg h
  rwa [neg_neg, neg_neg] at this
theorem eat_lt {x b : Nat} (hx : x < 2 ^ 64) (hb : b < 256) : eat x b < 2 ^ 64 := tns_lt 8 (xor_lt hx (Nat.lt_trans hb (by decide)))
theorem eats_lt : ∀ {l : List Nat} {x : Nat}, x < 2 ^ 64 → (∀ b ∈ l, b < 256) → eats x l < 2 ^ 64
  | [], _, hx, _ => hx
  | b :: l, _, hx, hl => eats_lt (l := l) (eat_lt hx (hl b (by simp))) (fun c hc => hl c (by simp [hc]))
theorem more_lt {l : List Nat} {c : Nat} (hc : c < 2 ^ 64) (hl : ∀ b ∈ l, b < 256) : more c l < 2 ^ 64 := neg_lt (eats_lt (neg_lt hc) hl)

theorem eats_append (x : Nat) (l m : List Nat) : eats x (l ++ m) = eats (eats x l) m := List.foldl_append ..
theorem more_append (c : Nat) (l m : List Nat) : more (more c l) m = more c (l ++ m) := by
  unfold more; rw [neg_neg, eats_append]

theorem eats_inj : ∀ {l : List Nat} {x y : Nat}, x < 2 ^ 64 → y < 2 ^ 64 → (∀ b ∈ l, b < 256) → eats x l = eats y l → x = y
  | [], _, _, _, _, _, h => h
  | b :: l, x, y, hx, hy, hl, h => by
    have hb : b < 256 := hl b (by simp)
    have h1 := eats_inj (l := l) (eat_lt hx hb) (eat_lt hy hb) (fun c hc => hl c (by simp [hc])) h
    have h2 := tns_inj 8 (xor_lt hx (Nat.lt_trans hb (by decide))) (xor_lt hy (Nat.lt_trans hb (by decide))) h1
    exact xor_cancel (a := b) (by rw [Nat.xor_comm b, Nat.xor_comm b]; exact h2)

/-- The sum of a text behind a difference: the difference goes through so many bytes 0. -/
theorem eats_xor : ∀ (l : List Nat) (x y : Nat), eats (x ^^^ y) l = eats x l ^^^ tns (8 * l.length) y
  | [], _, _ => rfl
  | b :: l, x, y => by
    simp only [eats, List.foldl_cons, List.length_cons]
    rw [show eat (x ^^^ y) b = eat x b ^^^ tns 8 y by
      unfold eat; rw [show x ^^^ y ^^^ b = x ^^^ b ^^^ y by ac_rfl, tns_xor]]
    have := eats_xor l (eat x b) (tns 8 y)
    unfold eats at this
    rw [this, ← tns_add, show 8 + 8 * l.length = 8 * (l.length + 1) by omega]

theorem two_core (t a b : Nat) : t ^^^ (a ^^^ b) = b ^^^ (t ^^^ a) := by ac_rfl
/-- The sum of two texts, of both sums. -/
theorem more_two (l m : List Nat) : more 0 (l ++ m) = tns (8 * m.length) (more 0 l) ^^^ more 0 m := by
  have e : eats (neg 0) l = neg 0 ^^^ more 0 l := by
    have h : neg 0 = top := Nat.xor_zero _
    unfold more
    rw [h, neg_eq, xor_twice]
  have e2 : more 0 (l ++ m) = top ^^^ (eats (neg 0) m ^^^ tns (8 * m.length) (more 0 l)) := by
    conv => lhs; unfold more
    rw [eats_append, e, eats_xor]; rfl
  rw [e2, two_core]; rfl

/-- Eight bytes as one number. -/
def word : List Nat → Nat
  | [] => 0
  | b :: l => b + 256 * word l
theorem word_lt : ∀ {l : List Nat}, (∀ b ∈ l, b < 256) → word l < 256 ^ l.length
  | [], _ => by simp [word]
  | b :: l, hl => by
    have h1 := word_lt (l := l) (fun c hc => hl c (by simp [hc]))
    have hb : b < 256 := hl b (by simp)
    simp only [word, List.length_cons, Nat.pow_succ]
    omega
theorem xor_add {b n : Nat} (hb : b < 256) : b ^^^ (n * 2 ^ 8) = b + 256 * n := by
  rw [Nat.mul_comm, show b + 256 * n = 2 ^ 8 * n + b by omega]
  apply Nat.eq_of_testBit_eq
  intro j
  rw [Nat.testBit_xor, Nat.testBit_two_pow_mul, Nat.testBit_two_pow_mul_add n (i := 8) hb]
  by_cases h : j < 8
  · simp [h, show ¬ 8 ≤ j by omega]
  · have : b.testBit j = false := Nat.testBit_lt_two_pow (Nat.lt_of_lt_of_le hb (Nat.pow_le_pow_right (n := 2) (i := 8) (by decide) (by omega)))
    simp [h, show 8 ≤ j by omega, this]

theorem xor_add_pow {i b n : Nat} (hb : b < 2 ^ i) : b ^^^ (2 ^ i * n) = b + 2 ^ i * n := by
  rw [Nat.add_comm b]
  apply Nat.eq_of_testBit_eq
  intro j
  rw [Nat.testBit_xor, Nat.testBit_two_pow_mul, Nat.testBit_two_pow_mul_add n (i := i) hb]
  by_cases h : j < i
  · simp [h, show ¬ i ≤ j by omega]
  · have : b.testBit j = false := Nat.testBit_lt_two_pow (Nat.lt_of_lt_of_le hb (Nat.pow_le_pow_right (by decide) (by omega)))
    simp [h, show i ≤ j by omega, this]

/-- What keeps sums. -/
def Lin (f : Nat → Nat) : Prop := ∀ x y, f (x ^^^ y) = f x ^^^ f y
theorem Lin.zero {f : Nat → Nat} (h : Lin f) : f 0 = 0 := by
  have := h 0 0
  rwa [Nat.xor_self, Nat.xor_self] at this
theorem tns_lin (n : Nat) : Lin (tns n) := tns_xor n
theorem Lin.part {f : Nat → Nat} (h : Lin f) (x i : Nat) : f (x % 2 ^ (i + 1)) = if x / 2 ^ i % 2 = 1 then f (x % 2 ^ i) ^^^ f (2 ^ i) else f (x % 2 ^ i) := by
  have e : x % 2 ^ (i + 1) = x % 2 ^ i + 2 ^ i * (x / 2 ^ i % 2) := by
    rw [Nat.pow_succ, Nat.mod_mul]
  have hlt : x % 2 ^ i < 2 ^ i := Nat.mod_lt _ (Nat.two_pow_pos i)
  rw [e, ← xor_add_pow hlt, h]
  split
  · rename_i h1; rw [h1, Nat.mul_one]
  · rename_i h1
    rw [show x / 2 ^ i % 2 = 0 by omega, Nat.mul_zero, h.zero, Nat.xor_zero]

theorem eats_word : ∀ {l m : List Nat} {x y : Nat}, x < 2 ^ 64 → y < 2 ^ 64 → (∀ b ∈ l, b < 256) → (∀ b ∈ m, b < 256) → l.length = m.length → l.length ≤ 8 →
    eats x l = eats y m → x ^^^ word l = y ^^^ word m
  | [], [], _, _, _, _, _, _, _, _, h => by simpa [word, eats] using h
  | [], _ :: _, _, _, _, _, _, _, h, _, _ => by simp at h
  | _ :: _, [], _, _, _, _, _, _, h, _, _ => by simp at h
  | b :: l, c :: m, x, y, hx, hy, hl, hm, hlen, h8, h => by
    have hb : b < 256 := hl b (by simp)
    have hc : c < 256 := hm c (by simp)
    have hl' : ∀ b ∈ l, b < 256 := fun c hc => hl c (by simp [hc])
    have hm' : ∀ b ∈ m, b < 256 := fun c hc => hm c (by simp [hc])
    simp only [List.length_cons] at hlen h8
    have ih := eats_word (l := l) (m := m) (eat_lt hx hb) (eat_lt hy hc) hl' hm' (by omega) (by omega) h
    have hwl := word_lt hl'
    have hwm := word_lt hm'
    have hp : 256 ^ l.length ≤ 256 ^ 7 := Nat.pow_le_pow_right (by decide) (by omega)
    have hp2 : 256 ^ m.length ≤ 256 ^ 7 := Nat.pow_le_pow_right (by decide) (by omega)
    have e1 : eat x b ^^^ word l = tns 8 (x ^^^ b ^^^ (word l * 2 ^ 8)) := by
      unfold eat; rw [tns_xor, tns_xor 8 (x ^^^ b), tns_shift, tns_xor]
    have e2 : eat y c ^^^ word m = tns 8 (y ^^^ c ^^^ (word m * 2 ^ 8)) := by
      unfold eat; rw [tns_xor, tns_xor 8 (y ^^^ c), tns_shift, tns_xor]
    rw [e1, e2] at ih
    have k : (256 : Nat) ^ 7 * 2 ^ 8 = 2 ^ 64 := by decide
    have h3 := tns_inj 8 (xor_lt (xor_lt hx (Nat.lt_trans hb (by decide))) (by omega)) (xor_lt (xor_lt hy (Nat.lt_trans hc (by decide))) (by omega)) ih
    rw [Nat.xor_assoc, Nat.xor_assoc, xor_add hb, xor_add hc] at h3
    exact h3

theorem word_inj : ∀ {l m : List Nat}, (∀ b ∈ l, b < 256) → (∀ b ∈ m, b < 256) → l.length = m.length → word l = word m → l = m
  | [], [], _, _, _, _ => rfl
  | [], _ :: _, _, _, h, _ => by simp at h
  | _ :: _, [], _, _, h, _ => by simp at h
  | b :: l, c :: m, hl, hm, hlen, h => by
    have hb : b < 256 := hl b (by simp)
    have hc : c < 256 := hm c (by simp)
    simp only [word] at h
    simp only [List.length_cons] at hlen
    rw [word_inj (l := l) (m := m) (fun c hc => hl c (by simp [hc])) (fun c hc => hm c (by simp [hc])) (by omega) (by omega), show b = c by omega]

/-- Texts that part in at most eight bytes in a row have unlike sums. -/
theorem more_ne {a l m z : List Nat} {c : Nat} (hc : c < 2 ^ 64) (ha : ∀ b ∈ a, b < 256) (hl : ∀ b ∈ l, b < 256) (hm : ∀ b ∈ m, b < 256) (hz : ∀ b ∈ z, b < 256)
    (hlen : l.length = m.length) (h8 : l.length ≤ 8) (h : more c (a ++ l ++ z) = more c (a ++ m ++ z)) : l = m := by
  have h1 := neg_inj h
  have hx := eats_lt (neg_lt hc) ha
  rw [eats_append, eats_append, eats_append, eats_append] at h1
  have h2 := eats_inj (eats_lt hx hl) (eats_lt hx hm) hz h1
  have h3 := eats_word hx hx hl hm hlen h8 h2
  exact word_inj hl hm hlen (xor_cancel h3)

end Crc
end Go.Proofs.YtiminahobifomaaDoor
