/- What a matrix makes of lanes, plainly. -/
import Derived.Test.YtibinkppbdeofaaMatP
namespace Go.Proofs.Ytibinkppbdeofaa
open Go.ChangeShapes Go.WideShapes Go.ChangeAt Go.RowKit Go.Joins
set_option linter.unusedVariables false
set_option linter.unusedSimpArgs false

theorem str_extM {a b : ByteArray} (hs : a.size = b.size) (h : ∀ i, i < a.size → byN a i = byN b i) : a = b := by
  apply ByteArray.ext
  apply Array.ext
  · exact hs
  · intro i h1 h2
    have := h i h1
    rw [byN_eq h1, byN_eq h2] at this
    exact UInt8.toNat_inj.1 this
theorem strOf8_bytesM (s : ByteArray) : strOf8 (bytesOf s) = s := by
  apply str_extM
  · rw [strOf8_size, bytesOf_length]
  · intro i hi
    rw [byN_str (bytesOf_lt s), bytesOf_get]
theorem byN_mixM (a b : ByteArray) (c : Nat) {i : Nat} (h : i < a.size) : byN (mixS a b c) i = byN a i ^^^ Gf.mul (byN b i) c := by
  rw [mixS, byN_strOf8 (f := fun i => byN a i ^^^ Gf.mul (byN b i) c) h (Nat.xor_lt_two_pow (n := 8) (byN_lt a i) (Gf.mul_lt c (byN_lt b i)))]
/-- Bytes 0. -/
def zeroN (n : Nat) : ByteArray := strOf8 (List.replicate n 0)
theorem zeroN_size (n : Nat) : (zeroN n).size = n := by rw [zeroN, strOf8_size, List.length_replicate]
theorem bytes_zeroN (n : Nat) : bytesOf (zeroN n) = List.replicate n 0 := bytesOf_strOf8 fun x hx => by rw [List.eq_of_mem_replicate hx]; decide
theorem byN_zeroN (n i : Nat) : byN (zeroN n) i = 0 := by
  rw [zeroN, byN_str fun x hx => by rw [List.eq_of_mem_replicate hx]; decide]
  by_cases h : i < n
  · simp [List.getD, h]
  · simp [List.getD, h]
/-- A lane added to bytes, as a text. -/
theorem intoL_bytes (a s : ByteArray) (c : Nat) : intoL s c 0 a.size (bytesOf a) = bytesOf (mixS a s c) := by
  rw [← intoL_mix, bytesOf_strOf8]
  intro x hx
  obtain ⟨j, hj, rfl⟩ := List.getElem_of_mem hx
  rw [intoL_length, bytesOf_length] at hj
  have := intoL_get s c 0 a.size (bytesOf a) j hj (by rw [bytesOf_length]; omega)
  rw [Nat.zero_add] at this
  rw [List.getElem_eq_getD (fallback := 0), this, bytesOf_get]
  exact Nat.xor_lt_two_pow (n := 8) (byN_lt a j) (Gf.mul_lt c (byN_lt s j))

/-- One row of a matrix applied to lanes of n bytes, of which k were added. -/
def rowLane (ms : List Nat) (l : List ByteArray) (ca n i k : Nat) : ByteArray := (List.range k).foldl (fun s k => mixS s (l.getD k ByteArray.empty) (ms.getD (i * ca + k) 0)) (zeroN n)
theorem rowLane_zero (ms : List Nat) (l : List ByteArray) (ca n i : Nat) : rowLane ms l ca n i 0 = zeroN n := rfl
theorem rowLane_succ (ms : List Nat) (l : List ByteArray) (ca n i k : Nat) : rowLane ms l ca n i (k + 1) = mixS (rowLane ms l ca n i k) (l.getD k ByteArray.empty) (ms.getD (i * ca + k) 0) := by
  rw [rowLane, List.range_succ, List.foldl_append]; rfl
theorem rowLane_size (ms : List Nat) (l : List ByteArray) (ca n i k : Nat) : (rowLane ms l ca n i k).size = n := by
  induction k with
  | zero => rw [rowLane_zero, zeroN_size]
  | succ k ih => rw [rowLane_succ, mixS_size, ih]
/-- All rows. -/
def applyL (ms : List Nat) (l : List ByteArray) (ra ca n : Nat) : List ByteArray := (List.range ra).map fun i => rowLane ms l ca n i ca
theorem applyL_length (ms : List Nat) (l : List ByteArray) (ra ca n : Nat) : (applyL ms l ra ca n).length = ra := by simp [applyL]
/-- One byte of what a row makes. -/
theorem rowLane_byte (ms : List Nat) (l : List ByteArray) (ca n i : Nat) {p : Nat} (hp : p < n) : ∀ k, byN (rowLane ms l ca n i k) p = (List.range k).foldl (fun x k => x ^^^ Gf.mul (byN (l.getD k ByteArray.empty) p) (ms.getD (i * ca + k) 0)) 0
  | 0 => by rw [rowLane_zero, byN_zeroN]; rfl
  | k + 1 => by
    rw [rowLane_succ, byN_mixM _ _ _ (by rw [rowLane_size]; exact hp), rowLane_byte ms l ca n i hp k, List.range_succ, List.foldl_append]
    rfl
end Go.Proofs.Ytibinkppbdeofaa
