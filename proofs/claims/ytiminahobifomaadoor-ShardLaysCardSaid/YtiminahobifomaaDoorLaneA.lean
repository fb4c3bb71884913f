/- What lane.Into does to bytes: another lane, scaled, is added; plainly. -/
import Derived.Test.YtiminahobifomaaDoorKept
import Derived.Test.YtiminahobifomaaDoorStrs
import Derived.Test.YtiminahobifomaaDoorMulTwo
namespace Go.Proofs.YtiminahobifomaaDoor
open Go.ChangeShapes Go.WideShapes Go.ChangeAt Go.RowKit Go.Joins
set_option linter.unusedVariables false
set_option linter.unusedSimpArgs false

/-- A text's byte. -/
def byN (s : ByteArray) (i : Nat) : Nat := (s.data.toList.getD i 0).toNat
theorem byN_eq {s : ByteArray} {i : Nat} (h : i < s.size) : byN s i = (s[i]'h).toNat := by
  rw [byN, List.getD, List.getElem?_eq_getElem (by simpa using h)]; rfl
theorem byN_lt (s : ByteArray) (i : Nat) : byN s i < 256 := UInt8.toNat_lt _
theorem bytesOf_get (s : ByteArray) (i : Nat) : (bytesOf s).getD i 0 = byN s i := by
  by_cases h : i < s.size
  · simp [bytesOf, byN, List.getD, h]
  · simp [bytesOf, byN, List.getD, h]

/-- Bytes from off on, n of them, and a lane scaled. -/
def intoL (s : ByteArray) (c off n : Nat) (l : List Nat) : List Nat := (List.range n).foldl (fun l i => l.set (off + i) (l.getD (off + i) 0 ^^^ Gf.mul (byN s i) c)) l
theorem intoL_zero (s : ByteArray) (c off : Nat) (l : List Nat) : intoL s c off 0 l = l := rfl
theorem intoL_step (s : ByteArray) (c off n : Nat) (l : List Nat) : intoL s c off (n + 1) l = (intoL s c off n l).set (off + n) ((intoL s c off n l).getD (off + n) 0 ^^^ Gf.mul (byN s n) c) := by
  rw [intoL, List.range_succ, List.foldl_append]; rfl
theorem intoL_length (s : ByteArray) (c off n : Nat) (l : List Nat) : (intoL s c off n l).length = l.length := by
  induction n with
  | zero => rfl
  | succ n ih => rw [intoL_step, List.length_set, ih]
theorem getD_set_eq {l : List Nat} {i v : Nat} (h : i < l.length) : (l.set i v).getD i 0 = v := by simp [List.getD, h]
theorem getD_set_ne {l : List Nat} {i j v : Nat} (h : i ≠ j) : (l.set i v).getD j 0 = l.getD j 0 := by simp [List.getD, List.getElem?_set, h]
theorem intoL_far (s : ByteArray) (c off n : Nat) (l : List Nat) (j : Nat) (h : j < off ∨ off + n ≤ j) : (intoL s c off n l).getD j 0 = l.getD j 0 := by
  induction n with
  | zero => rfl
  | succ n ih => rw [intoL_step, getD_set_ne (by omega), ih (by omega)]
theorem intoL_get (s : ByteArray) (c off n : Nat) (l : List Nat) (i : Nat) (hi : i < n) (hl : off + n ≤ l.length) : (intoL s c off n l).getD (off + i) 0 = l.getD (off + i) 0 ^^^ Gf.mul (byN s i) c := by
  induction n with
  | zero => omega
  | succ n ih =>
    by_cases h : i = n
    · rw [intoL_step, h, getD_set_eq (by rw [intoL_length]; omega), intoL_far s c off n l (off + n) (by omega)]
    · rw [intoL_step, getD_set_ne (by omega), ih (by omega) (by omega)]
theorem intoL_succ (s : ByteArray) (c off n : Nat) (l : List Nat) : intoL s c off (n + 1) l = (intoL s c off n l).set (off + n) (l.getD (off + n) 0 ^^^ Gf.mul (byN s n) c) := by
  rw [intoL_step, intoL_far s c off n l (off + n) (by omega)]
theorem set_getD_self (l : List Nat) (i : Nat) : l.set i (l.getD i 0) = l := by
  apply List.ext_getElem
  · simp
  · intro j h1 h2
    rw [List.getElem_set]
    split
    · rename_i e; subst e; simp [List.getD, h2]
    · rfl
theorem intoL_none (s : ByteArray) (off n : Nat) (l : List Nat) : intoL s 0 off n l = l := by
  induction n with
  | zero => rfl
  | succ n ih => rw [intoL_succ, Gf.mul_zero, Nat.xor_zero, ih, set_getD_self]
end Go.Proofs.YtiminahobifomaaDoor
