/- Lanes scaled and added: what the page says, plainly; the page's way, walked. -/
import Derived.Test.YtiminahobifomaaDoorLaneC
namespace Go.Proofs.YtiminahobifomaaDoor
open Go.ChangeShapes Go.WideShapes Go.ChangeAt Go.RowKit Go.Joins
set_option linter.unusedVariables false
set_option linter.unusedSimpArgs false

/-- A row of which k were done. -/
def partL (n : Nat) (f g : Nat → Nat) (k : Nat) : List Nat := (List.range n).map fun j => if j < k then f j else g j
theorem partL_length (n : Nat) (f g : Nat → Nat) (k : Nat) : (partL n f g k).length = n := by simp [partL]
theorem partL_zero (n : Nat) (f g : Nat → Nat) : partL n f g 0 = (List.range n).map g := by
  unfold partL
  apply List.map_congr_left
  intro j hj
  rw [if_neg (by omega)]
theorem partL_all (n : Nat) (f g : Nat → Nat) : partL n f g n = (List.range n).map f := by
  unfold partL
  apply List.map_congr_left
  intro j hj
  rw [if_pos (List.mem_range.1 hj)]
theorem partL_succ (n : Nat) (f g : Nat → Nat) (k : Nat) : partL n f g (k + 1) = (partL n f g k).set k (f k) := by
  apply List.ext_getElem
  · simp [partL]
  · intro j h1 h2
    by_cases e : k = j
    · subst e
      rw [List.getElem_set_self]
      simp only [partL, List.getElem_map, List.getElem_range]
      rw [if_pos (by omega)]
    · rw [List.getElem_set_ne e]
      simp only [partL, List.getElem_map, List.getElem_range, show j < k + 1 ↔ j < k by omega]
theorem partL_get (n : Nat) (f g : Nat → Nat) {k : Nat} (h : k < n) : (partL n f g k).getD k 0 = g k := by simp [partL, List.getD, h]
theorem bytesOf_range (s : ByteArray) : bytesOf s = (List.range s.size).map (byN s) := by
  apply List.ext_getElem
  · simp [bytesOf_length]
  · intro j h1 h2
    rw [List.getElem_map, List.getElem_range, ← bytesOf_get, ← List.getElem_eq_getD (h := h1)]

def scaledS (a : ByteArray) (c : Nat) : ByteArray := strOf8 ((List.range a.size).map fun i => Gf.mul (byN a i) c)
def addedS (a b : ByteArray) : ByteArray := strOf8 ((List.range a.size).map fun i => byN a i ^^^ byN b i)
def mixS (a b : ByteArray) (c : Nat) : ByteArray := strOf8 ((List.range a.size).map fun i => byN a i ^^^ Gf.mul (byN b i) c)
theorem scaledS_size (a : ByteArray) (c : Nat) : (scaledS a c).size = a.size := by rw [scaledS, strOf8_size]; simp
theorem addedS_size (a b : ByteArray) : (addedS a b).size = a.size := by rw [addedS, strOf8_size]; simp
theorem mixS_size (a b : ByteArray) (c : Nat) : (mixS a b c).size = a.size := by rw [mixS, strOf8_size]; simp
theorem byN_strOf8 {n : Nat} {f : Nat → Nat} {i : Nat} (hi : i < n) (hf : f i < 256) : byN (strOf8 ((List.range n).map f)) i = f i := by
  simp [byN, strOf8, List.getD, hi]
  omega
theorem mixS_scaled (a b : ByteArray) (c : Nat) (h : a.size ≤ b.size) : addedS a (scaledS b c) = mixS a b c := by
  unfold addedS mixS
  congr 1
  apply List.map_congr_left
  intro i hi
  have := List.mem_range.1 hi
  rw [scaledS, byN_strOf8 (f := fun i => Gf.mul (byN b i) c) (by omega) (Gf.mul_lt c (byN_lt b i))]
theorem intoL_mix (a b : ByteArray) (c : Nat) : strOf8 (intoL b c 0 a.size (bytesOf a)) = mixS a b c := by
  unfold mixS
  congr 1
  apply List.ext_getElem
  · simp [intoL_length, bytesOf_length]
  · intro j h1 h2
    have hj : j < a.size := by simpa using h2
    have := intoL_get b c 0 a.size (bytesOf a) j hj (by rw [bytesOf_length]; omega)
    rw [Nat.zero_add] at this
    rw [List.getElem_map, List.getElem_range, List.getElem_eq_getD (fallback := 0), this, bytesOf_get]

end Go.Proofs.YtiminahobifomaaDoor
