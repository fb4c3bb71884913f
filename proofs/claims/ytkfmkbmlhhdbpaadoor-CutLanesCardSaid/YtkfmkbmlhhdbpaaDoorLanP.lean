/- Lanes of a text, plainly: laid, and joined again. No program in sight. -/
import Derived.Lib.Join
import Derived.Lib.TrimByte
namespace Go.Proofs.YtkfmkbmlhhdbpaaDoor
set_option linter.unusedVariables false
set_option linter.unusedSimpArgs false

def strL (l : List UInt8) : ByteArray := ⟨l.toArray⟩
theorem strL_data (s : ByteArray) : strL s.data.toList = s := rfl
theorem data_strL (l : List UInt8) : (strL l).data.toList = l := rfl
theorem str_len (s : ByteArray) : s.data.toList.length = s.size := by simp
theorem strL_size (l : List UInt8) : (strL l).size = l.length := by
  have h := str_len (strL l)
  rw [data_strL] at h
  exact h.symm
theorem extract_list (s : ByteArray) (a b : Nat) : (s.extract a b).data.toList = (s.data.toList.drop a).take (b - a) := by
  rw [ByteArray.data_extract, Array.toList_extract]
theorem bytes_ext {a b : ByteArray} (h : a.data.toList = b.data.toList) : a = b := by
  have : strL a.data.toList = strL b.data.toList := by rw [h]
  exact this
theorem bytes_app (a b : ByteArray) : (a ++ b).data.toList = a.data.toList ++ b.data.toList := by simp [ByteArray.data_append]
theorem app_size (a b : ByteArray) : (a ++ b).size = a.size + b.size := ByteArray.size_append

/-- So many bytes 0. -/
def zerosB (n : Nat) : ByteArray := strL (List.replicate n 0)
theorem zerosB_size (n : Nat) : (zerosB n).size = n := by unfold zerosB; rw [strL_size, List.length_replicate]
/-- A text filled up to so many bytes. -/
def padB (w : Nat) (t : ByteArray) : ByteArray := t ++ zerosB (w - t.size)
theorem padB_size {w : Nat} {t : ByteArray} (h : t.size ≤ w) : (padB w t).size = w := by unfold padB; rw [app_size, zerosB_size]; omega
/-- A text's lanes. -/
def lanesB (k z : Nat) (t : ByteArray) : List ByteArray := (List.range k).map fun i => (padB (k * z) t).extract (i * z) ((i + 1) * z)
theorem lanesB_len (k z : Nat) (t : ByteArray) : (lanesB k z t).length = k := by simp [lanesB]
/-- Lanes put together. -/
def joinB (L : List ByteArray) : ByteArray := strL ((L.map (·.data.toList)).flatten)
theorem flat_take (l : List UInt8) (z : Nat) : ∀ m, m * z ≤ l.length → (((List.range m).map fun i => (l.drop (i * z)).take ((i + 1) * z - i * z))).flatten = l.take (m * z) := by
  intro m
  induction m with
  | zero => intro _; simp
  | succ m ih =>
    intro h
    have e : (m + 1) * z = m * z + z := by rw [Nat.add_mul, Nat.one_mul]
    rw [List.range_succ, List.map_append, List.flatten_append, ih (by omega)]
    simp only [List.map_cons, List.map_nil, List.flatten_cons, List.flatten_nil, List.append_nil]
    rw [e, show m * z + z - m * z = z by omega, List.take_add]
theorem join_lanes {k z : Nat} {t : ByteArray} (h : t.size ≤ k * z) : joinB (lanesB k z t) = padB (k * z) t := by
  apply bytes_ext
  unfold joinB lanesB
  rw [data_strL, List.map_map]
  have e : (List.range k).map ((·.data.toList) ∘ fun i => (padB (k * z) t).extract (i * z) ((i + 1) * z)) = (List.range k).map fun i => ((padB (k * z) t).data.toList.drop (i * z)).take ((i + 1) * z - i * z) := by
    apply List.map_congr_left
    intro i _
    exact extract_list _ _ _
  rw [e, flat_take _ _ _ (by rw [str_len, padB_size h]; exact Nat.le_refl _)]
  exact List.take_of_length_le (by rw [str_len, padB_size h]; exact Nat.le_refl _)
theorem lanesB_size {k z : Nat} {t : ByteArray} (h : t.size ≤ k * z) : ∀ x ∈ lanesB k z t, x.size = z := by
  intro x hx
  unfold lanesB at hx
  obtain ⟨i, hi, rfl⟩ := List.mem_map.1 hx
  have hi := List.mem_range.1 hi
  rw [ByteArray.size_extract, padB_size h]
  have : (i + 1) * z ≤ k * z := Nat.mul_le_mul_right _ (by omega)
  have e : (i + 1) * z = i * z + z := by rw [Nat.add_mul, Nat.one_mul]
  omega
/-- Whether all bytes from some place on are 0. -/
def tailOk (J : ByteArray) (n : Nat) : Bool := (J.data.toList.drop n).all (· == 0)
theorem pad_tail (w : Nat) (t : ByteArray) : tailOk (padB w t) t.size = true := by
  unfold tailOk padB
  rw [bytes_app, ← str_len, List.drop_left]
  unfold zerosB
  rw [data_strL]
  simp
theorem pad_front (w : Nat) (t : ByteArray) : (padB w t).extract 0 t.size = t := by
  apply bytes_ext
  rw [extract_list, List.drop_zero, Nat.sub_zero]
  unfold padB
  rw [bytes_app, ← str_len, List.take_left]
theorem trimB_nil (l : List UInt8) : (Lib.trimB l 0).isEmpty = l.all (· == 0) := by
  unfold Lib.trimB Lib.trimLeftB Lib.trimRightB
  rw [Bool.eq_iff_iff, List.isEmpty_iff, List.all_eq_true]
  constructor
  · intro h x hx
    have h1 : ∀ (m : List UInt8), m.dropWhile (· == 0) = [] → ∀ x ∈ m, (x == 0) = true := by
      intro m
      induction m with
      | nil => intro _ x hx; simp at hx
      | cons a m ih =>
        intro h x hx
        rw [List.dropWhile_cons] at h
        split at h
        · rcases List.mem_cons.1 hx with rfl | hx
          · assumption
          · exact ih h x hx
        · cases h
    have h2 := h1 _ h
    by_cases hx2 : x ∈ (l.reverse.dropWhile (· == 0))
    · exact h2 x (by simpa using hx2)
    · have h3 : x ∈ l.reverse.takeWhile (· == 0) := by
        have : x ∈ l.reverse := by simpa using hx
        rw [← List.takeWhile_append_dropWhile (p := (· == 0)) (l := l.reverse)] at this
        rcases List.mem_append.1 this with h | h
        · exact h
        · exact absurd h hx2
      have h4 : ∀ (m : List UInt8), ∀ x ∈ m.takeWhile (· == 0), (x == 0) = true := by
        intro m
        induction m with
        | nil => simp
        | cons a m ih =>
          intro x hx
          rw [List.takeWhile_cons] at hx
          split at hx
          · rcases List.mem_cons.1 hx with rfl | hx
            · assumption
            · exact ih x hx
          · simp at hx
      exact h4 _ x h3
  · intro h
    have h1 : ∀ (m : List UInt8), (∀ x ∈ m, (x == 0) = true) → m.dropWhile (· == 0) = [] := by
      intro m
      induction m with
      | nil => intro _; rfl
      | cons a m ih =>
        intro h
        rw [List.dropWhile_cons, if_pos (h a (by simp))]
        exact ih (fun x hx => h x (by simp [hx]))
    rw [h1 l.reverse (fun x hx => h x (by simpa using hx))]
    rfl
theorem join_nil (xs : List (List UInt8)) : Lib.join xs [] = xs.flatten := by
  unfold Lib.join
  induction xs with
  | nil => rfl
  | cons a t ih =>
    cases t with
    | nil => simp [List.intercalate, List.intersperse]
    | cons b t => simp [List.intercalate, List.intersperse] at ih ⊢; exact ih
end Go.Proofs.YtkfmkbmlhhdbpaaDoor
