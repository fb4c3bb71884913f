/- A text's bytes as natural numbers. -/
import Derived.Laws.BitsLemmas
namespace Go.Proofs.YtiminahobifomaaDoor

/-- A string's bytes as natural numbers. -/
def bytesOf (s : ByteArray) : List Nat := s.data.toList.map UInt8.toNat
theorem bytesOf_length (s : ByteArray) : (bytesOf s).length = s.size := by simp [bytesOf]
theorem bytesOf_lt (s : ByteArray) : ∀ b ∈ bytesOf s, b < 256 := by
  intro b hb
  obtain ⟨c, _, rfl⟩ := List.mem_map.1 hb
  exact c.toNat_lt
theorem bytesOf_take (s : ByteArray) (k : Nat) (h : k < s.size) : (bytesOf s).take (k + 1) = (bytesOf s).take k ++ [s[k].toNat] := by
  rw [List.take_succ_eq_append_getElem (by rw [bytesOf_length]; exact h)]
  simp [bytesOf]; try rfl

end Go.Proofs.YtiminahobifomaaDoor
