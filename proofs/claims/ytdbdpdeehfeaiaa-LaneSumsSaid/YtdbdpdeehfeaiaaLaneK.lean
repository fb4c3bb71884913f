/- lane.Sum, walked. -/
import Derived.Test.YtdbdpdeehfeaiaaLaneJ
namespace Go.Proofs.Ytdbdpdeehfeaiaa
open Go.ChangeShapes Go.WideShapes Go.ChangeAt Go.RowKit Go.Joins
set_option linter.unusedVariables false
set_option linter.unusedSimpArgs false

/-- Bytes of which k lanes were added. -/
def sumL (L : List ByteArray) (n k : Nat) : List Nat := (L.take k).foldl (fun b s => intoL s 1 0 n b) (List.replicate n 0)
theorem sumL_zero (L : List ByteArray) (n : Nat) : sumL L n 0 = List.replicate n 0 := rfl
theorem sumL_succ {L : List ByteArray} {n k : Nat} (h : k < L.length) : sumL L n (k + 1) = intoL (L[k]'h) 1 0 n (sumL L n k) := by
  unfold sumL
  rw [List.take_succ_eq_append_getElem h, List.foldl_append]; rfl
theorem sumL_length {L : List ByteArray} {n : Nat} : ∀ k, k ≤ L.length → (sumL L n k).length = n
  | 0, _ => by rw [sumL_zero, List.length_replicate]
  | k + 1, h => by rw [sumL_succ (by omega), intoL_length, sumL_length k (by omega)]
def sumS (L : List ByteArray) : ByteArray := strOf8 (sumL L (L.getD 0 ByteArray.empty).size L.length)
theorem mayGo_all (f : Nat) : ∀ (L : List ByteArray) (e : Int), mayGo f L e = 0 → e = 0 ∧ ∀ s ∈ L, s.size ≤ 8192 ∧ s.size = f
  | [], e, h => ⟨h, fun s hs => absurd hs (by simp)⟩
  | s :: r, e, h => by
    rw [mayGo] at h
    split at h
    · omega
    · obtain ⟨h1, h2⟩ := mayGo_all f r _ h
      split at h1
      · refine ⟨h1, fun u hu => ?_⟩
        rcases List.mem_cons.1 hu with rfl | hu
        · exact ⟨by omega, by assumption⟩
        · exact h2 u hu
      · omega
theorem may_all {L : List ByteArray} (h : mayN L = 0) : ∀ s ∈ L, s.size ≤ 8192 ∧ s.size = (L.getD 0 ByteArray.empty).size := (mayGo_all _ _ _ h).2
end Go.Proofs.Ytdbdpdeehfeaiaa
