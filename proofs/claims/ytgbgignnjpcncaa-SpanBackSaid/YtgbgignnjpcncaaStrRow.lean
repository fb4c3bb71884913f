/- Rows of texts that the code made; whether two are alike. -/
import Derived.Test.YtgbgignnjpcncaaShape
import Derived.Deep.AppendLies
namespace Go.Proofs.Ytgbgignnjpcncaa
open Go.ChangeShapes Go.WideShapes Go.ChangeAt Go.RowKit Go.Joins
set_option linter.unusedVariables false
set_option linter.unusedSimpArgs false

/-- A slice value of these texts. -/
def StrsIn (w : World) (v : Value) (L : List ByteArray) : Prop := RowIs w v L.length 1 (L.map Value.string)
theorem StrsIn.below {w w' : World} {v : Value} {l : List ByteArray} (h : StrsIn w v l) (hb : Below w.heap.size w w') : StrsIn w' v l := RowIs.below h hb
theorem StrsIn.len {w : World} {v : Value} {l : List ByteArray} (h : StrsIn w v l) : ∃ A c, v = .slice A l.length c := by
  obtain ⟨_, A, c, rfl, _⟩ := h
  exact ⟨A, c, rfl⟩
theorem StrsIn.at_ {w : World} {v : Value} {l : List ByteArray} (h : StrsIn w v l) {k : Nat} (hk : k < l.length) :
    ∃ b o c, v = .slice (some ⟨b, o, none⟩) l.length c ∧ ∃ s, l[k]? = some s ∧ w.cell? ⟨b, o + k, none⟩ = some (.string s) := by
  obtain ⟨b, o, c, rfl, hlt, hc⟩ := RowIs.at_ h hk
  refine ⟨b, o, c, rfl, l[k], List.getElem?_eq_getElem hk, ?_⟩
  obtain ⟨u, h1, h2⟩ := hc 0 (by omega)
  simp [hk] at h1
  rw [Nat.mul_one, Nat.add_zero] at h2
  rw [h2, h1]
theorem StrsIn.nil (w : World) (c : Nat) (A : Option Addr) : StrsIn w (.slice A 0 c) [] := RowIs.nil _ _ _ _

theorem infoStr : (Try.prog.info? 9).map (fun i => (i.zero, i.size, i.bytes)) = some (some (.string ByteArray.empty), 1, 16) := by kernel_rfl

end Go.Proofs.Ytgbgignnjpcncaa
