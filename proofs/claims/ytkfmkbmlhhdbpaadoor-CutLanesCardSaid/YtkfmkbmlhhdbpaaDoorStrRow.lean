/- Rows of texts that the code made; whether two are alike. -/
import Derived.Test.YtkfmkbmlhhdbpaaDoorShape
import Derived.Deep.AppendLies
namespace Go.Proofs.YtkfmkbmlhhdbpaaDoor
open Go.ChangeShapes Go.WideShapes Go.ChangeAt Go.RowKit Go.Joins
set_option linter.unusedVariables false
set_option linter.unusedSimpArgs false

/-- A slice value of these texts. -/
def StrsIn (w : World) (v : Value) (L : List ByteArray) : Prop := RowIs w v L.length 1 (L.map Value.string)
theorem StrsIn.below {w w' : World} {v : Value} {l : List ByteArray} (h : StrsIn w v l) (hb : Below w.heap.size w w') : StrsIn w' v l := RowIs.below h hb
theorem StrsIn.len {w : World} {v : Value} {l : List ByteArray} (h : StrsIn w v l) : ∃ A c, v = .slice A l.length c := by
  obtain ⟨_, A, c, rfl, _⟩ := h
  exact ⟨A, c, rfl⟩
theorem StrsIn.at_ {w : World} {v : Value} {l : List ByteArray} (h : StrsIn w v l) {k : Nat} (hk : k < l.length) :
    ∃ b o c, v = .slice (some ⟨b, o, none⟩) l.length c ∧ ∃ s, l[k]? = some s ∧ w.cell? ⟨b, o + k, none⟩ = some (.string s) := by
  obtain ⟨b, o, c, rfl, hlt, hc⟩ := RowIs.at_ h hk
  refine ⟨b, o, c, rfl, l[k], List.getElem?_eq_getElem hk, ?_⟩
  obtain ⟨u, h1, h2⟩ := hc 0 (by omega)
  simp [hk] at h1
  rw [Nat.mul_one, Nat.add_zero] at h2
  rw [h2, h1]
theorem StrsIn.nil (w : World) (c : Nat) (A : Option Addr) : StrsIn w (.slice A 0 c) [] := RowIs.nil _ _ _ _

theorem infoStr : (Tryd.prog.info? 9).map (fun i => (i.zero, i.size, i.bytes)) = some (some (.string ByteArray.empty), 1, 16) := by kernel_rfl

set_option maxRecDepth 100000 in
set_option maxHeartbeats 1000000 in
theorem eqStrs_yes (va vb : Value) (l : List ByteArray) (w : World) (ha : StrsIn w va l) (hb : StrsIn w vb l) (hm : l.length ≤ 9000000000000000000) :
    Calls Tryd.prog 12 #[va, vb] w fun e w' => e = .returned (.bool true) ∧ Below w.heap.size w w' := by
  have HA := Lib.hid ha
  have HB := Lib.hid hb
  obtain ⟨Aa, ka, rfl⟩ := ha.len
  obtain ⟨Ab, kb, rfl⟩ := hb.len
  clear ha hb
  go_enter Tryd.func12, Tryd.ntmps12
  go_wp2_with fail
  go_loopw [5] (fun i wr => ∃ k : Nat, i = .int .i64 k ∧ k ≤ l.length ∧ Below w.heap.size w wr) (fun i _ => l.length - (intOf i).toNat)
  case atStart => exact ⟨0, rfl, by omega, Below.refl _ _⟩
  case round =>
    obtain ⟨k, rfl, hk, hwr⟩ := hrel
    by_cases hlt : k < l.length
    · obtain ⟨ba, oa, ca, ea, s, hs, a0⟩ := (HA.out.below hwr).at_ hlt
      obtain ⟨bb, ob, cb, eb, s', hs', b0⟩ := (HB.out.below hwr).at_ hlt
      rw [hs] at hs'
      cases hs'
      cases ea
      cases eb
      go_wp2_with fail
      go_quiet (fail)
      all_goals
        go_wp2_with fail
        go_roundw
        case rel => exact ⟨k + 1, by go_num, by omega, below_drewN hwr _⟩
        case measure => simp [intOf]; omega
    · go_wp2_with fail
      go_ret
      exact ⟨rfl, hwr⟩
end Go.Proofs.YtkfmkbmlhhdbpaaDoor
