/- Small helpers of the statements: Within brings a number within bounds; Texts says how much some texts are; Heavy whether that is too much. -/
import Derived.Test.YtiminahobifomaaDoorTexts
import Derived.WalkSpells
import Derived.WalkLawsBesides
import Derived.Handy
import Derived.Lib.Hide
namespace Go.Proofs.YtiminahobifomaaDoor
open Go.ChangeShapes Go.WideShapes Go.ChangeAt Go.RowKit Go.Joins
set_option linter.unusedVariables false
set_option linter.unusedSimpArgs false

/-- A number brought below another one. -/
def withinI (i n : Int) : Int := wrap64 ((IntKind.u64.wrap i).tmod (IntKind.u64.wrap n))
theorem within_calc (i n : Int) (h0 : 0 < n) (h1 : n ≤ 9223372036854775807) : IntKind.u64.wrap n ≠ 0 ∧ 0 ≤ withinI i n ∧ withinI i n < n := by
  unfold withinI
  have e : IntKind.u64.wrap n = n := IntWalk.u64_in _ (by omega)
  rw [e]
  have hw : 0 ≤ IntKind.u64.wrap i := by rw [IntKind.wrap_u64]; omega
  rw [Int.tmod_eq_emod_of_nonneg hw]
  have h2 := Int.emod_nonneg (IntKind.u64.wrap i) (b := n) (by omega)
  have h3 := Int.emod_lt_of_pos (IntKind.u64.wrap i) h0
  generalize IntKind.u64.wrap i % n = r at *
  rw [IntWalk.wrap64_in _ (by omega)]
  exact ⟨by omega, h2, h3⟩
/-- What Texts comes to: how much the texts are, or more than is played. -/
def TotalOut (ss : List ByteArray) (w : World) (e : Ending) (w' : World) : Prop := ∃ r : Nat, (r = total ss ∨ 1048576 ≤ r) ∧ r ≤ 9223372036854775807 ∧ e = .returned (.int .i64 (r : Int)) ∧ w = w'

set_option maxRecDepth 100000 in
set_option maxHeartbeats 400000 in
theorem texts_any (v : Value) (ss : List ByteArray) (w : World) (h : TextsIn w v ss) :
    Calls Tryd.prog 19 #[v] w (TotalOut ss w) := by
  obtain ⟨p, cap, rfl, h16, hs, hS⟩ := h
  have HS := Lib.hid hS
  have HB := Lib.hid hs
  clear hS hs
  go_enter Tryd.func19, Tryd.ntmps19
  go_wp2_with fail
  go_loop [3, 4] (fun n i => ∃ k m : Nat, i = .int .i64 k ∧ n = .int .i64 m ∧ k ≤ ss.length ∧ m ≤ 9000000000000000000 ∧ Hid (m = ss.length + ((ss.take k).map ByteArray.size).sum)) (fun _ i => ss.length - (intOf i).toNat)
  case atStart => exact ⟨0, ss.length, rfl, rfl, by omega, by omega, by simp [Hid]⟩
  case round =>
    obtain ⟨k, m, rfl, rfl, hk, hm, HM⟩ := hrel
    by_cases hlt : k < ss.length
    · obtain ⟨b, off, s, rfl, hsz, HE, hcell⟩ := text_at HS.out HB.out hlt
      by_cases h20 : m < 1048576
      · have hd : decide ((m : Int) < 1048576) = true := by simp; omega
        go_wp2_with fail
        go_round
        case rel => exact ⟨k + 1, m + s.size, by go_num, by go_num, by omega, by omega, by rw [Hid, total_step hlt, ← HE.out, HM.out]; omega⟩
        case measure => simp [intOf]; omega
      · have hd : decide ((m : Int) < 1048576) = false := by simp; omega
        go_wp2_with fail
        go_ret
        exact ⟨m, Or.inr (by omega), by omega, rfl, rfl⟩
    · have hke : k = ss.length := by omega
      have HT : Hid (m = total ss) := by rw [Hid, HM.out, hke, List.take_length]; rfl
      go_wp2_with fail
      all_goals
        go_ret
        exact ⟨m, Or.inl HT.out, by omega, rfl, rfl⟩
end Go.Proofs.YtiminahobifomaaDoor
