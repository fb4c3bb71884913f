/- Names: which bytes, gaps and parts: the code's walks. -/
import Derived.Test.YtlkadlhncbgdbaaDoorClose
import Derived.Test.YtlkadlhncbgdbaaDoorNamQ
import Derived.Test.YtlkadlhncbgdbaaDoorShelf19
import Derived.WalkSpells
import Derived.WalkLawsBesides
import Derived.Handy
import Derived.Lib.Hide
namespace Go.Proofs.YtlkadlhncbgdbaaDoor
open Go.ChangeShapes Go.WideShapes Go.ChangeAt Go.RowKit Go.Joins
set_option linter.unusedVariables false
set_option linter.unusedSimpArgs false

/-- A small letter or a digit, as a number. -/
def letN (n : Nat) : Bool := (decide (97 ≤ n) && decide (n ≤ 122)) || (decide (48 ≤ n) && decide (n ≤ 57))
theorem letB_eq (c : UInt8) : letB c = letN c.toNat := rfl

set_option maxRecDepth 100000 in
set_option maxHeartbeats 400000 in
theorem plain_any (n : Nat) (w : World) (hn : n < 256) :
    Calls Tryd.prog 36 #[.int .u8 (n : Int)] w fun e w' => e = .returned (.bool (letN n)) ∧ w = w' := by
  go_enter Tryd.func36, Tryd.ntmps36
  go_wp2
  all_goals
    go_ret
    refine ⟨?_, rfl⟩
    simp [letN]
    first
      | done
      | omega
      | (rw [Bool.eq_iff_iff]; simp; omega)

theorem str_get {s : ByteArray} {k : Nat} (h : k < s.size) : s.data.toList[k]? = some s[k] := by
  rw [List.getElem?_eq_getElem (by simpa using h)]; simp; rfl
theorem str_len (s : ByteArray) : s.data.toList.length = s.size := by simp

set_option maxRecDepth 100000 in
set_option maxHeartbeats 1000000 in
theorem between_any (s : ByteArray) (w : World) (hs : s.size ≤ 9000000000000000000) :
    Calls Tryd.prog 37 #[.string s] w fun e w' => e = .returned (.int .i64 (betweenL s.data.toList)) ∧ w = w' := by
  go_enter Tryd.func37, Tryd.ntmps37
  go_wp2_with fail
  go_loop [3] (fun n => ∃ k : Nat, n = .int .i64 k ∧ k ≤ s.size ∧ Hid (∀ i, i < k → ∃ c, s.data.toList[i]? = some c ∧ (c == 45) = true)) (fun n => s.size - (intOf n).toNat)
  case atStart => exact ⟨0, rfl, by omega, fun i hi => absurd hi (by omega)⟩
  case round =>
    obtain ⟨k, rfl, hk, H⟩ := hrel
    have fin : Hid (∀ c, s.data.toList[k]? = some c → (c == 45) = false) → Hid (lead (· == 45) s.data.toList = k) := fun h => lead_eq (by rw [str_len]; omega) H.out h.out
    by_cases hlt : k < s.size
    · cases h45 : (s[k] == 45)
      · have e45 : ((s[k].toNat : Int) == 45) = false := by
          refine beq_eq_false_iff_ne.2 (fun e => ?_)
          have : s[k] = 45 := UInt8.toNat_inj.1 (by show _ = 45; omega)
          rw [this] at h45; cases h45
        have HL := fin (by intro c hc; rw [str_get hlt] at hc; rw [← Option.some.inj hc]; exact h45)
        clear h45 H fin
        go_wp2_with (go_at_call 43; refine (sh_strings_HasPrefix _ _ _).mono ?_; rintro e w' ⟨rfl, rfl⟩)
        all_goals
          go_ret
          refine ⟨?_, rfl⟩
          have H1 := HL.out
          simp only [betweenL, H1]
          unfold Lib.hasPrefix at *
          simp [*]
      · have e45 : ((s[k].toNat : Int) == 45) = true := by
          have := eq_of_beq h45
          rw [this]; rfl
        have HN : Hid (∀ i, i < k + 1 → ∃ c, s.data.toList[i]? = some c ∧ (c == 45) = true) := by
          intro i hi
          by_cases e : i = k
          · subst e; exact ⟨_, str_get hlt, h45⟩
          · exact H.out i (by omega)
        clear h45 H fin
        go_wp2_with fail
        go_round
        case rel => exact ⟨k + 1, by go_num, by omega, HN.out⟩
        case measure => simp [intOf]; omega
    · have HL := fin (by intro c hc; rw [List.getElem?_eq_none (by rw [str_len]; omega)] at hc; cases hc)
      clear H fin
      go_wp2_with (go_at_call 43; refine (sh_strings_HasPrefix _ _ _).mono ?_; rintro e w' ⟨rfl, rfl⟩)
      all_goals
        go_ret
        refine ⟨?_, rfl⟩
        have H1 := HL.out
        simp only [betweenL, H1]
        unfold Lib.hasPrefix at *
        simp [*]
end Go.Proofs.YtlkadlhncbgdbaaDoor
