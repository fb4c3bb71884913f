/- Names: the page's own asking whether a text is a version: the walk. -/
import Derived.Test.YtlkadlhncbgdbaaDoorNamC
namespace Go.Proofs.YtlkadlhncbgdbaaDoor
open Go.ChangeShapes Go.WideShapes Go.ChangeAt Go.RowKit Go.Joins
set_option linter.unusedVariables false
set_option linter.unusedSimpArgs false

set_option maxRecDepth 100000 in
set_option maxHeartbeats 2000000 in
theorem refVersion_any (s : ByteArray) (w : World) (hs : s.size ≤ 9000000000000000000) :
    Calls Tryd.prog 23 #[.string s] w fun e w' => e = .returned (.bool (verL s.data.toList)) ∧ w = w' := by
  by_cases h0 : s.size = 0
  · have hE : s.data.toList = [] := List.eq_nil_of_length_eq_zero (by rw [str_len]; exact h0)
    have h00 : ((s.size : Int) == 0) = true := by rw [h0]; rfl
    clear h0
    go_enter Tryd.func23, Tryd.ntmps23
    go_wp2_with fail
    go_ret
    refine ⟨?_, rfl⟩
    rw [hE]
    rfl
  have hp : 0 < s.size := by omega
  have h00 : ((s.size : Int) == 0) = false := beq_eq_false_iff_ne.2 (by omega)
  have HF : Hid (s[0].toNat = 46 ∨ s[0].toNat = 45 → verL s.data.toList = false) := by
    intro h
    refine verL_bad (i := 0) (by rw [str_len]; exact hp) ?_
    rw [verAt_eq hp]
    rcases h with h | h <;> rw [h] <;> decide
  obtain ⟨a, ha⟩ : ∃ a : Nat, s[0].toNat = a := ⟨_, rfl⟩
  have hca : ∀ h : 0 < s.size, (s[0]'h).toNat = a := fun h => ha
  rw [ha] at HF
  clear ha
  go_enter Tryd.func23, Tryd.ntmps23
  by_cases ha : a = 46 ∨ a = 45
  · have hbad := Lib.hid (HF.out ha)
    clear HF
    rcases ha with rfl | rfl
    all_goals
      go_wp2_with fail
      go_ret
      refine ⟨?_, rfl⟩
      rw [hbad.out]
      first | rfl | simp
  have b1 : ((a : Int) == 46) = false := beq_eq_false_iff_ne.2 (by omega)
  have b2 : ((a : Int) == 45) = false := beq_eq_false_iff_ne.2 (by omega)
  have HA := Lib.hid ha
  clear HF ha
  go_wp2_with fail
  have HC := Lib.hid hca
  clear hca b1 b2 h00 h0
  go_loop [3] (fun n => ∃ k : Nat, n = .int .i64 k ∧ k ≤ s.size ∧ Hid (∀ i, i < k → verAt s.data.toList i = true)) (fun n => s.size - (intOf n).toNat)
  case atStart => exact ⟨0, rfl, by omega, fun i hi => absurd hi (by omega)⟩
  case round =>
    obtain ⟨k, rfl, hk, H⟩ := hrel
    by_cases hlt : k < s.size
    · have h8 : s[k].toNat < 256 := s[k].toNat_lt
      have hz : k = 0 → s[k].toNat ≠ 46 ∧ s[k].toNat ≠ 45 := by
        rintro rfl
        have := HC.out hlt
        have := HA.out
        omega
      have HN : verNAt s[k].toNat k = true → Hid (∀ i, i < k + 1 → verAt s.data.toList i = true) := by
        intro hv i hi
        by_cases e : i = k
        · subst e; rw [verAt_eq hlt]; exact hv
        · exact H.out i (by omega)
      have HB : verNAt s[k].toNat k = false → Hid (verL s.data.toList = false) := fun hv => verL_bad (i := k) (by rw [str_len]; exact hlt) (by rw [verAt_eq hlt]; exact hv)
      clear H HC HA
      obtain ⟨c, hc⟩ : ∃ c : Nat, s[k].toNat = c := ⟨_, rfl⟩
      rw [hc] at HN HB h8 hz
      obtain ⟨Y, hY⟩ : ∃ Y, Y = Hid (∀ i, i < k + 1 → verAt s.data.toList i = true) := ⟨_, rfl⟩
      obtain ⟨Z, hZ⟩ : ∃ Z, Z = Hid (verL s.data.toList = false) := ⟨_, rfl⟩
      rw [← hY] at HN
      rw [← hZ] at HB
      have HY := Lib.hid hY
      have HZ := Lib.hid hZ
      clear hY hZ
      cases hl : letN c
      · have g1 : ((65 ≤ c ∧ c ≤ 90) ∨ c = 95 ∨ c = 46 ∨ c = 45) → Y := fun h => HN (by unfold verNAt; rw [hl]; simp; omega)
        have g2 : ¬ ((65 ≤ c ∧ c ≤ 90) ∨ c = 95 ∨ c = 46 ∨ c = 45) → Z := fun h => HB (by unfold verNAt; rw [hl]; simp; omega)
        clear HN HB hz
        all_goals
          go_wp2_with (first
            | (go_at_call 29; refine (letter_any _ _ h8).mono ?_; rintro e w' ⟨rfl, rfl⟩))
        all_goals
          try simp only [Bool.not_eq_false', Bool.not_eq_true', decide_eq_true_eq, decide_eq_false_iff_not, bne_iff_ne, bne_eq_false_iff_eq, beq_iff_eq, beq_eq_false_iff_ne, ne_eq] at *
          first
            | (have hy : Y := g1 (by omega)
               rw [HY.out] at hy
               exact ⟨⟨k + 1, by go_num, by omega, hy.out⟩, by simp [intOf]; omega⟩)
            | (have hz : Z := g2 (by omega)
               rw [HZ.out] at hz
               go_ret
               refine ⟨?_, rfl⟩
               rw [hz.out]
               first | rfl | simp)
      · have hy : Y := HN (by unfold verNAt; rw [hl]; simp)
        rw [HY.out] at hy
        go_wp2_with (first
          | (go_at_call 29; refine (letter_any _ _ h8).mono ?_; rintro e w' ⟨rfl, rfl⟩))
        all_goals exact ⟨⟨k + 1, by go_num, by omega, hy.out⟩, by simp [intOf]; omega⟩
    · have HE : Hid (verL s.data.toList = true) := verL_yes (by rw [str_len]; exact hp) (fun i hi => H.out i (by rw [str_len] at hi; omega))
      clear H HC HA
      go_wp2_with fail
      all_goals
        go_ret
        refine ⟨?_, rfl⟩
        rw [HE.out]
        first | rfl | simp
end Go.Proofs.YtlkadlhncbgdbaaDoor
