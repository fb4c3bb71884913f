/- Lanes added; what is wrong with two of them, the page's way; an error's number. -/
import Derived.Test.YtdbdpdeehfeaiaaLaneG
namespace Go.Proofs.Ytdbdpdeehfeaiaa
open Go.ChangeShapes Go.WideShapes Go.ChangeAt Go.RowKit Go.Joins
set_option linter.unusedVariables false
set_option linter.unusedSimpArgs false

theorem mixS_one (a b : ByteArray) : mixS a b 1 = addedS a b := by
  unfold mixS addedS
  congr 1
  apply List.map_congr_left
  intro i _
  rw [Gf.mul_one _ (byN_lt b i)]

set_option maxRecDepth 100000 in
set_option maxHeartbeats 400000 in
theorem add_yes (a b : ByteArray) (w : World) (h : mayN [a, b] = 0) :
    Calls Try.prog 13 #[.string a, .string b] w fun e w' => e = .returned (.tuple #[.string (addedS a b), .int .i64 0]) ∧ Below w.heap.size w w' := by
  have HM := Lib.hid (mixS_one a b)
  go_enter Try.func13, Try.ntmps13
  go_wp2_with fail
  refine (mulAdd_yes a b 1 _ h (by decide)).mono ?_
  rintro e w1 ⟨rfl, hb⟩
  rw [HM.out]
  go_wp2_with fail
  go_ret2
  exact ⟨rfl, hb⟩

set_option maxRecDepth 100000 in
set_option maxHeartbeats 400000 in
theorem add_no (a b : ByteArray) (w : World) (h : mayN [a, b] ≠ 0) :
    Calls Try.prog 13 #[.string a, .string b] w fun e w' => e = .returned (.tuple #[.string ⟨#[]⟩, .int .i64 (mayN [a, b])]) ∧ Below w.heap.size w w' := by
  obtain ⟨r, hr⟩ : ∃ r, r = mayN [a, b] := ⟨_, rfl⟩
  have HM := Lib.hid hr
  rw [← hr]
  clear hr
  go_enter Try.func13, Try.ntmps13
  go_wp2_with fail
  refine (mulAdd_no a b 1 _ h).mono ?_
  rintro e w1 ⟨rfl, hb⟩
  rw [← HM.out]
  go_wp2_with fail
  go_ret2
  exact ⟨rfl, hb⟩

set_option maxRecDepth 100000 in
set_option maxHeartbeats 400000 in
theorem num2_any (n : Int) (w : World) : Calls Try.prog 9 #[.int .i64 n] w fun e w' => e = .returned (.int .i64 n) ∧ w = w' := by
  go_enter Try.func9, Try.ntmps9
  go_wp2_with fail
  go_ret
  exact ⟨rfl, rfl⟩

set_option maxRecDepth 100000 in
set_option maxHeartbeats 400000 in
theorem refTwo_any (a b : ByteArray) (w : World) (ha : a.size ≤ 140737488351232) (hb : b.size ≤ 140737488351232) :
    Calls Try.prog 15 #[.string a, .string b] w fun e w' => e = .returned (.int .i64 (mayN [a, b])) ∧ w = w' := by
  have h := two_eq a b
  obtain ⟨r, hr⟩ : ∃ r, r = mayN [a, b] := ⟨_, rfl⟩
  rw [← hr] at h ⊢
  clear hr
  by_cases h1 : 8192 < a.size
  · rw [if_pos h1] at h
    have hd : decide ((8192 : Int) < (a.size : Int)) = true := by simp; omega
    have H := Lib.hid h
    clear h
    go_enter Try.func15, Try.ntmps15
    go_wp2_with fail
    go_ret
    exact ⟨by rw [H.out]; rfl, rfl⟩
  · rw [if_neg h1] at h
    have hd : decide ((8192 : Int) < (a.size : Int)) = false := by simp; omega
    by_cases h2 : 8192 < b.size
    · rw [if_pos h2] at h
      have hd2 : decide ((8192 : Int) < (b.size : Int)) = true := by simp; omega
      have H := Lib.hid h
      clear h
      go_enter Try.func15, Try.ntmps15
      go_wp2_with fail
      go_ret
      exact ⟨by rw [H.out]; rfl, rfl⟩
    · rw [if_neg h2] at h
      have hd2 : decide ((8192 : Int) < (b.size : Int)) = false := by simp; omega
      by_cases h3 : b.size = a.size
      · rw [if_pos h3] at h
        have hd3 : ((a.size : Int) != (b.size : Int)) = false := by rw [h3]; simp
        have H := Lib.hid h
        clear h h3
        go_enter Try.func15, Try.ntmps15
        go_wp2_with fail
        go_ret
        exact ⟨by rw [H.out]; rfl, rfl⟩
      · rw [if_neg h3] at h
        have hd3 : ((a.size : Int) != (b.size : Int)) = true := by rw [bne_iff_ne]; omega
        have H := Lib.hid h
        clear h h3
        go_enter Try.func15, Try.ntmps15
        go_wp2_with fail
        go_ret
        exact ⟨by rw [H.out]; rfl, rfl⟩
end Go.Proofs.Ytdbdpdeehfeaiaa
