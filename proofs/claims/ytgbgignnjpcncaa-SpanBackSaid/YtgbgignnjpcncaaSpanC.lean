/- Spans: what is refused; two parts; the like of it. -/
import Derived.Test.YtgbgignnjpcncaaSpanB
namespace Go.Proofs.Ytgbgignnjpcncaa
open Go.ChangeShapes Go.WideShapes Go.ChangeAt Go.RowKit Go.Joins
set_option linter.unusedVariables false
set_option linter.unusedSimpArgs false

theorem two_parts (w : World) (a b c d e f : Int) (T : TypeId) : ThreesIn (w.alloc (.cells #[.int .i64 a, .int .i64 b, .int .i64 c, .int .i64 d, .int .i64 e, .int .i64 f] T)) (.slice (some ⟨w.heap.size, 0, none⟩) 2 2) [(a, b, c), (d, e, f)] := by
  refine ⟨by rw [rows3_length], _, _, rfl, fun _ => ⟨_, _, rfl, by simp, fun j u hj => ?_⟩⟩
  match j, hj with
  | 0, hj => simp [rows3, cells3] at hj; subst hj; simp [go_sem]
  | 1, hj => simp [rows3, cells3] at hj; subst hj; simp [go_sem]
  | 2, hj => simp [rows3, cells3] at hj; subst hj; simp [go_sem]
  | 3, hj => simp [rows3, cells3] at hj; subst hj; simp [go_sem]
  | 4, hj => simp [rows3, cells3] at hj; subst hj; simp [go_sem]
  | 5, hj => simp [rows3, cells3] at hj; subst hj; simp [go_sem]
  | j + 6, hj => simp [rows3, cells3] at hj

theorem spanOf_length (w e : Nat) : ∀ a, (spanOf w e a).length ≤ e := by
  have h : ∀ (m a : Nat), e - a ≤ m → (spanOf w e a).length ≤ e - a := by
    intro m
    induction m with
    | zero => intro a ha; rw [spanOf_end (by omega)]; simp
    | succ m ih =>
      intro a ha
      by_cases hlt : a < e
      · by_cases hw : 0 < w
        · rw [spanOf_step hlt hw, List.length_cons]
          have := next_gt w e a hlt hw
          have := ih (min e ((a / w + 1) * w)) (by omega)
          omega
        · rw [spanOf, dif_neg (by omega)]; simp
      · rw [spanOf_end (by omega)]; simp
  intro a
  exact Nat.le_trans (h _ a (Nat.le_refl _)) (by omega)

theorem span_wake : spanOf (1 * 2 : Int).toNat (endOf 5 1 2) (1 : Int).toNat = [(0, 1, 2), (1, 0, 1)] := by
  have e1 : (1 * 2 : Int).toNat = 2 := by decide
  have e2 : endOf 5 1 2 = 3 := by decide
  have e3 : (1 : Int).toNat = 1 := by decide
  rw [e1, e2, e3, spanOf_step (by omega) (by omega)]
  have e4 : min 3 ((1 / 2 + 1) * 2) = 2 := by decide
  rw [e4, spanOf_step (by omega) (by omega), spanOf_end (by decide)]
  rfl

set_option maxRecDepth 100000 in
set_option maxHeartbeats 1000000 in
theorem wakes8_any (w : World) :
    Calls Try.prog 15 #[] w fun e w' => e = .returned (.bool true) ∧ Below w.heap.size w w' := by
  go_enter Try.func15, Try.ntmps15
  go_wp2_with fail
  refine (parts_yes 1 0 2 5 1 2 _ (by decide) (by omega) (by omega) (by omega) (by omega) (by omega) (by omega)).mono ?_
  rintro e w1 ⟨v, rfl, hv, hb⟩
  rw [span_wake] at hv
  have h2 := two_parts w1 0 1 2 1 0 1 54
  have hb2 : Below w1.heap.size w1 (w1.alloc (.cells #[.int .i64 0, .int .i64 1, .int .i64 2, .int .i64 1, .int .i64 0, .int .i64 1] 54)) := (Below.refl _ _).alloc (Nat.le_refl _) _
  have hv2 := hv.below hb2
  have HV := Lib.hid hv2
  have H2 := Lib.hid h2
  have HB := Lib.hid (hb.trans (hb2.mono hb.size))
  clear hv hv2 h2 hb2
  go_wp2_with (first
    | (go_at_call 13; refine (num8_any _ _).mono ?_; rintro e w' ⟨rfl, rfl⟩))
  refine (eqParts_yes _ _ _ _ HV.out H2.out (by simp)).mono ?_
  rintro e w3 ⟨rfl, hb3⟩
  have hx := HB.out.trans (hb3.mono HB.out.size)
  clear hb3
  go_wp2_with fail
  go_ret
  exact ⟨rfl, hx⟩
end Go.Proofs.Ytgbgignnjpcncaa
