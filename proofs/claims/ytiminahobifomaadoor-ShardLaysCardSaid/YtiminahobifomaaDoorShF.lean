/- The page's own: siloref11.Shard, Sectors; the closure of Take; num. -/
import Derived.Test.YtiminahobifomaaDoorShA
import Derived.Test.YtiminahobifomaaDoorShape
namespace Go.Proofs.YtiminahobifomaaDoor
open Go.ChangeShapes Go.WideShapes Go.ChangeAt Go.RowKit Go.Joins
set_option linter.unusedVariables false
set_option linter.unusedSimpArgs false

set_option maxRecDepth 100000 in
theorem num12_any (n : Int) (w : World) : Calls Tryd.prog 7 #[.int .i64 n] w fun e w' => e = .returned (.int .i64 n) ∧ w = w' := by
  go_enter Tryd.func7, Tryd.ntmps7
  go_wp2_with fail
  go_ret
  exact ⟨rfl, rfl⟩

set_option maxRecDepth 100000 in
theorem take1_is (s : ByteArray) (w : World) : Calls Tryd.prog 24 #[.string s] w fun e w' => e = .returned (.bool (!decide (s.size = 64))) ∧ w = w' := by
  by_cases h1 : (s.size : Int) = 64
  · have hd : ((s.size : Int) == 64) = true := by simp [h1]
    have h2 : s.size = 64 := by omega
    have HB : Hid ((!decide (s.size = 64)) = false) := by rw [Hid, decide_eq_true h2]; rfl
    clear h1 h2
    go_enter Tryd.func24, Tryd.ntmps24
    go_wp2_with fail
    go_ret
    exact ⟨by rw [HB.out]; first | rfl | simp_all, rfl⟩
  · have hd : ((s.size : Int) == 64) = false := by simp [h1]
    have h2 : ¬ s.size = 64 := by omega
    have HB : Hid ((!decide (s.size = 64)) = true) := by rw [Hid, decide_eq_false h2]; rfl
    clear h1 h2
    go_enter Tryd.func24, Tryd.ntmps24
    go_wp2_with fail
    go_ret
    exact ⟨by rw [HB.out]; first | rfl | simp_all, rfl⟩

set_option maxRecDepth 100000 in
theorem refSectors_any (n : Nat) (w : World) (hn : n ≤ 1000000) :
    Calls Tryd.prog 18 #[.int .i64 (n : Int)] w fun e w' => e = .returned (.int .i64 (secN n : Int)) ∧ w = w' := by
  have w1 : IntKind.i64.wrap (15 + (n : Int)) = 15 + (n : Int) := IntWalk.i64_in _ (by omega)
  have w2 : IntKind.i64.wrap (15 + (n : Int) + 8) = 15 + (n : Int) + 8 := IntWalk.i64_in _ (by omega)
  have w3 : IntKind.i64.wrap (15 + (n : Int) + 8 + 64) = 15 + (n : Int) + 8 + 64 := IntWalk.i64_in _ (by omega)
  have w4 : IntKind.i64.wrap (15 + (n : Int) + 8 + 64 - 1) = 15 + (n : Int) + 8 + 64 - 1 := IntWalk.i64_in _ (by omega)
  have w5 : (15 + (n : Int) + 8 + 64 - 1).tdiv 64 = (secN n : Int) := by rw [Int.tdiv_eq_ediv_of_nonneg (by omega), secN]; omega
  have w6 : IntKind.i64.wrap (secN n : Int) = (secN n : Int) := IntWalk.i64_in _ (by unfold secN; omega)
  generalize secN n = q at *
  go_enter Tryd.func18, Tryd.ntmps18
  go_wp2
  go_ret
  exact ⟨rfl, rfl⟩

set_option maxRecDepth 100000 in
set_option maxHeartbeats 2000000 in
theorem refShard_any (st ix g : Int) (t : ByteArray) (b : Bool) (hb : shardB st ix g t = b) (w : World) :
    Calls Tryd.prog 12 #[.agg #[.int .i64 st, .int .i64 ix, .int .i64 g, .string t]] w fun e w' => e = .returned (.bool b) ∧ Below w.heap.size w w' := by
  obtain ⟨hbe, h0, h1, h2, h3⟩ := box4_facts w (.int .i64 st) (.int .i64 ix) (.int .i64 g) (.string t) 28
  have HB := Lib.hid hb
  have HBE := Lib.hid hbe
  clear hb hbe
  obtain ⟨p1, hp1⟩ : ∃ p, p = decide (0 ≤ st ∧ st ≤ 1073741824) := ⟨_, rfl⟩
  obtain ⟨p2, hp2⟩ : ∃ p, p = decide (0 ≤ g ∧ g ≤ 1073741824) := ⟨_, rfl⟩
  obtain ⟨p3, hp3⟩ : ∃ p, p = decide (0 ≤ ix ∧ ix ≤ 13) := ⟨_, rfl⟩
  obtain ⟨p4, hp4⟩ : ∃ p, p = decide (1 ≤ (t.size : Int) ∧ (t.size : Int) ≤ 120) := ⟨_, rfl⟩
  have HP : Hid (shardB st ix g t = (p1 && p2 && p3 && p4)) := by
    rw [Hid, hp1, hp2, hp3, hp4]
    unfold shardB
    rw [Bool.eq_iff_iff]
    simp only [Bool.and_eq_true, decide_eq_true_eq]
    constructor
    · intro h; omega
    · intro h; omega
  have H1 := Lib.hid hp1
  have H2 := Lib.hid hp2
  have H3 := Lib.hid hp3
  have H4 := Lib.hid hp4
  clear hp1 hp2 hp3 hp4
  go_enter Tryd.func12, Tryd.ntmps12
  go_wp2_with fail
  have G1 := refNum_any st 1073741824 (w.alloc (.cells #[.int .i64 st, .int .i64 ix, .int .i64 g, .string t] 28))
  have G2 := refNum_any g 1073741824 (w.alloc (.cells #[.int .i64 st, .int .i64 ix, .int .i64 g, .string t] 28))
  have G3 := refNum_any ix 13 (w.alloc (.cells #[.int .i64 st, .int .i64 ix, .int .i64 g, .string t] 28))
  have G4 := refBetween_any (t.size : Int) 1 120 (w.alloc (.cells #[.int .i64 st, .int .i64 ix, .int .i64 g, .string t] 28))
  rw [← H1.out] at G1
  rw [← H2.out] at G2
  rw [← H3.out] at G3
  rw [← H4.out] at G4
  have K1 := Lib.hid G1
  have K2 := Lib.hid G2
  have K3 := Lib.hid G3
  have K4 := Lib.hid G4
  clear G1 G2 G3 G4 H1 H2 H3 H4
  refine K1.out.mono ?_
  rintro e w1 ⟨rfl, rfl⟩
  cases p1
  · have HF : Hid (b = false) := by rw [Hid, ← HB.out, HP.out]; rfl
    go_wp2_with fail
    go_ret
    exact ⟨by rw [HF.out]; rfl, HBE.out⟩
  · go_wp2_with fail
    refine K2.out.mono ?_
    rintro e w1 ⟨rfl, rfl⟩
    cases p2
    · have HF : Hid (b = false) := by rw [Hid, ← HB.out, HP.out]; rfl
      go_wp2_with fail
      go_ret
      exact ⟨by rw [HF.out]; rfl, HBE.out⟩
    · go_wp2_with fail
      refine K3.out.mono ?_
      rintro e w1 ⟨rfl, rfl⟩
      cases p3
      · have HF : Hid (b = false) := by rw [Hid, ← HB.out, HP.out]; rfl
        go_wp2_with fail
        go_ret
        exact ⟨by rw [HF.out]; rfl, HBE.out⟩
      · go_wp2_with fail
        refine K4.out.mono ?_
        rintro e w1 ⟨rfl, rfl⟩
        have HF : Hid (b = p4) := by rw [Hid, ← HB.out, HP.out]; rfl
        go_wp2_with fail
        go_ret
        exact ⟨by rw [HF.out]; rfl, HBE.out⟩
end Go.Proofs.YtiminahobifomaaDoor
