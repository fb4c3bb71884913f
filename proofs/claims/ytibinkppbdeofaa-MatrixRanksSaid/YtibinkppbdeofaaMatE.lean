/- Bytes and matrices that are one; the law's error number. -/
import Derived.Test.YtibinkppbdeofaaMatD
namespace Go.Proofs.Ytibinkppbdeofaa
open Go.ChangeShapes Go.WideShapes Go.ChangeAt Go.RowKit Go.Joins
set_option linter.unusedVariables false
set_option linter.unusedSimpArgs false

set_option maxRecDepth 100000 in
set_option maxHeartbeats 1000000 in
theorem eqBytes_yes (va vb : Value) (l : List Nat) (w : World) (ha : BytesV w va l) (hb : BytesV w vb l) (hm : l.length ≤ 9000000000000000000) :
    Calls Try.prog 42 #[va, vb] w fun e w' => e = .returned (.bool true) ∧ Below w.heap.size w w' := by
  have HA := Lib.hid ha
  have HB := Lib.hid hb
  obtain ⟨Aa, ka, rfl⟩ := ha.shape
  obtain ⟨Ab, kb, rfl⟩ := hb.shape
  clear ha hb
  go_enter Try.func42, Try.ntmps42
  go_wp2_with fail
  go_loopw [5] (fun i wr => ∃ k : Nat, i = .int .i64 k ∧ k ≤ l.length ∧ Below w.heap.size w wr) (fun i _ => l.length - (intOf i).toNat)
  case atStart => exact ⟨0, rfl, by omega, Below.refl _ _⟩
  case round =>
    obtain ⟨k, rfl, hk, hwr⟩ := hrel
    by_cases hlt : k < l.length
    · obtain ⟨ba, oa, rfl, _, a0⟩ := (HA.out.below hwr).at_ hlt
      obtain ⟨bb, ob, rfl, _, b0⟩ := (HB.out.below hwr).at_ hlt
      generalize l.getD k 0 = s at a0 b0
      have j0 : (0 : Int) ≤ (k : Int) := by omega
      have j1 : (k : Int) < (l.length : Int) := by omega
      go_wp2_with fail
      go_quiet (fail)
      all_goals
        go_wp2_with fail
        go_roundw
        case rel => exact ⟨k + 1, by go_num, by omega, below_drewN hwr _⟩
        case measure => simp [intOf]; omega
    · go_wp2_with fail
      go_ret
      exact ⟨rfl, hwr⟩

set_option maxRecDepth 100000 in
set_option maxHeartbeats 1000000 in
theorem eqMatrix_yes (R C : Int) (va vb : Value) (l : List Nat) (w : World) (ha : BytesV w va l) (hb : BytesV w vb l) (hm : l.length ≤ 9000000000000000000) :
    Calls Try.prog 14 #[matV R C va, matV R C vb] w fun e w' => e = .returned (.bool true) ∧ Below w.heap.size w w' := by
  obtain ⟨Aa, ka, rfl⟩ := ha.shape
  obtain ⟨Ab, kb, rfl⟩ := hb.shape
  have hb1 := (Below.refl w.heap.size w).alloc (Nat.le_refl _) (.cells #[.int .i64 R, .int .i64 C, .slice Aa l.length ka] 30)
  have hb2 := hb1.alloc hb1.size (.cells #[.int .i64 R, .int .i64 C, .slice Ab l.length kb] 30)
  have HA := Lib.hid (ha.below hb2)
  have HB := Lib.hid (hb.below hb2)
  have HX := Lib.hid hb2
  clear ha hb hb1 hb2
  unfold matV
  go_enter Try.func14, Try.ntmps14
  go_wp2_with fail
  refine (eqBytes_yes _ _ l _ HA.out HB.out hm).mono ?_
  rintro e w1 ⟨rfl, hb⟩
  have hx := cum2 HX.out hb
  clear hb HA HB HX
  go_wp2_with fail
  go_ret
  exact ⟨rfl, hx⟩

set_option maxRecDepth 100000 in
set_option maxHeartbeats 400000 in
theorem num3_any (n : Int) (w : World) : Calls Try.prog 13 #[.int .i64 n] w fun e w' => e = .returned (.int .i64 n) ∧ w = w' := by
  go_enter Try.func13, Try.ntmps13
  go_wp2_with fail
  go_ret
  exact ⟨rfl, rfl⟩
end Go.Proofs.Ytibinkppbdeofaa
