/- Texts of bytes 0; lane.Scale and lane.Zero, walked. -/
import Derived.Test.YtdbdpdeehfeaiaaLaneH
import Derived.Test.YtdbdpdeehfeaiaaShelf2
namespace Go.Proofs.Ytdbdpdeehfeaiaa
open Go.ChangeShapes Go.WideShapes Go.ChangeAt Go.RowKit Go.Joins
set_option linter.unusedVariables false
set_option linter.unusedSimpArgs false

def zeroS (n : Nat) : ByteArray := strOf8 (List.replicate n 0)
theorem zeroS_size (n : Nat) : (zeroS n).size = n := by rw [zeroS, strOf8_size, List.length_replicate]
theorem repeatL_zero (n : Nat) : Lib.repeatL [0] n = List.replicate n (0 : UInt8) := by
  induction n with
  | zero => rfl
  | succ n ih => simp [Lib.repeatL, List.replicate_succ] at *; try exact ih
theorem byN_zero (n i : Nat) : byN (zeroS n) i = 0 := by
  unfold byN zeroS strOf8
  by_cases h : i < n
  · simp [List.getD, h]
  · simp [List.getD, h]
theorem mixS_zero (a : ByteArray) (c : Nat) : mixS (zeroS a.size) a c = scaledS a c := by
  unfold mixS scaledS
  rw [zeroS_size]
  congr 1
  apply List.map_congr_left
  intro i _
  rw [byN_zero, Nat.zero_xor]
theorem repeat_any (n : Nat) (w : World) (hn : n ≤ 100000) :
    Calls Try.prog 25 #[.string ⟨#[0]⟩, .int .i64 n] w fun e w' => e = .returned (.string (zeroS n)) ∧ Below w.heap.size w w' := by
  refine (sh_strings_Repeat ⟨#[0]⟩ n w (by omega) (by show 1 * n ≤ _; omega)).mono fun e w' ⟨he, hb⟩ => ⟨?_, hb⟩
  rw [he]
  show Ending.returned (.string ⟨(Lib.repeatL [0] n).toArray⟩) = _
  rw [repeatL_zero, zeroS, strOf8, List.map_replicate]
  rfl
theorem may_one (a : ByteArray) : mayN [a] = if 8192 < a.size then 2 else 0 := by simp [mayN, mayGo]
theorem two_self (a b : ByteArray) (h : ¬ 8192 < a.size) (hb : b.size = a.size) : mayN [b, a] = 0 := by
  rw [two_eq, if_neg (by omega), if_neg (by omega), if_pos hb.symm]

set_option maxRecDepth 100000 in
set_option maxHeartbeats 1000000 in
theorem scale_yes (a : ByteArray) (c : Nat) (w : World) (h : ¬ 8192 < a.size) (hc : c < 256) :
    Calls Try.prog 8 #[.string a, .int .u8 (c : Int)] w fun e w' => e = .returned (.tuple #[.string (scaledS a c), .int .i64 0]) ∧ Below w.heap.size w w' := by
  have hm : mayN [a] = 0 := by rw [may_one, if_neg h]
  have HM := Lib.hid hm
  have HX := Lib.hid (mixS_zero a c)
  have HT := Lib.hid (two_self a (zeroS a.size) h (zeroS_size _))
  have ha : a.size ≤ 8192 := by omega
  clear hm h
  go_enter Try.func8, Try.ntmps8
  go_wp2_with fail
  refine (may_any _ [a] _ (lit_row _ _ _ 1 1 _ rfl) (by simp)).mono ?_
  rintro e w1 ⟨rfl, hb1⟩
  rw [HM.out]
  have hb := ((Below.refl w.heap.size w).alloc (Nat.le_refl _) (.cells #[.string a] 9)).trans (hb1.mono (by simp))
  clear hb1
  go_wp2_with fail
  refine (repeat_any a.size _ (by omega)).mono ?_
  rintro e w2 ⟨rfl, hb2⟩
  have hx := hb.trans (hb2.mono hb.size)
  clear hb hb2
  go_wp2_with fail
  refine (mulAdd_yes (zeroS a.size) a c _ HT.out hc).mono ?_
  rintro e w3 ⟨rfl, hb3⟩
  rw [HX.out]
  have hx2 := hx.trans (hb3.mono hx.size)
  clear hx hb3
  go_wp2_with fail
  go_ret2
  exact ⟨rfl, hx2⟩

set_option maxRecDepth 100000 in
set_option maxHeartbeats 1000000 in
theorem scale_no (a : ByteArray) (c : Nat) (w : World) (h : 8192 < a.size) :
    Calls Try.prog 8 #[.string a, .int .u8 (c : Int)] w fun e w' => e = .returned (.tuple #[.string ⟨#[]⟩, .int .i64 2]) ∧ Below w.heap.size w w' := by
  have hm : mayN [a] = 2 := by rw [may_one, if_pos h]
  have HM := Lib.hid hm
  clear hm h
  go_enter Try.func8, Try.ntmps8
  go_wp2_with fail
  refine (may_any _ [a] _ (lit_row _ _ _ 1 1 _ rfl) (by simp)).mono ?_
  rintro e w1 ⟨rfl, hb1⟩
  rw [HM.out]
  have hb := ((Below.refl w.heap.size w).alloc (Nat.le_refl _) (.cells #[.string a] 9)).trans (hb1.mono (by simp))
  clear hb1
  go_wp2_with fail
  go_ret2
  exact ⟨rfl, hb⟩
end Go.Proofs.Ytdbdpdeehfeaiaa
