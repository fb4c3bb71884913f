/- Lanes added, the page's way, walked; lane.MulAdd. -/
import Derived.Test.YtibinkppbdeofaaLaneD
namespace Go.Proofs.Ytibinkppbdeofaa
open Go.ChangeShapes Go.WideShapes Go.ChangeAt Go.RowKit Go.Joins
set_option linter.unusedVariables false
set_option linter.unusedSimpArgs false

set_option maxRecDepth 100000 in
set_option maxHeartbeats 1000000 in
theorem refAdded_any (a b : ByteArray) (w : World) (ha : a.size ≤ 100000) (hab : a.size ≤ b.size) (hb : b.size ≤ 100000) :
    Calls Try.prog 54 #[.string a, .string b] w fun e w' => e = .returned (.string (addedS a b)) ∧ Below w.heap.size w w' := by
  have hcv : ∀ w', (convert 9 28 (.string a)).run Try.prog w' = .ok (.slice (some ⟨w'.heap.size, 0, none⟩) a.size (grownCap w' a.size 0 5)) (Lib.bytesWorld w' 5 a) := fun w' => Lib.run_convert_string_bytes w' 9 28 5 a Try.underlying9 Try.underlying28 Try.underlying5
  go_enter Try.func54, Try.ntmps54
  go_wp2_with fail
  clear hcv
  have HD0 : Hid (BytesBlk (Lib.bytesWorld w 5 a) w.heap.size (partL a.size (fun i => byN a i ^^^ byN b i) (byN a) 0)) := by
    rw [Hid, partL_zero, ← bytesOf_range]; exact bytesBlk_of w _ a
  have HB0 := Lib.hid (bytesWorld_below w 5 a)
  generalize Lib.bytesWorld w 5 a = V at *
  generalize grownCap w a.size 0 5 = cp at *
  go_loopw [6] (fun i wr => ∃ k : Nat, i = .int .i64 k ∧ k ≤ a.size ∧ Hid (BytesBlk wr w.heap.size (partL a.size (fun i => byN a i ^^^ byN b i) (byN a) k)) ∧ Hid (Below w.heap.size w wr)) (fun i _ => a.size - (intOf i).toNat)
  case atStart => exact ⟨0, rfl, by omega, HD0, HB0⟩
  case round =>
    clear HD0 HB0
    obtain ⟨k, rfl, hk, HD, HB⟩ := hrel
    by_cases hlt : k < a.size
    · obtain ⟨c1, c2, c3⟩ := HD.out k (by rw [partL_length]; exact hlt)
      rw [partL_get _ _ _ hlt] at c1 c2
      obtain ⟨g, hg⟩ : ∃ g, byN a k ^^^ byN b k = g := ⟨_, rfl⟩
      have hg256 : g < 256 := by rw [← hg]; exact Nat.xor_lt_two_pow (n := 8) (byN_lt a k) (byN_lt b k)
      have HD1 : Hid (BytesBlk (wr.setCell ⟨w.heap.size, k, none⟩ (.int .u8 (g : Int))) w.heap.size (partL a.size (fun i => byN a i ^^^ byN b i) (byN a) (k + 1))) := by
        rw [Hid, partL_succ, hg]; exact HD.out.next hg256
      have HB1 := Lib.hid (HB.out.setCell (p := ⟨w.heap.size, k, none⟩) (Nat.le_refl _) (.int .u8 (g : Int)))
      obtain ⟨y, hcy, hy⟩ : ∃ y : Nat, (∀ h : k < b.size, (b[k]'h).toNat = y) ∧ byN b k = y := ⟨byN b k, fun h => (byN_eq h).symm, rfl⟩
      have hxg := bits_xor_u8 (byN_lt a k) (byN_lt b k)
      rw [hg, hy] at hxg
      generalize byN a k = x at c1 c2 hxg
      have i0 : (0 : Int) ≤ (k : Int) := by omega
      have i1 : (k : Int) < (a.size : Int) := by omega
      have i2 : (k : Int) < (b.size : Int) := by omega
      clear hg hy HD HB
      go_upto_region 5 with (fail)
      go_still_tail 11, (by kernel_rfl)
      change wpList _ _ _ _ _ (World.drew _)
      go_wp2_with fail
      go_roundw
      case rel => exact ⟨k + 1, by go_num, by omega, HD1, Lib.hid (Below.drew HB1.out)⟩
      case measure => simp [intOf]; omega
    · have hke : k = a.size := by omega
      have hd2 := HD.out
      rw [hke] at hd2
      have hcv2 := convert_bytes (P := Try.prog) (w := wr) (b := w.heap.size) (off := 0) (cap := cp) (ns := partL a.size (fun i => byN a i ^^^ byN b i) (byN a) a.size) Try.underlying28 Try.underlying5 Try.underlying9 (BytesBlk.cells hd2)
      rw [partL_length, partL_all, show strOf8 ((List.range a.size).map fun i => byN a i ^^^ byN b i) = addedS a b from rfl] at hcv2
      clear hke hd2
      go_wp2_with fail
      go_ret
      exact ⟨rfl, HB.out⟩
end Go.Proofs.Ytibinkppbdeofaa
