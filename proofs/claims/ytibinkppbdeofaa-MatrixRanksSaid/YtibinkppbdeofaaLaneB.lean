/- lane.Into, walked: of less than 256 bytes. -/
import Derived.Test.YtibinkppbdeofaaLaneA
import Derived.BigQuiet
import Derived.BigRegion
import Derived.Deep.RegionHeld3
import Derived.StillTailTactics
import Derived.Deep.DeepCutAuto
import Derived.Deep.CutRange
import Derived.Deep.DrawnRows
namespace Go.Proofs.Ytibinkppbdeofaa
open Go.ChangeShapes Go.WideShapes Go.ChangeAt Go.RowKit Go.Joins
set_option linter.unusedVariables false
set_option linter.unusedSimpArgs false

theorem fieldMul_nat (a b g : Nat) (w : World) (ha : a < 256) (hb : b < 256) (hg : Gf.mul a b = g) :
    Calls Try.prog 68 #[.int .u8 (a : Int), .int .u8 (b : Int)] w fun e w' => e = .returned (.int .u8 (g : Int)) ∧ w = w' := by
  have h := fieldMul_any (a : Int) (b : Int) w (by omega) (by omega) (by omega) (by omega)
  rw [gm_nat, hg] at h
  exact h

set_option maxRecDepth 100000 in
set_option maxHeartbeats 1000000 in
theorem into_small (B off n cap : Nat) (ns : List Nat) (s : ByteArray) (c : Nat) (w : World) (h : BytesBlk w B ns) (hB : B < w.heap.size) (hoff : off + n ≤ ns.length) (hns : ns.length ≤ 100000) (hs : n ≤ s.size) (hs2 : s.size ≤ 100000) (hc : c < 256) (hc0 : 0 < c) (hn : n < 256) :
    Calls Try.prog 59 #[.slice (some ⟨B, off, none⟩) n cap, .string s, .int .u8 (c : Int)] w fun e w' => e = .returned (.tuple #[]) ∧ BytesBlk w' B (intoL s c off n ns) ∧ Kept (fun k => k = B) w w' := by
  have HD0 := Lib.hid h
  have hcz : ((c : Int) == 0) = false := beq_eq_false_iff_ne.2 (by omega)
  have hnd : decide ((n : Int) < 256) = true := by simp; omega
  clear h
  go_enter Try.func59, Try.ntmps59
  go_wp2_with fail
  go_loopw [17] (fun i wr => ∃ k : Nat, i = .int .i64 k ∧ k ≤ n ∧ Hid (BytesBlk wr B (intoL s c off k ns)) ∧ Hid (Kept (fun k => k = B) w wr)) (fun i _ => n - (intOf i).toNat)
  case atStart => exact ⟨0, rfl, by omega, HD0, Lib.hid (Kept.refl _ _)⟩
  case round =>
    clear HD0
    obtain ⟨k, rfl, hk, HD, HK⟩ := hrel
    by_cases hlt : k < n
    · have ha : k < s.size := by omega
      obtain ⟨a, hca, ha2, ha256⟩ : ∃ a : Nat, (∀ h : k < s.size, (s[k]'h).toNat = a) ∧ byN s k = a ∧ a < 256 := ⟨byN s k, fun h => (byN_eq h).symm, rfl, byN_lt _ _⟩
      obtain ⟨c1, c2, c3⟩ := HD.out (off + k) (by rw [intoL_length]; omega)
      rw [intoL_far s c off k ns (off + k) (by omega)] at c1 c2
      obtain ⟨g, hg⟩ : ∃ g, Gf.mul a c = g := ⟨_, rfl⟩
      have hg256 : g < 256 := by rw [← hg]; exact Gf.mul_lt c ha256
      obtain ⟨x, hx⟩ : ∃ x, ns.getD (off + k) 0 = x := ⟨_, rfl⟩
      rw [hx] at c1 c2
      have hxg := bits_xor_u8 c1 hg256
      obtain ⟨z, hz⟩ : ∃ z, z = x ^^^ g := ⟨_, rfl⟩
      have hz256 : z < 256 := by rw [hz]; exact Nat.xor_lt_two_pow (n := 8) c1 hg256
      have HD1 : Hid (BytesBlk (wr.setCell ⟨B, off + k, none⟩ (.int .u8 (z : Int))) B (intoL s c off (k + 1) ns)) := by
        rw [Hid, intoL_succ, ha2, hx, hg, ← hz]; exact HD.out.next hz256
      rw [← hz] at hxg
      have HG := Lib.hid hg
      have i0 : (0 : Int) ≤ (k : Int) := by omega
      have i1 : (k : Int) < (n : Int) := by omega
      have i2 : (k : Int) < (s.size : Int) := by omega
      have HKK : Hid (Kept (fun k => k = B) w (wr.setCell ⟨B, off + k, none⟩ (.int .u8 (z : Int)))) := Lib.hid (HK.out.setCell (d := ⟨B, off + k, none⟩) (fun _ => rfl) _)
      clear hx hz hg ha2
      go_upto_region 5 with (fail)
      clear HK HD
      go_region_with (first | (go_at_call 68; refine (fieldMul_nat _ _ _ _ (by omega) (by omega) HG.out).mono ?_; rintro e w' ⟨rfl, rfl⟩))
      all_goals
        clear c2 c3
        go_wp2_with fail
        go_roundw
        case rel => first | exact ⟨k + 1, by go_num, by omega, HD1, HKK⟩ | exact ⟨k + 1, by go_num, by omega, HD1, Lib.hid (Kept.drew HKK.out)⟩ | exact ⟨k + 1, by go_num, by omega, HD1, Lib.hid (Kept.drew (Kept.drew HKK.out))⟩
        case measure => simp [intOf]; omega
    · have hke : k = n := by omega
      have H1 := HD.out
      rw [hke] at H1
      have HD1 := Lib.hid H1
      clear hke H1
      go_wp2_with fail
      all_goals
        (try simp only [Exit.inBlock, Exit.then])
        first | refine bodyPost_ret (results_none rfl _ _ _) rfl ?_ | refine bodyPost_end (results_none rfl _ _ _) rfl ?_
        exact ⟨rfl, HD1.out, HK.out⟩
end Go.Proofs.Ytibinkppbdeofaa
