/- matrix.scale, walked. -/
import Derived.Test.YtibinkppbdeofaaMatY
import Derived.Test.YtibinkppbdeofaaMatW
namespace Go.Proofs.Ytibinkppbdeofaa
open Go.ChangeShapes Go.WideShapes Go.ChangeAt Go.RowKit Go.Joins
set_option linter.unusedVariables false
set_option linter.unusedSimpArgs false

set_option maxRecDepth 100000 in
set_option maxHeartbeats 1000000 in
theorem scale_any (B off n cap : Nat) (ns : List Nat) (c : Nat) (w : World) (h : BytesBlk w B ns) (hB : B < w.heap.size) (hoff : off + n ≤ ns.length) (hns : ns.length ≤ 100000) (hc : c < 256) :
    Calls Try.prog 58 #[.slice (some ⟨B, off, none⟩) n cap, .int .u8 (c : Int)] w fun e w' => e = .returned (.tuple #[]) ∧ BytesBlk w' B (updL (fun _ x => Gf.mul x c) off n ns) ∧ Kept (fun j => j = B) w w' := by
  have HD0 : Hid (BytesBlk w B (updL (fun _ x => Gf.mul x c) off 0 ns)) := h
  clear h
  go_enter Try.func58, Try.ntmps58
  go_wp2_with fail
  go_loopw [4, 7] (fun _ i wr => ∃ k : Nat, i = .int .i64 k ∧ k ≤ n ∧ Hid (BytesBlk wr B (updL (fun _ x => Gf.mul x c) off k ns)) ∧ Hid (Kept (fun j => j = B) w wr)) (fun _ i _ => n - (intOf i).toNat)
  case atStart => exact ⟨0, rfl, by omega, HD0, Lib.hid (Kept.refl _ _)⟩
  case round =>
    clear HD0
    obtain ⟨k, rfl, hk, HD, HK⟩ := hrel
    by_cases hlt : k < n
    · obtain ⟨c1, c2, c3⟩ := HD.out (off + k) (by rw [updL_length]; omega)
      rw [updL_far _ _ _ _ (off + k) (by omega)] at c1 c2
      have HNX := Lib.hid (updL_succ (fun _ x => Gf.mul x c) off k ns)
      generalize ns.getD (off + k) 0 = old at c1 c2 HNX
      obtain ⟨g, hg⟩ : ∃ g, Gf.mul old c = g := ⟨_, rfl⟩
      have hg256 : g < 256 := by rw [← hg]; exact Gf.mul_lt _ c1
      have HD1 : Hid (BytesBlk (wr.setCell ⟨B, off + k, none⟩ (.int .u8 (g : Int))) B (updL (fun _ x => Gf.mul x c) off (k + 1) ns)) := by
        rw [HNX.out, hg]; exact HD.out.next hg256
      have HK1 : Hid (Kept (fun j => j = B) w (wr.setCell ⟨B, off + k, none⟩ (.int .u8 (g : Int)))) := Lib.hid (HK.out.setCell (d := ⟨B, off + k, none⟩) (fun _ => rfl) _)
      have HG := Lib.hid hg
      have i0 : (0 : Int) ≤ (k : Int) := by omega
      have i1 : (k : Int) < (n : Int) := by omega
      clear hg HD HK HNX
      go_wp2_with (first | (go_at_call 68; refine (fieldMul_nat _ _ _ _ (by omega) (by omega) HG.out).mono ?_; rintro e w' ⟨rfl, rfl⟩))
      go_roundw
      case rel => exact ⟨k + 1, by go_num, by omega, HD1, HK1⟩
      case measure => simp [intOf]; omega
    · have hke : k = n := by omega
      have H1 := HD.out
      rw [hke] at H1
      have HD1 := Lib.hid H1
      clear H1 hke
      go_wp2_with fail
      all_goals
        (try simp only [Exit.inBlock, Exit.then])
        first | refine bodyPost_ret (results_none rfl _ _ _) rfl ?_ | refine bodyPost_end (results_none rfl _ _ _) rfl ?_
        exact ⟨rfl, HD1.out, HK.out⟩
end Go.Proofs.Ytibinkppbdeofaa
