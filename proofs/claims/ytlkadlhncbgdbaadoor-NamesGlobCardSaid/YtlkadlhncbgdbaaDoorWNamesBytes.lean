/- NamesBytes: the law's walk. -/
import Derived.Test.YtlkadlhncbgdbaaDoorNamG
import Derived.Test.YtlkadlhncbgdbaaDoorAsk6
import Derived.Test.YtlkadlhncbgdbaaDoorStrs
namespace Go.Proofs.YtlkadlhncbgdbaaDoor
open Go.ChangeShapes Go.WideShapes Go.ChangeAt Go.RowKit Go.Joins
set_option linter.unusedVariables false
set_option linter.unusedSimpArgs false

theorem one_byte_text (W' : World) (B c : Nat) (h : W'.cell? ⟨B, 0, none⟩ = some (.int .u8 (c : Int))) :
    (convert 25 9 (.slice (some ⟨B, 0, none⟩) 1 1)).run Tryd.prog W' = .ok (.string (strOf8 [c])) W' :=
  convert_bytes (P := Tryd.prog) (ns := [c]) Tryd.underlying25 Tryd.underlying5 Tryd.underlying9 (fun i hi => by
    obtain rfl : i = 0 := by simp at hi; exact hi
    exact h)
theorem app_size (a b : ByteArray) : (a ++ b).size = a.size + b.size := ByteArray.size_append
theorem z97 : (⟨#[97]⟩ : ByteArray).size = 1 := rfl
theorem z98 : (⟨#[98]⟩ : ByteArray).size = 1 := rfl
theorem zab : (⟨#[97, 47, 98]⟩ : ByteArray).size = 3 := rfl
theorem zcd : (⟨#[99, 47, 100]⟩ : ByteArray).size = 3 := rfl
theorem zbv : (⟨#[98, 58, 118]⟩ : ByteArray).size = 3 := rfl

set_option maxRecDepth 100000 in
set_option maxHeartbeats 4000000 in
theorem namesBytes_walk (w : World) (vS : Value) (ss : List ByteArray) (hS : TextsIn w vS ss) (hm : MaxW w) :
    Calls Tryd.prog 3 #[.agg #[vS]] w fun e w' => e = .returned (.bool true) ∧ Below w.heap.size w w' := by
  have hF := box1_facts w vS 24
  have HM : Hid (∀ w', Below w.heap.size w w' → MaxW w') := fun w' hb => hm.below hb
  obtain ⟨p, cap, rfl, _⟩ := hS
  clear hm
  go_enter Tryd.func3, Tryd.ntmps3
  go_wp2_with fail
  generalize w.alloc (Obj.cells #[.slice p ss.length cap] 24) = W at *
  obtain ⟨hbel, hc0, hsz⟩ := hF
  have HC0 := Lib.hid hc0
  have HSZ := Lib.hid hsz
  have HLE : w.heap.size ≤ W.heap.size := hbel.size
  clear hc0 hsz
  generalize hB0 : w.heap.size = B0 at *
  go_loopw [3] (fun i wr => ∃ k : Nat, i = .int .i64 k ∧ k ≤ 256 ∧ Below W.heap.size W wr) (fun i _ => (256 - intOf i).toNat)
  case atStart => exact ⟨0, rfl, by omega, Below.refl _ _⟩
  case round =>
    obtain ⟨k, rfl, hk, hwr⟩ := hrel
    by_cases hlt : k < 256
    · have hw8 : IntKind.u8.wrap (k : Int) = (k : Int) := by rw [IntKind.wrap_u8]; omega
      have hcv := one_byte_text (wr.alloc (.cells #[.int .u8 (k : Int)] 5)) wr.heap.size k (by simp [go_sem])
      have hcum : Below W.heap.size W (wr.alloc (.cells #[.int .u8 (k : Int)] 5)) := hwr.alloc hwr.size _
      have hz : (strOf8 [k]).size = 1 := strOf8_size [k]
      generalize strOf8 [k] = u at *
      have HM2 : Hid (∀ w', Below W.heap.size W w' → MaxW w') := fun w' hb => HM.out w' (hbel.trans (hb.mono HLE))
      go_upto_region 5 with fail
      clear hcv
      generalize wr.alloc (.cells #[.int .u8 (k : Int)] 5) = V at *
      go_wp2_with (go_at_call 8; refine (same_any _ _ (by simp only [app_size, z97, z98, zab, zcd, zbv, hz]; omega) (HM2.out _ hcum)).mono ?_; rintro e wz ⟨rfl, hwz⟩; replace hcum := hcum.trans (hwz.mono hcum.size); clear hwz)
      go_roundw
      case rel => exact ⟨k + 1, by go_num, by omega, hcum⟩
      case measure => simp [intOf]; omega
    · have hc1 := below_celllt HC0.out (by have := HSZ.out; omega) hwr
      have hbw := hbel.trans (hwr.mono HLE)
      go_wp2_with (go_at_call 9; refine (wakes_any _ (HM.out _ hbw)).mono ?_; rintro e wz ⟨rfl, hwz⟩)
      go_ret
      exact ⟨by first | rfl | simp, by have h2 := hbw.size; have h := hbw.trans (hwz.mono (by omega)); rw [hB0]; exact h⟩
end Go.Proofs.YtlkadlhncbgdbaaDoor
