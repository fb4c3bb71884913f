/- NamesVersions: the law's walk. -/
import Derived.Test.YtlkadlhncbgdbaaDoorNamH
import Derived.Test.YtlkadlhncbgdbaaDoorWNamesBytes
namespace Go.Proofs.YtlkadlhncbgdbaaDoor
open Go.ChangeShapes Go.WideShapes Go.ChangeAt Go.RowKit Go.Joins
set_option linter.unusedVariables false
set_option linter.unusedSimpArgs false

/-- So many letters a. -/
def manyA (k : Nat) : ByteArray := strL (List.replicate k 97)
theorem manyA_size (k : Nat) : (manyA k).size = k := by unfold manyA; rw [strL_size, List.length_replicate]
theorem manyA_next (k : Nat) : manyA k ++ ⟨#[97]⟩ = manyA (k + 1) := by
  unfold manyA
  rw [List.replicate_succ']
  apply ByteArray.ext
  apply Array.ext'
  simp [strL, ByteArray.data_append]
theorem longest_full : fullE (manyA 39) = 2 := by
  have h : nameOk (List.replicate 39 (97 : UInt8)) = true ∧ headL (List.replicate 39 (97 : UInt8)) = List.replicate 39 97 ∧ verOf (List.replicate 39 (97 : UInt8)) = latestL := by decide +kernel
  have e : (manyA 39).data.toList = List.replicate 39 97 := rfl
  have e2 : (wholeS (manyA 39)).size = 46 := by
    unfold wholeS
    rw [ByteArray.size_append, ByteArray.size_append]
    unfold nameA nameV
    rw [e, h.1, h.2.1, h.2.2]
    rfl
  unfold fullE
  rw [e, h.1, e2]
  rfl
theorem zac : (⟨#[97, 58]⟩ : ByteArray).size = 2 := rfl
theorem zacx : (⟨#[97, 58, 120]⟩ : ByteArray).size = 3 := rfl
theorem zx : (⟨#[120]⟩ : ByteArray).size = 1 := rfl
theorem zy : (⟨#[121]⟩ : ByteArray).size = 1 := rfl
theorem zaa : (⟨#[97, 97]⟩ : ByteArray).size = 2 := rfl

set_option maxRecDepth 100000 in
set_option maxHeartbeats 4000000 in
theorem namesVersions_walk (w : World) (vS : Value) (ss : List ByteArray) (hS : TextsIn w vS ss) (hm : MaxW w) :
    Calls Tryd.prog 4 #[.agg #[vS]] w fun e w' => e = .returned (.bool true) ∧ Below w.heap.size w w' := by
  have hF := box1_facts w vS 24
  have HM : Hid (∀ w', Below w.heap.size w w' → MaxW w') := fun w' hb => hm.below hb
  have HTX := Lib.hid hS
  obtain ⟨p, cap, rfl, _⟩ := hS
  clear hm
  go_enter Tryd.func4, Tryd.ntmps4
  go_wp2_with fail
  generalize w.alloc (Obj.cells #[.slice p ss.length cap] 24) = W at *
  obtain ⟨hbel, hc0, hsz⟩ := hF
  have HC0 := Lib.hid hc0
  have HSZ := Lib.hid hsz
  have HLE : w.heap.size ≤ W.heap.size := hbel.size
  have HT : Hid (∀ w', Below w.heap.size w w' → TextsIn w' (.slice p ss.length cap) ss) := fun w' hb => HTX.out.below hb
  clear hc0 hsz HTX
  generalize hB0 : w.heap.size = B0 at *
  go_loopw [3] (fun i wr => ∃ k : Nat, i = .int .i64 k ∧ k ≤ 256 ∧ Below W.heap.size W wr) (fun i _ => (256 - intOf i).toNat)
  case atStart => exact ⟨0, rfl, by omega, Below.refl _ _⟩
  case round =>
    obtain ⟨k, rfl, hk, hwr⟩ := hrel
    have HM2 : Hid (∀ w', Below W.heap.size W w' → MaxW w') := fun w' hb => HM.out w' (hbel.trans (hb.mono HLE))
    by_cases hlt : k < 256
    · have hw8 : IntKind.u8.wrap (k : Int) = (k : Int) := by rw [IntKind.wrap_u8]; omega
      have hcv := one_byte_text (wr.alloc (.cells #[.int .u8 (k : Int)] 5)) wr.heap.size k (by simp [go_sem])
      have hcum : Below W.heap.size W (wr.alloc (.cells #[.int .u8 (k : Int)] 5)) := hwr.alloc hwr.size _
      have hz : (strOf8 [k]).size = 1 := strOf8_size [k]
      generalize strOf8 [k] = u at *
      go_upto_region 5 with fail
      clear hcv
      generalize wr.alloc (.cells #[.int .u8 (k : Int)] 5) = V at *
      go_wp2_with (go_at_call 8; refine (same_any _ _ (by simp only [app_size, zac, zacx, zx, zy, hz]; omega) (HM2.out _ hcum)).mono ?_; rintro e wz ⟨rfl, hwz⟩; replace hcum := hcum.trans (hwz.mono hcum.size); clear hwz)
      go_roundw
      case rel => exact ⟨k + 1, by go_num, by omega, hcum⟩
      case measure => simp [intOf]; omega
    · clear HM2
      go_wp2_with fail
      go_loopw [5] (fun s wx => ∃ j : Nat, s = .string (manyA j) ∧ j ≤ 39 ∧ Below W.heap.size W wx) (fun s _ => match s with | .string t => 39 - t.size | _ => 0)
      case atStart => exact ⟨0, rfl, by omega, hwr⟩
      case round =>
        clear hwr
        obtain ⟨j, rfl, hj, hwr⟩ := hrel
        have hsz := manyA_size j
        by_cases hj9 : j < 39
        · have hnx := manyA_next j
          have hd : decide (((manyA j).size : Int) < 39) = true := by simp; omega
          go_wp2_with fail
          go_roundw
          case rel => exact ⟨j + 1, rfl, by omega, hwr⟩
          case measure => simp [manyA_size]; omega
        · obtain rfl : j = 39 := by omega
          have hd : decide (((manyA 39).size : Int) < 39) = false := by simp; omega
          have hfe := longest_full
          generalize manyA 39 = L at *
          have hcum := hwr
          have hbw : ∀ w', Below W.heap.size W w' → Below B0 w w' := fun w' h => hbel.trans (h.mono HLE)
          have HBW := Lib.hid hbw
          have hfield : ∀ w', Below W.heap.size W w' → w'.cell? ⟨B0, 0, none⟩ = some (.slice p ss.length cap) := fun w' h => below_celllt HC0.out (by have := HSZ.out; omega) h
          have HFI := Lib.hid hfield
          clear hbw hfield hwr
          go_wp2_with (first
            | (go_at_call 10; refine (full_any _ _ (by omega) (HM.out _ (HBW.out _ hcum))).mono ?_; rintro e wz ⟨rfl, hwz⟩; replace hcum := hcum.trans (hwz.mono hcum.size); clear hwz; rw [hfe])
            | (go_at_call 8; refine (same_any _ _ (by simp only [app_size, z97, zaa, hsz]; omega) (HM.out _ (HBW.out _ hcum))).mono ?_; rintro e wz ⟨rfl, hwz⟩; replace hcum := hcum.trans (hwz.mono hcum.size); clear hwz; have hfld := HFI.out _ hcum)
            | (go_at_call 11; refine (num_any _ _ (by omega) (by omega)).mono ?_; rintro e wc ⟨rfl, rfl⟩)
            | (go_at_call 12; refine (texts_any _ ss _ (HT.out _ (HBW.out _ hcum))).mono ?_; rintro e wc ⟨r, _, hr, rfl, rfl⟩; have hr0 : decide (0 ≤ (r : Int)) = true := by simp)
            | (go_at_call 9; refine (wakes_any _ (HM.out _ (HBW.out _ hcum))).mono ?_; rintro e wz ⟨rfl, hwz⟩; replace hcum := hcum.trans (hwz.mono hcum.size); clear hwz))
          go_ret
          exact ⟨by first | rfl | simp, by have h := HBW.out _ hcum; rw [hB0]; exact h⟩
end Go.Proofs.YtlkadlhncbgdbaaDoor
