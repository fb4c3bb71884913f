/- CheckRuns, walked. -/
import Derived.Test.YtoebgfacmblibaaCheckR
import Derived.Test.YtoebgfacmblibaaStrs
import Derived.BigQuiet
import Derived.Deep.RegionWith
namespace Go.Proofs.Ytoebgfacmblibaa
open Go.ChangeShapes Go.WideShapes Go.ChangeAt Go.RowKit Go.Joins
set_option linter.unusedVariables false
set_option linter.unusedSimpArgs false

theorem hmk8 {n : Nat} (hn : n ≤ 100000) : ∀ w, (Instr.makeSlice 28 (.int .i64 (n : Int)) (.int .i64 (n : Int))).run Try.prog w = .ok (.slice (some ⟨w.heap.size, 0, none⟩) n n) (w.alloc (.cells (cellsOf8 (List.replicate n 0)) 5)) := by
  intro w
  have hi : ∃ i, Try.prog.info? 5 = some i ∧ i.zero = some (.int .u8 0) ∧ i.size = 1 ∧ i.bytes = 1 := by
    have h : (Try.prog.info? 5).map (fun i => (i.zero, i.size, i.bytes)) = some (some (.int .u8 0), 1, 1) := by kernel_rfl
    obtain ⟨i0, h1, h2, h3, h4⟩ := info_parts h
    exact ⟨i0, h1, h2, h3, h4⟩
  obtain ⟨i, h1, h2, h3, h4⟩ := hi
  have hr := run_make (P := Try.prog) w 28 5 i _ Try.underlying28 h1 h2 .i64 .i64 (n : Int) (n : Int) (by omega) (by omega) (by rw [h4]; omega) (by omega)
  rw [hr]
  have e : madeCells (Value.int .u8 0).cells ((n : Int).toNat * i.size) = cellsOf8 (List.replicate n 0) := by
    rw [h3, Int.toNat_natCast, Nat.mul_one]
    apply Array.ext
    · simp [madeCells, cellsOf8]
    · intro j h1 h2
      simp [madeCells, Value.cells, cellsOf8, Nat.mod_one]
  rw [e, Int.toNat_natCast]

set_option maxRecDepth 100000 in
set_option maxHeartbeats 8000000 in
theorem checkRuns_walk (w : World) (vS : Value) (ss : List ByteArray) (hS : TextsIn w vS ss) :
    Calls Try.prog 4 #[.agg #[vS]] w fun e w' => e = .returned (.bool true) ∧ Below w.heap.size w w' := by
  have hF := box1_facts w vS 24
  have HT := Lib.hid (hS.below hF.1)
  go_enter Try.func4, Try.ntmps4
  go_wp2_with fail
  generalize w.alloc (Obj.cells #[vS] 24) = W at *
  obtain ⟨hbel, hc0, hsz⟩ := hF
  have HC0 := Lib.hid hc0
  have HSZ := Lib.hid hsz
  clear hc0 hsz
  go_loopw [3] (fun i wr => ∃ k : Nat, i = .int .i64 k ∧ k ≤ 260 ∧ Below W.heap.size W wr) (fun i _ => (260 - intOf i).toNat)
  case atStart => exact ⟨0, rfl, by omega, Below.refl _ _⟩
  case round =>
    obtain ⟨k, rfl, hk, hwr⟩ := hrel
    by_cases hlt : k < 260
    · have hmk := hmk8 (n := k) (by omega)
      have hb1 : Below W.heap.size W (wr.alloc (.cells (cellsOf8 (List.replicate k 0)) 5)) := hwr.alloc hwr.size _
      have hcv := convert_bytes (P := Try.prog) (w := wr.alloc (.cells (cellsOf8 (List.replicate k 0)) 5)) (b := wr.heap.size) (off := 0) (cap := k) (ns := List.replicate k 0) Try.underlying28 Try.underlying5 Try.underlying9 (cells8_cell (heap_alloc_new wr _))
      rw [List.length_replicate] at hcv
      have hz1 := strOf8_size (List.replicate k 0)
      rw [List.length_replicate] at hz1
      go_wp2_with fail
      clear hmk hcv
      have hsz1 : (strOf8 (List.replicate k 0)).size ≤ maxLen := by rw [hz1]; unfold maxLen; omega
      generalize strOf8 (List.replicate k 0) = t at *
      generalize wr.alloc (.cells (cellsOf8 (List.replicate k 0)) 5) = V at *
      have hVs := hb1.size
      have HS1 := Lib.hid hsz1
      clear hsz1 hz1
      have hw8 : IntKind.u8.wrap (k : Int) = ((k % 256 : Nat) : Int) := by rw [IntKind.wrap_u8]; omega
      generalize k % 256 = m at *
      have hcv1 : ∀ (W' : World) (B : Nat), W'.cell? ⟨B, 0, none⟩ = some (.int .u8 (m : Int)) → (convert 28 9 (.slice (some ⟨B, 0, none⟩) 1 1)).run Try.prog W' = .ok (.string (strOf8 [m])) W' := by
        intro W' B h
        exact convert_bytes (P := Try.prog) (ns := [m]) Try.underlying28 Try.underlying5 Try.underlying9 (fun i hi => by
          obtain rfl : i = 0 := by simp at hi; exact hi
          exact h)
      have hz2 : Hid ((strOf8 [m]).size ≤ maxLen) := by rw [Hid, strOf8_size]; unfold maxLen; simp
      generalize strOf8 [m] = u at *
      go_region_with (first
        | (go_at_call 8; refine (of_any _ _ (by first | exact HS1.out | exact hz2.out)).mono ?_; rintro e w' ⟨rfl, rfl⟩)
        | (go_at_call 10; refine (sum_any _ _ _ (by omega) (by omega) (by first | exact HS1.out | exact hz2.out)).mono ?_; rintro e w' ⟨rfl, rfl⟩))
      all_goals
        go_wp2_with fail
        go_roundw
        case rel => exact ⟨k + 1, by go_num, by omega, by go_grown⟩
        case measure => simp [intOf]; omega
    · have hc0 := below_box HC0 HSZ hwr
      have HT2 := Lib.hid (HT.out.below hwr)
      obtain ⟨p, cap, rfl, h16, hs, hSl⟩ := hS
      clear hs hSl
      go_wp2_with fail
      refine (texts_any _ ss _ HT2.out).mono ?_
      rintro e w' ⟨r, hr, hr2, rfl, rfl⟩
      clear hr
      have hge : decide ((0 : Int) ≤ (r : Int)) = true := by simp
      go_wp2_with (go_at_call 9; refine (wakes9_any _).mono ?_; rintro e w' ⟨rfl, rfl⟩)
      all_goals
        go_ret
        exact ⟨rfl, hbel.trans (hwr.mono hbel.size)⟩
end Go.Proofs.Ytoebgfacmblibaa
