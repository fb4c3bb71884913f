/- LaneBytes, walked. -/
import Derived.Test.YtdbdpdeehfeaiaaLaneM
namespace Go.Proofs.Ytdbdpdeehfeaiaa
open Go.ChangeShapes Go.WideShapes Go.ChangeAt Go.RowKit Go.Joins
set_option linter.unusedVariables false
set_option linter.unusedSimpArgs false

theorem cum2 {W a b : World} (h : Below W.heap.size W a) (hb : Below a.heap.size a b) : Below W.heap.size W b := h.trans (hb.mono h.size)
theorem refl_zeros (n : Nat) : (List.range n).map (fun _ => 0) = List.replicate n 0 := by
  apply List.ext_getElem
  · simp
  · intro j h1 h2; simp
/-- All bytes in a row. -/
def allS : ByteArray := strOf8 ((List.range 256).map fun i => i)
theorem allS_size : allS.size = 256 := by rw [allS, strOf8_size]; simp
theorem allS_get {i : Nat} (h : i < 256) : byN allS i = i := by rw [allS, byN_strOf8 (f := fun i => i) h h]
theorem one_get (c : Nat) (h : c < 256) : byN (strOf8 [c]) 0 = c := by
  have := byN_strOf8 (n := 1) (f := fun _ => c) (i := 0) (by omega) h
  exact this
theorem all_scaled (c : Nat) : ∃ x : ByteArray, scaledS allS c = x ∧ x.size = 256 ∧ ∀ i, i < 256 → byN x i = Gf.mul i c :=
  ⟨_, rfl, by rw [scaledS_size, allS_size], fun i hi => by rw [byN_scaled _ _ (by rw [allS_size]; exact hi), allS_get hi]⟩
/-- What a lane of one byte is scaled to. -/
theorem bytes_facts (x : ByteArray) (c : Nat) (hc : c < 256) (hx : ∀ i, i < 256 → byN x i = Gf.mul i c) (i : Nat) (hi : i < 256) : ∃ (y : ByteArray) (g : Nat), y.size = 1 ∧ (∀ h : 0 < y.size, (y[0]'h).toNat = g) ∧ (∀ h : i < x.size, (x[i]'h).toNat = g) ∧
    (∀ W, Calls Try.prog 8 #[.string (strOf8 [c]), .int .u8 (i : Int)] W fun e w' => e = .returned (.tuple #[.string y, .int .i64 0]) ∧ Below W.heap.size W w') := by
  have h1 : (strOf8 [c]).size = 1 := by rw [strOf8_size]; rfl
  refine ⟨scaledS (strOf8 [c]) i, Gf.mul c i, by rw [scaledS_size, h1], fun h => ?_, fun h => ?_, fun W => scale_yes _ i W (by omega) hi⟩
  · rw [← byN_eq h, byN_scaled _ _ (by omega), one_get c hc]
  · rw [← byN_eq h, hx i hi, Gf.mul_comm hi hc]

set_option maxRecDepth 100000 in
set_option maxHeartbeats 2000000 in
theorem laneBytes_walk (w : World) (vL : Value) (C N : Int) (hC : 0 ≤ C ∧ C ≤ 255) :
    Calls Try.prog 3 #[.agg #[vL, .int .u8 C, .int .i64 N]] w fun e w' => e = .returned (.bool true) ∧ Below w.heap.size w w' := by
  obtain ⟨c, rfl⟩ : ∃ c : Nat, C = (c : Int) := ⟨C.toNat, by omega⟩
  have hc : c < 256 := by omega
  obtain ⟨hbel, hc0, hc1, hc2, hsz⟩ := box3_facts2 w vL (.int .u8 (c : Int)) (.int .i64 N) 24
  have hmk : ∀ w, (Instr.makeSlice 25 (.int .i64 256) (.int .i64 256)).run Try.prog w = .ok (.slice (some ⟨w.heap.size, 0, none⟩) 256 256) (w.alloc (.cells (cellsOf8 (List.replicate 256 0)) 5)) := hmk8 (n := 256) (by omega)
  obtain ⟨CC, hCC⟩ : ∃ CC, CC = cellsOf8 (List.replicate 256 0) := ⟨_, rfl⟩
  rw [← hCC] at hmk
  have HCC := Lib.hid hCC
  clear hCC
  go_enter Try.func3, Try.ntmps3
  generalize hW0 : w.alloc (.cells #[vL, .int .u8 (c : Int), .int .i64 N] 24) = W0 at *
  have hlt1 : w.heap.size < W0.heap.size := by rw [hsz]; omega
  clear hsz
  go_wp2_with fail
  have HB0 : Hid (Below W0.heap.size W0 (W0.alloc (.cells CC 5))) := Lib.hid ((Below.refl _ _).alloc (Nat.le_refl _) _)
  have HD0 : Hid (BytesBlk (W0.alloc (.cells CC 5)) W0.heap.size (partL 256 (fun i => i) (fun _ => 0) 0)) := by rw [HCC.out, partL_zero, refl_zeros]; exact bytesBlk_new W0 (ns := List.replicate 256 0) rfl _ (by simp)
  clear hmk HCC hc0 hc2 hW0
  generalize W0.alloc (.cells CC 5) = W1 at *
  generalize hB0 : w.heap.size = B0 at hc1 hlt1
  go_loopw [4] (fun i wr => ∃ k : Nat, i = .int .i64 k ∧ k ≤ 256 ∧ Hid (BytesBlk wr W0.heap.size (partL 256 (fun i => i) (fun _ => 0) k)) ∧ Hid (Below W0.heap.size W0 wr)) (fun i _ => 256 - (intOf i).toNat)
  case atStart => exact ⟨0, rfl, by omega, HD0, HB0⟩
  case round =>
    clear HD0 HB0
    obtain ⟨k, rfl, hk, HD, HB⟩ := hrel
    by_cases hlt : k < 256
    · have hkd : decide ((k : Int) < 256) = true := by simp; omega
      obtain ⟨_, c2, c3⟩ := HD.out k (by rw [partL_length]; exact hlt)
      generalize (partL 256 (fun i => i) (fun _ => 0) k).getD k 0 = old at c2
      have HD1 : Hid (BytesBlk (wr.setCell ⟨W0.heap.size, k, none⟩ (.int .u8 (k : Int))) W0.heap.size (partL 256 (fun i => i) (fun _ => 0) (k + 1))) := by
        rw [Hid, partL_succ]; exact HD.out.next hlt
      have HB1 := Lib.hid (HB.out.setCell (p := ⟨W0.heap.size, k, none⟩) (Nat.le_refl _) (.int .u8 (k : Int)))
      have ew : IntKind.u8.wrap (k : Int) = (k : Int) := IntWalk.u8_in _ (by omega)
      have em : (k : Int) % 256 = (k : Int) := by omega
      have i0 : (0 : Int) ≤ (k : Int) := by omega
      have i1 : (k : Int) < 256 := by omega
      clear HD HB
      go_wp2_with fail
      go_roundw
      case rel => exact ⟨k + 1, by go_num, by omega, HD1, HB1⟩
      case measure => simp [intOf]; omega
    · have hkd : decide ((k : Int) < 256) = false := by simp; omega
      have hke : k = 256 := by omega
      have hd2 := HD.out
      rw [hke] at hd2
      have hcv2 := convert_bytes (P := Try.prog) (w := wr) (b := W0.heap.size) (off := 0) (cap := 256) (ns := partL 256 (fun i => i) (fun _ => 0) 256) Try.underlying25 Try.underlying5 Try.underlying9 (BytesBlk.cells hd2)
      rw [partL_length, partL_all, show strOf8 ((List.range 256).map fun i => i) = allS from rfl] at hcv2
      have e1 := below_celllt hc1 hlt1 HB.out
      have hcum := HB.out
      clear hke hd2 HD HB
      obtain ⟨wq, rfl⟩ : ∃ wq : World, wq = wr := ⟨_, rfl⟩
      go_wp2_with fail
      refine (scale_yes allS c _ (by rw [allS_size]; omega) hc).mono ?_
      rintro e w2 ⟨rfl, hb2⟩
      have hcum := cum2 hcum hb2
      obtain ⟨x, hxx, hxs, hxb⟩ := all_scaled c
      rw [hxx]
      have HF := Lib.hid (bytes_facts x c hc hxb)
      clear hxx hxb
      have hxn : ((x.size : Int) != 256) = false := by rw [hxs]; rfl
      clear hb2 e1 hcv2
      go_wp2_with (go_at_call 9; refine (num2_any _ _).mono ?_; rintro e w' ⟨rfl, rfl⟩)
      go_loopw [7] (fun i wr => ∃ k : Nat, i = .int .i64 k ∧ k ≤ 256 ∧ Below W0.heap.size W0 wr) (fun i _ => 256 - (intOf i).toNat)
      case atStart => exact ⟨0, rfl, by omega, hcum⟩
      case round =>
        clear hcum
        obtain ⟨k, rfl, hk, hcum⟩ := hrel
        by_cases hlt : k < 256
        · have hkd : decide ((k : Int) < 256) = true := by simp; omega
          obtain ⟨y, g, hy1, hyg, hxg, hS⟩ := HF.out k hlt
          have HS := Lib.hid hS
          have e1 := below_celllt hc1 hlt1 hcum
          have ew : IntKind.u8.wrap (k : Int) = (k : Int) := IntWalk.u8_in _ (by omega)
          have em : (k : Int) % 256 = (k : Int) := by omega
          have i0 : (0 : Int) ≤ (k : Int) := by omega
          have i1 : (k : Int) < (x.size : Int) := by omega
          have i2 : (0 : Int) < (y.size : Int) := by omega
          have hyn : ((y.size : Int) != 1) = false := by rw [hy1]; rfl
          have hcl : (wr.alloc (.cells #[.int .u8 (c : Int)] 5)).cell? ⟨wr.heap.size, 0, none⟩ = some (.int .u8 (c : Int)) := by simp [go_sem]
          have hcv := convert_bytes (P := Try.prog) (w := wr.alloc (.cells #[.int .u8 (c : Int)] 5)) (b := wr.heap.size) (off := 0) (cap := 1) (ns := [c]) Try.underlying25 Try.underlying5 Try.underlying9 (fun i hi => by
            obtain rfl : i = 0 := by simp at hi; exact hi
            exact hcl)
          clear hcl
          have hcv : (convert 25 9 (.slice (some ⟨wr.heap.size, 0, none⟩) 1 1)).run Try.prog (wr.alloc (.cells #[.int .u8 (c : Int)] 5)) = .ok (.string (strOf8 [c])) (wr.alloc (.cells #[.int .u8 (c : Int)] 5)) := hcv
          have hcum := hcum.alloc hcum.size (.cells #[.int .u8 (c : Int)] 5)
          clear hS
          generalize strOf8 [c] = u at *
          go_wp2_with fail
          refine (HS.out _).mono ?_
          rintro e w3 ⟨rfl, hb3⟩
          have hcum := cum2 hcum hb3
          clear hb3 e1 hcv
          go_wp2_with (go_at_call 9; refine (num2_any _ _).mono ?_; rintro e w' ⟨rfl, rfl⟩)
          go_quiet (first | (go_at_call 9; exact quiet_left (num2_any _ _)))
          all_goals
            go_wp2_with fail
            go_roundw
            case rel => exact ⟨k + 1, by go_num, by omega, below_drewN hcum _⟩
            case measure => simp [intOf]; omega
        · have hkd : decide ((k : Int) < 256) = false := by simp; omega
          go_wp2_with fail
          refine (wakes2_any _).mono ?_
          rintro e w5 ⟨rfl, hb4⟩
          have hx := hcum.trans (hb4.mono hcum.size)
          have hx2 := hbel.trans (hx.mono hbel.size)
          clear hb4
          go_wp2_with fail
          go_ret
          exact ⟨rfl, hx2⟩
end Go.Proofs.Ytdbdpdeehfeaiaa
