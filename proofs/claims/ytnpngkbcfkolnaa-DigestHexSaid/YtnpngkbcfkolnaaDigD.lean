/- The reference's digest, walked. -/
import Derived.Test.YtnpngkbcfkolnaaDigB
import Derived.Test.YtnpngkbcfkolnaaDigW
namespace Go.Proofs.Ytnpngkbcfkolnaa
open Go.ChangeShapes Go.WideShapes Go.ChangeAt Go.RowKit Go.Joins
set_option linter.unusedVariables false
set_option linter.unusedSimpArgs false

theorem nb_eq {n k : Nat} (h1 : n ≤ 64 * k + 64) (h2 : k = 0 ∨ 64 * k < n) : k = nb n := by unfold nb; omega
theorem digestB_length (ws : List Int) : (digestB ws).length = 32 := by simp [digestB, wordBytes, List.range, List.range.loop]
/-- The bytes so far as i of them were laid. -/
def layB (ws : List Int) (b : List Nat) (i : Nat) : List Nat := b.set i ((ws.getD (i / 4) 0 / 2 ^ (8 * (i % 4)) % 256).toNat)
def laidB (ws : List Int) (k : Nat) : List Nat := (List.range k).foldl (layB ws) (List.replicate 32 0)
theorem laidB_length (ws : List Int) (k : Nat) : (laidB ws k).length = 32 := by
  induction k with
  | zero => simp [laidB]
  | succ k ih => rw [laidB, range_step, ← laidB, layB, List.length_set, ih]
theorem laidB_all (ws : List Int) : laidB ws 32 = digestB ws := by
  have e : ∀ f : Nat → Int, (List.range 32).foldl (fun b i => b.set i ((f (i / 4) / 2 ^ (8 * (i % 4)) % 256).toNat)) (List.replicate 32 0) = (List.range 8).flatMap fun i => wordBytes (f i) := by intro f; kernel_rfl
  exact e fun i => ws.getD i 0

theorem layB_next {wr : World} {Bb i q r : Nat} {ws : List Int} {x : Int} (h : BytesBlk wr Bb (laidB ws i)) (hq : i / 4 = q) (hr : i % 4 = r) (hx : ws.getD q 0 = x) (h0 : 0 ≤ x) (hi : i < 32) :
    Hid (BytesBlk (wr.setCell ⟨Bb, i, none⟩ (.int .u8 (x / 2 ^ (8 * r) % 256))) Bb (laidB ws (i + 1))) := by
  have hp : (0 : Int) < 2 ^ (8 * r) := Int.pow_pos (by omega)
  have h1 : 0 ≤ x / 2 ^ (8 * r) := Int.ediv_nonneg h0 (Int.le_of_lt hp)
  generalize hy : x / 2 ^ (8 * r) = y at *
  have e : (y % 256) = (((y % 256).toNat : Nat) : Int) := by omega
  rw [Hid, laidB, range_step, ← laidB, layB, hq, hr, hx, hy, e]
  rw [Int.toNat_natCast]
  exact h.next (by omega)

set_option maxRecDepth 100000 in
set_option maxHeartbeats 2000000 in
theorem refDigest_any (T : ByteArray) (w : World) (hT : T.size ≤ 1000000) :
    Calls Try.prog 10 #[.string T] w fun e w' => e = .returned (.string (digestS T)) ∧ Below w.heap.size w w' := by
  have hmk : ∀ w, (Instr.makeSlice 26 (.int .i64 32) (.int .i64 32)).run Try.prog w = .ok (.slice (some ⟨w.heap.size, 0, none⟩) 32 32) (w.alloc (.cells (cellsOf8 (List.replicate 32 0)) 5)) := hmk8 (n := 32) (by omega)
  obtain ⟨C, hC⟩ : ∃ C, C = cellsOf8 (List.replicate 32 0) := ⟨_, rfl⟩
  rw [← hC] at hmk
  have HCC := Lib.hid hC
  clear hC
  go_enter Try.func10, Try.ntmps10
  go_wp2_with (first | (go_at_call 26; refine (refBegins_lit _).mono ?_; rintro e W1 ⟨rfl, hb1⟩))
  have HC0 : Hid (CellsAt (W1.alloc (.cells #[.int .u32 (bits .xor .u32 1779033703 16842784), .int .u32 3144134277, .int .u32 1013904242, .int .u32 2773480762, .int .u32 1359893119, .int .u32 2600822924, .int .u32 528734635, .int .u32 1541459225] 45)) W1.heap.size 0 (u32s (midQ T 0))) := CellsAt.new _ _ _
  have HB0 : Hid (Below w.heap.size w (W1.alloc (.cells #[.int .u32 (bits .xor .u32 1779033703 16842784), .int .u32 3144134277, .int .u32 1013904242, .int .u32 2773480762, .int .u32 1359893119, .int .u32 2600822924, .int .u32 528734635, .int .u32 1541459225] 45))) := hb1.alloc hb1.size _
  have hle := hb1.size
  clear hb1
  generalize W1.alloc (.cells #[.int .u32 (bits .xor .u32 1779033703 16842784), .int .u32 3144134277, .int .u32 1013904242, .int .u32 2773480762, .int .u32 1359893119, .int .u32 2600822924, .int .u32 528734635, .int .u32 1541459225] 45) = W2 at *
  generalize W1.heap.size = Bh at *
  clear W1
  go_loopw [4] (fun i wr => ∃ k : Nat, i = .int .i64 (64 * (k : Int)) ∧ 64 * k ≤ T.size ∧ (k = 0 ∨ 64 * k < T.size) ∧ Hid (CellsAt wr Bh 0 (u32s (midQ T k))) ∧ Hid (Below w.heap.size w wr)) (fun i _ => T.size - (intOf i).toNat)
  case atStart => exact ⟨0, rfl, by omega, Or.inl rfl, HC0, HB0⟩
  case round =>
    clear HC0 HB0
    obtain ⟨k, rfl, hk, hk2, HC, HB⟩ := hrel
    have hlB : Bh < wr.heap.size := HC.out.1
    by_cases hlt : 64 < T.size - 64 * k
    · have hd : decide (64 < (T.size : Int) - 64 * (k : Int)) = true := by simp; omega
      have j1 : (0 : Int) ≤ 64 * (k : Int) := by omega
      have j2 : 64 * (k : Int) ≤ 64 * (k : Int) + 64 := by omega
      have j3 : 64 * (k : Int) + 64 ≤ (T.size : Int) := by omega
      have e1 : IntKind.u64.wrap (64 * (k : Int) + 64) = ((64 * k + 64 : Nat) : Int) := by rw [IntWalk.u64_in _ (by omega)]; omega
      have e2 : (64 * (k : Int)).toNat = 64 * k := by omega
      have e3 : (64 * (k : Int) + 64).toNat = 64 * k + 64 := by omega
      go_wp2_with fail
      refine (refBlock_any Bh (midQ T k) (T.extract (64 * k) (64 * k + 64)) (64 * k + 64) false _ HC.out (midQ_words T k) (by rw [ByteArray.size_extract]; omega) (by omega)).mono ?_
      rintro e W3 ⟨rfl, hc, hkp⟩
      rw [← midQ_succ] at hc
      have HC3 := Lib.hid hc
      have HB3 := Lib.hid (HB.out.trans (hkp.below HB.out.size (fun j hj e => by subst e; omega)))
      clear hc hkp HC HB
      go_wp2_with fail
      go_roundw
      case rel => exact ⟨k + 1, by go_num, by omega, Or.inr (by omega), HC3, HB3⟩
      case measure => simp [intOf]; omega
    · have hd : decide (64 < (T.size : Int) - 64 * (k : Int)) = false := by simp; omega
      have hkn := nb_eq (n := T.size) (k := k) (by omega) hk2
      have j1 : (0 : Int) ≤ 64 * (k : Int) := by omega
      have j2 : 64 * (k : Int) ≤ (T.size : Int) := by omega
      have e1 : IntKind.u64.wrap (T.size : Int) = (T.size : Int) := by rw [IntWalk.u64_in _ (by omega)]
      have e2 : (64 * (k : Int)).toNat = 64 * k := by omega
      have HN := Lib.hid hkn
      clear hkn
      go_wp2_with fail
      refine (refBlock_any Bh (midQ T k) (T.extract (64 * k) T.size) T.size true _ HC.out (midQ_words T k) (by rw [ByteArray.size_extract]; omega) (by omega)).mono ?_
      rintro e W3 ⟨rfl, hc, hkp⟩
      have hc' : CellsAt W3 Bh 0 (u32s (wordsOf T)) := by rw [wordsOf, ← HN.out]; exact hc
      have HC3 := Lib.hid hc'
      have HB3 := Lib.hid (HB.out.trans (hkp.below HB.out.size (fun j hj e => by subst e; omega)))
      clear hc hc' hkp HC HB HN
      have hlB3 : Bh < W3.heap.size := HC3.out.1
      go_wp2_with fail
      have HC4 := Lib.hid (HC3.out.alloc (.cells C 5))
      have HB4 := Lib.hid (HB3.out.alloc HB3.out.size (.cells C 5))
      have HD4 : Hid (BytesBlk (W3.alloc (.cells C 5)) W3.heap.size (laidB (wordsOf T) 0)) := by rw [HCC.out]; exact bytesBlk_new W3 (ns := List.replicate 32 0) rfl _ (by simp)
      have hl3 := HB3.out.size
      clear HC3 HB3
      generalize W3.alloc (.cells C 5) = W4 at *
      generalize W3.heap.size = Bb at *
      go_loopw [6] (fun i wr => ∃ k : Nat, i = .int .i64 k ∧ k ≤ 32 ∧ Hid (CellsAt wr Bh 0 (u32s (wordsOf T))) ∧ Hid (BytesBlk wr Bb (laidB (wordsOf T) k)) ∧ Hid (Below w.heap.size w wr)) (fun i _ => 32 - (intOf i).toNat)
      case atStart => exact ⟨0, rfl, by omega, HC4, HD4, HB4⟩
      case round =>
        clear HC4 HD4 HB4
        obtain ⟨i, rfl, hi, HC, HD, HB⟩ := hrel
        by_cases hi32 : i < 32
        · have hid : decide ((i : Int) < 32) = true := by simp; omega
          obtain ⟨q, hq⟩ : ∃ q : Nat, i / 4 = q := ⟨_, rfl⟩
          obtain ⟨r, hr⟩ : ∃ q : Nat, i % 4 = q := ⟨_, rfl⟩
          obtain ⟨m1, _⟩ := u32s_get HC.out ((wordsOf_words T).some (i := q) (by omega))
          have mb := (wordsOf_words T).get (i := q) (by omega)
          rw [Nat.zero_add] at m1
          generalize hx : (wordsOf T).getD q 0 = x at m1 mb
          obtain ⟨c1, c2, c3⟩ := HD.out i (by rw [laidB_length]; exact hi32)
          generalize (laidB (wordsOf T) i).getD i 0 = old at c1 c2
          have HX := Lib.hid hx
          have HQ := Lib.hid hq
          have HR := Lib.hid hr
          have i0 : (0 : Int) ≤ (i : Int) := by omega
          have i2 : (0 : Int) ≤ (q : Int) := by omega
          have i3 : (q : Int) < 8 := by omega
          have i4 : (0 : Int) ≤ (r : Int) := by omega
          have i5 : (r : Int) < 4 := by omega
          have e1 : (i : Int) / 4 = (q : Int) := by omega
          have e2 : (i : Int) % 4 = (r : Int) := by omega
          clear hx hq hr
          go_wp2_with fail
          go_roundw
          case rel => exact ⟨i + 1, by go_num, by omega, Lib.hid (HC.out.set_far (Or.inl (show Bb ≠ Bh by omega)) _), layB_next HD.out HQ.out HR.out HX.out mb.1 hi32, Lib.hid (HB.out.setCell (p := ⟨Bb, i, none⟩) (by show _ ≤ Bb; omega) _)⟩
          case measure => simp [intOf]; omega
        · have hie : i = 32 := by omega
          have hd2 := HD.out
          rw [hie, laidB_all] at hd2
          have hcv := convert_bytes (P := Try.prog) (w := wr) (b := Bb) (off := 0) (cap := 32) (ns := digestB (wordsOf T)) Try.underlying26 Try.underlying5 Try.underlying9 (BytesBlk.cells hd2)
          rw [digestB_length] at hcv
          clear hie hd2
          go_wp2_with fail
          go_ret
          exact ⟨rfl, HB.out⟩
end Go.Proofs.Ytnpngkbcfkolnaa
