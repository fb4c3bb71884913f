/- Lanes scaled and added: what the page says, plainly; the page's way, walked. -/
import Derived.Test.YtibinkppbdeofaaLaneC
namespace Go.Proofs.Ytibinkppbdeofaa
open Go.ChangeShapes Go.WideShapes Go.ChangeAt Go.RowKit Go.Joins
set_option linter.unusedVariables false
set_option linter.unusedSimpArgs false

/-- A row of which k were done. -/
def partL (n : Nat) (f g : Nat → Nat) (k : Nat) : List Nat := (List.range n).map fun j => if j < k then f j else g j
theorem partL_length (n : Nat) (f g : Nat → Nat) (k : Nat) : (partL n f g k).length = n := by simp [partL]
theorem partL_zero (n : Nat) (f g : Nat → Nat) : partL n f g 0 = (List.range n).map g := by
  unfold partL
  apply List.map_congr_left
  intro j hj
  rw [if_neg (by omega)]
theorem partL_all (n : Nat) (f g : Nat → Nat) : partL n f g n = (List.range n).map f := by
  unfold partL
  apply List.map_congr_left
  intro j hj
  rw [if_pos (List.mem_range.1 hj)]
theorem partL_succ (n : Nat) (f g : Nat → Nat) (k : Nat) : partL n f g (k + 1) = (partL n f g k).set k (f k) := by
  apply List.ext_getElem
  · simp [partL]
  · intro j h1 h2
    by_cases e : k = j
    · subst e
      rw [List.getElem_set_self]
      simp only [partL, List.getElem_map, List.getElem_range]
      rw [if_pos (by omega)]
    · rw [List.getElem_set_ne e]
      simp only [partL, List.getElem_map, List.getElem_range, show j < k + 1 ↔ j < k by omega]
theorem partL_get (n : Nat) (f g : Nat → Nat) {k : Nat} (h : k < n) : (partL n f g k).getD k 0 = g k := by simp [partL, List.getD, h]
theorem bytesOf_range (s : ByteArray) : bytesOf s = (List.range s.size).map (byN s) := by
  apply List.ext_getElem
  · simp [bytesOf_length]
  · intro j h1 h2
    rw [List.getElem_map, List.getElem_range, ← bytesOf_get, ← List.getElem_eq_getD (h := h1)]

def scaledS (a : ByteArray) (c : Nat) : ByteArray := strOf8 ((List.range a.size).map fun i => Gf.mul (byN a i) c)
def addedS (a b : ByteArray) : ByteArray := strOf8 ((List.range a.size).map fun i => byN a i ^^^ byN b i)
def mixS (a b : ByteArray) (c : Nat) : ByteArray := strOf8 ((List.range a.size).map fun i => byN a i ^^^ Gf.mul (byN b i) c)
theorem scaledS_size (a : ByteArray) (c : Nat) : (scaledS a c).size = a.size := by rw [scaledS, strOf8_size]; simp
theorem addedS_size (a b : ByteArray) : (addedS a b).size = a.size := by rw [addedS, strOf8_size]; simp
theorem mixS_size (a b : ByteArray) (c : Nat) : (mixS a b c).size = a.size := by rw [mixS, strOf8_size]; simp
theorem byN_strOf8 {n : Nat} {f : Nat → Nat} {i : Nat} (hi : i < n) (hf : f i < 256) : byN (strOf8 ((List.range n).map f)) i = f i := by
  simp [byN, strOf8, List.getD, hi]
  omega
theorem mixS_scaled (a b : ByteArray) (c : Nat) (h : a.size ≤ b.size) : addedS a (scaledS b c) = mixS a b c := by
  unfold addedS mixS
  congr 1
  apply List.map_congr_left
  intro i hi
  have := List.mem_range.1 hi
  rw [scaledS, byN_strOf8 (f := fun i => Gf.mul (byN b i) c) (by omega) (Gf.mul_lt c (byN_lt b i))]
theorem intoL_mix (a b : ByteArray) (c : Nat) : strOf8 (intoL b c 0 a.size (bytesOf a)) = mixS a b c := by
  unfold mixS
  congr 1
  apply List.ext_getElem
  · simp [intoL_length, bytesOf_length]
  · intro j h1 h2
    have hj : j < a.size := by simpa using h2
    have := intoL_get b c 0 a.size (bytesOf a) j hj (by rw [bytesOf_length]; omega)
    rw [Nat.zero_add] at this
    rw [List.getElem_map, List.getElem_range, List.getElem_eq_getD (fallback := 0), this, bytesOf_get]

theorem refMul_nat (a b g : Nat) (w : World) (ha : a < 256) (hb : b < 256) (hg : Gf.mul a b = g) :
    Calls Try.prog 43 #[.int .u8 (a : Int), .int .u8 (b : Int)] w fun e w' => e = .returned (.int .u8 (g : Int)) ∧ w = w' := by
  have h := refMul_any (a : Int) (b : Int) w (by omega) (by omega) (by omega) (by omega)
  rw [gm_nat, hg] at h
  exact h

set_option maxRecDepth 100000 in
set_option maxHeartbeats 1000000 in
theorem refScaled_any (a : ByteArray) (c : Nat) (w : World) (ha : a.size ≤ 100000) (hc : c < 256) :
    Calls Try.prog 55 #[.string a, .int .u8 (c : Int)] w fun e w' => e = .returned (.string (scaledS a c)) ∧ Below w.heap.size w w' := by
  have hcv : ∀ w', (convert 9 28 (.string a)).run Try.prog w' = .ok (.slice (some ⟨w'.heap.size, 0, none⟩) a.size (grownCap w' a.size 0 5)) (Lib.bytesWorld w' 5 a) := fun w' => Lib.run_convert_string_bytes w' 9 28 5 a Try.underlying9 Try.underlying28 Try.underlying5
  go_enter Try.func55, Try.ntmps55
  go_wp2_with fail
  clear hcv
  have HD0 : Hid (BytesBlk (Lib.bytesWorld w 5 a) w.heap.size (partL a.size (fun i => Gf.mul (byN a i) c) (byN a) 0)) := by
    rw [Hid, partL_zero, ← bytesOf_range]; exact bytesBlk_of w _ a
  have HB0 := Lib.hid (bytesWorld_below w 5 a)
  generalize Lib.bytesWorld w 5 a = V at *
  generalize grownCap w a.size 0 5 = cp at *
  go_loopw [6] (fun i wr => ∃ k : Nat, i = .int .i64 k ∧ k ≤ a.size ∧ Hid (BytesBlk wr w.heap.size (partL a.size (fun i => Gf.mul (byN a i) c) (byN a) k)) ∧ Hid (Below w.heap.size w wr)) (fun i _ => a.size - (intOf i).toNat)
  case atStart => exact ⟨0, rfl, by omega, HD0, HB0⟩
  case round =>
    clear HD0 HB0
    obtain ⟨k, rfl, hk, HD, HB⟩ := hrel
    by_cases hlt : k < a.size
    · obtain ⟨c1, c2, c3⟩ := HD.out k (by rw [partL_length]; exact hlt)
      rw [partL_get _ _ _ hlt] at c1 c2
      obtain ⟨g, hg⟩ : ∃ g, Gf.mul (byN a k) c = g := ⟨_, rfl⟩
      have hg256 : g < 256 := by rw [← hg]; exact Gf.mul_lt c c1
      have HD1 : Hid (BytesBlk (wr.setCell ⟨w.heap.size, k, none⟩ (.int .u8 (g : Int))) w.heap.size (partL a.size (fun i => Gf.mul (byN a i) c) (byN a) (k + 1))) := by
        rw [Hid, partL_succ, hg]; exact HD.out.next hg256
      have HB1 := Lib.hid (HB.out.setCell (p := ⟨w.heap.size, k, none⟩) (Nat.le_refl _) (.int .u8 (g : Int)))
      have HG := Lib.hid hg
      clear hg
      generalize byN a k = x at c1 c2 HG
      have i0 : (0 : Int) ≤ (k : Int) := by omega
      have i1 : (k : Int) < (a.size : Int) := by omega
      go_wp2_with (first | (go_at_call 43; refine (refMul_nat _ _ _ _ (by omega) (by omega) HG.out).mono ?_; rintro e w' ⟨rfl, rfl⟩))
      go_roundw
      case rel => exact ⟨k + 1, by go_num, by omega, HD1, HB1⟩
      case measure => simp [intOf]; omega
    · have hke : k = a.size := by omega
      have hd2 := HD.out
      rw [hke] at hd2
      have hcv2 := convert_bytes (P := Try.prog) (w := wr) (b := w.heap.size) (off := 0) (cap := cp) (ns := partL a.size (fun i => Gf.mul (byN a i) c) (byN a) a.size) Try.underlying28 Try.underlying5 Try.underlying9 (BytesBlk.cells hd2)
      rw [partL_length, partL_all, show strOf8 ((List.range a.size).map fun i => Gf.mul (byN a i) c) = scaledS a c from rfl] at hcv2
      clear hke hd2
      go_wp2_with fail
      go_ret
      exact ⟨rfl, HB.out⟩
end Go.Proofs.Ytibinkppbdeofaa
