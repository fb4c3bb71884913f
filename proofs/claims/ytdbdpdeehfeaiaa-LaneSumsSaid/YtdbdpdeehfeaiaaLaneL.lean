/- lane.Sum, walked. -/
import Derived.Test.YtdbdpdeehfeaiaaLaneK
namespace Go.Proofs.Ytdbdpdeehfeaiaa
open Go.ChangeShapes Go.WideShapes Go.ChangeAt Go.RowKit Go.Joins
set_option linter.unusedVariables false
set_option linter.unusedSimpArgs false

set_option maxRecDepth 100000 in
set_option maxHeartbeats 1000000 in
theorem sum_yes (v : Value) (L : List ByteArray) (w : World) (hS : Strs6 w v L) (hl : L.length ≤ 100000) (h0 : 0 < L.length) (h : mayN L = 0) :
    Calls Try.prog 18 #[v] w fun e w' => e = .returned (.tuple #[.string (sumS L), .int .i64 0]) ∧ Below w.heap.size w w' := by
  obtain ⟨A, cap, rfl⟩ := hS.shape
  have HR := Lib.hid hS
  have HA := Lib.hid (may_all h)
  have HM := Lib.hid h
  clear hS h
  go_enter Try.func18, Try.ntmps18
  go_wp2_with fail
  refine (may_any _ L _ HR.out hl).mono ?_
  rintro e w1 ⟨rfl, hb1⟩
  rw [HM.out]
  obtain ⟨b, o, rfl, hbl, hcell⟩ := (HR.out.below hb1).at_ h0
  rw [Nat.add_zero] at hcell
  obtain ⟨f, hf⟩ : ∃ f, f = L[0]'h0 := ⟨_, rfl⟩
  rw [← hf] at hcell
  have hff : (L.getD 0 ByteArray.empty).size = f.size := by rw [hf, ← List.getElem_eq_getD (h := h0)]
  obtain ⟨n, hn⟩ : ∃ n, n = f.size := ⟨_, rfl⟩
  have hn8 : n ≤ 8192 := by rw [hn, hf]; exact (HA.out _ (List.getElem_mem h0)).1
  have HN := Lib.hid (hff.trans hn.symm)
  have hmk := hmk8 (n := n) (by omega)
  obtain ⟨C, hC⟩ : ∃ C, C = cellsOf8 (List.replicate n 0) := ⟨_, rfl⟩
  rw [← hC] at hmk
  have HCC := Lib.hid hC
  have hd0 : ((L.length : Int) == 0) = false := beq_eq_false_iff_ne.2 (by omega)
  have i0 : (0 : Int) < (L.length : Int) := by omega
  rw [hn] at hmk
  clear hC hf hff
  go_wp2_with fail
  have HB0 := Lib.hid (hb1.alloc hb1.size (.cells C 5))
  have HD0 : Hid (BytesBlk (w1.alloc (.cells C 5)) w1.heap.size (sumL L n 0)) := by rw [HCC.out, sumL_zero]; exact bytesBlk_new w1 (ns := List.replicate n 0) rfl _ (by simp)
  have hlt9 : w1.heap.size < (w1.alloc (.cells C 5)).heap.size := by simp
  have hle := hb1.size
  rw [← hn]
  clear hmk HCC hcell hb1 hbl hn
  generalize w1.alloc (.cells C 5) = W2 at *
  generalize w1.heap.size = B at *
  go_loopw [26] (fun i wr => ∃ k : Nat, i = .int .i64 k ∧ k ≤ L.length ∧ B < wr.heap.size ∧ Hid (BytesBlk wr B (sumL L n k)) ∧ Hid (Below w.heap.size w wr)) (fun i _ => L.length - (intOf i).toNat)
  case atStart => exact ⟨0, rfl, by omega, hlt9, HD0, HB0⟩
  case round =>
    clear HD0 HB0 hlt9
    obtain ⟨k, rfl, hk, hBl, HD, HB⟩ := hrel
    by_cases hlt : k < L.length
    · obtain ⟨b', o', eA, _, hcell⟩ := (HR.out.below HB.out).at_ hlt
      cases eA
      have hsz := HA.out _ (List.getElem_mem hlt)
      rw [HN.out] at hsz
      have HS := Lib.hid (sumL_succ (n := n) hlt)
      generalize L[k]'hlt = s at *
      have i1 : (0 : Int) ≤ (k : Int) := by omega
      have i2 : (k : Int) < (L.length : Int) := by omega
      have hln := sumL_length (n := n) k (by omega)
      go_wp2_with fail
      refine (into_any B 0 n n (sumL L n k) s 1 _ HD.out hBl (by rw [hln]; omega) (by rw [hln]; omega) (by omega) (by omega) (by decide)).mono ?_
      rintro e W3 ⟨rfl, hd, hkk⟩
      rw [← HS.out] at hd
      have HD3 := Lib.hid hd
      have HB3 := Lib.hid (HB.out.trans (hkk.below HB.out.size (fun j hj e => by subst e; omega)))
      have hBl3 := Nat.lt_of_lt_of_le hBl hkk.size
      clear hd hkk HD HB
      go_wp2_with fail
      go_roundw
      case rel => exact ⟨k + 1, by go_num, by omega, hBl3, HD3, HB3⟩
      case measure => simp [intOf]; omega
    · have hke : k = L.length := by omega
      have hd2 := HD.out
      rw [hke] at hd2
      have hcv := convert_bytes (P := Try.prog) (w := wr) (b := B) (off := 0) (cap := n) (ns := sumL L n L.length) Try.underlying25 Try.underlying5 Try.underlying9 (BytesBlk.cells hd2)
      rw [sumL_length _ (Nat.le_refl _)] at hcv
      clear hke hd2
      go_wp2_with fail
      go_ret2
      exact ⟨by rw [sumS, HN.out]; rfl, HB.out⟩
end Go.Proofs.Ytdbdpdeehfeaiaa
