/- Two lanes: whether they may be; lane.MulAdd and lane.Add, walked. -/
import Derived.Test.YtdbdpdeehfeaiaaLaneE
import Derived.Test.YtdbdpdeehfeaiaaLaneF
namespace Go.Proofs.Ytdbdpdeehfeaiaa
open Go.ChangeShapes Go.WideShapes Go.ChangeAt Go.RowKit Go.Joins
set_option linter.unusedVariables false
set_option linter.unusedSimpArgs false

theorem two_eq (a b : ByteArray) : mayN [a, b] = if 8192 < a.size then 2 else if 8192 < b.size then 2 else if b.size = a.size then 0 else 1 := by
  simp [mayN, mayGo]
theorem two_zero {a b : ByteArray} (h : mayN [a, b] = 0) : a.size ≤ 8192 ∧ b.size = a.size := by
  rw [two_eq] at h
  split at h
  · omega
  · split at h
    · omega
    · split at h
      · omega
      · omega

set_option maxRecDepth 100000 in
set_option maxHeartbeats 1000000 in
theorem mulAdd_no (a b : ByteArray) (c : Nat) (w : World) (h : mayN [a, b] ≠ 0) :
    Calls Try.prog 14 #[.string a, .string b, .int .u8 (c : Int)] w fun e w' => e = .returned (.tuple #[.string ⟨#[]⟩, .int .i64 (mayN [a, b])]) ∧ Below w.heap.size w w' := by
  obtain ⟨r, hr⟩ : ∃ r, r = mayN [a, b] := ⟨_, rfl⟩
  rw [← hr] at h ⊢
  have hne : (r != 0) = true := by rw [bne_iff_ne]; exact h
  have HR := Lib.hid hr
  clear hr h
  go_enter Try.func14, Try.ntmps14
  go_wp2_with fail
  refine (may_any _ [a, b] _ (lit_row _ _ _ 2 1 _ rfl) (by simp)).mono ?_
  rintro e w1 ⟨rfl, hb1⟩
  rw [← HR.out]
  have hb := ((Below.refl w.heap.size w).alloc (Nat.le_refl _) (.cells #[.string a, .string b] 9)).trans (hb1.mono (by simp))
  clear hb1
  go_wp2_with fail
  go_ret2
  exact ⟨rfl, hb⟩

set_option maxRecDepth 100000 in
set_option maxHeartbeats 1000000 in
theorem mulAdd_yes (a b : ByteArray) (c : Nat) (w : World) (h : mayN [a, b] = 0) (hc : c < 256) :
    Calls Try.prog 14 #[.string a, .string b, .int .u8 (c : Int)] w fun e w' => e = .returned (.tuple #[.string (mixS a b c), .int .i64 0]) ∧ Below w.heap.size w w' := by
  obtain ⟨ha, hba⟩ := two_zero h
  have HR := Lib.hid h
  have hcv : ∀ w', (convert 9 25 (.string a)).run Try.prog w' = .ok (.slice (some ⟨w'.heap.size, 0, none⟩) a.size (grownCap w' a.size 0 5)) (Lib.bytesWorld w' 5 a) := fun w' => Lib.run_convert_string_bytes w' 9 25 5 a Try.underlying9 Try.underlying25 Try.underlying5
  clear h
  go_enter Try.func14, Try.ntmps14
  go_wp2_with fail
  refine (may_any _ [a, b] _ (lit_row _ _ _ 2 1 _ rfl) (by simp)).mono ?_
  rintro e w1 ⟨rfl, hb1⟩
  rw [HR.out]
  have hb := ((Below.refl w.heap.size w).alloc (Nat.le_refl _) (.cells #[.string a, .string b] 9)).trans (hb1.mono (by simp))
  clear hb1
  have HBV := Lib.hid (hb.trans ((bytesWorld_below w1 5 a).mono hb.size))
  have HD := Lib.hid (bytesBlk_of w1 5 a)
  have hle := hb.size
  have hlt : w1.heap.size < (Lib.bytesWorld w1 5 a).heap.size := by rw [Lib.bytesWorld_size]; omega
  clear hb
  go_wp2_with fail
  clear hcv
  generalize Lib.bytesWorld w1 5 a = V at *
  generalize grownCap w1 a.size 0 5 = cp at *
  generalize w1.heap.size = B at *
  refine (into_any B 0 a.size cp (bytesOf a) b c V HD.out hlt (by rw [bytesOf_length]; omega) (by rw [bytesOf_length]; omega) (by omega) (by omega) hc).mono ?_
  rintro e W2 ⟨rfl, hd, hk⟩
  have hcv2 := convert_bytes (P := Try.prog) (w := W2) (b := B) (off := 0) (cap := cp) (ns := intoL b c 0 a.size (bytesOf a)) Try.underlying25 Try.underlying5 Try.underlying9 (BytesBlk.cells hd)
  rw [intoL_length, bytesOf_length, intoL_mix] at hcv2
  have hfin := HBV.out.trans (hk.below HBV.out.size (fun j hj e => by subst e; omega))
  clear hd hk HD HBV
  go_wp2_with fail
  go_ret2
  exact ⟨rfl, hfin⟩
end Go.Proofs.Ytdbdpdeehfeaiaa
