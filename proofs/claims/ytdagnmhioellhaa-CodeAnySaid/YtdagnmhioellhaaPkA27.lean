/- code.Encode, code.Matrix, siloref4.Encode, walked. -/
import Derived.Test.YtdagnmhioellhaaPkA26
import Derived.Test.YtdagnmhioellhaaPkA03
import Derived.Test.YtdagnmhioellhaaPkA00
namespace Go.Proofs.Ytdagnmhioellhaa
open Go.ChangeShapes Go.WideShapes Go.ChangeAt Go.RowKit Go.Joins
set_option linter.unusedVariables false
set_option linter.unusedSimpArgs false

theorem mayB_yes {k m z : Int} (h : mayB (k, m, z) = true) : ∃ K M : Nat, k = (K : Int) ∧ m = (M : Int) ∧ 1 ≤ K ∧ K ≤ 8 ∧ M ≤ 6 ∧ 1 ≤ z ∧ z ≤ 120 := by
  have h := of_decide_eq_true h
  dsimp only at h
  exact ⟨k.toNat, m.toNat, by omega, by omega, by omega, by omega, by omega, by omega, by omega⟩
/-- All pieces of data. -/
def encL (k m z : Int) (L : List ByteArray) : List ByteArray := applyL (genL (k + m).toNat k.toNat) L (k + m).toNat k.toNat z.toNat
theorem encL_nat (K M : Nat) (z : Int) (L : List ByteArray) : encL (K : Int) (M : Int) z L = applyL (genL (K + M) K) L (K + M) K z.toNat := by
  have h : ((K : Int) + (M : Int)).toNat = K + M := by omega
  rw [encL, h, Int.toNat_natCast]
theorem encL_len (k m z : Int) (L : List ByteArray) : (encL k m z L).length = (k + m).toNat := by rw [encL, applyL_length]
theorem encL_size {k m z : Int} {L : List ByteArray} : ∀ s ∈ encL k m z L, s.size = z.toNat := applyL_sizes
def ifL {α : Type} (b : Bool) (l : List α) : List α := if b then l else []

/-- The generator, or none. -/
def genK (b : Bool) (k m : Int) : List Nat := if b then genL (k + m).toNat k.toNat else []

set_option maxRecDepth 100000 in
set_option maxHeartbeats 1000000 in
theorem mat4_all (k m z : Int) (bo : Bool) (hbo : mayB (k, m, z) = bo) (w : World) :
    Calls Try.prog 12 #[.agg #[.int .i64 k, .int .i64 m, .int .i64 z]] w fun e w' => ∃ vl, e = .returned (.tuple #[matV (mulR bo (k + m)) (mulR bo k) vl, .int .i64 (mulE bo)]) ∧ BytesV w' vl (genK bo k m) ∧ Below w.heap.size w w' := by
  obtain ⟨o1, ho1⟩ : ∃ o, o = (Obj.cells #[.int .i64 k, .int .i64 m, .int .i64 z] 29) := ⟨_, rfl⟩
  obtain ⟨o2, ho2⟩ : ∃ o, o = (Obj.cells #[.int .i64 0, .int .i64 0, .slice none 0 0] 33) := ⟨_, rfl⟩
  have t1 := Three.new w (.int .i64 k) (.int .i64 m) (.int .i64 z) 29
  rw [← ho1] at t1
  have t1 := t1.alloc o2
  have t2 := Three.new (w.alloc o1) (.int .i64 0) (.int .i64 0) (.slice none 0 0) 33
  rw [World.size_alloc, ← ho2] at t2
  have hbe : Below w.heap.size w ((w.alloc o1).alloc o2) := ((Below.refl w.heap.size w).alloc (Nat.le_refl _) o1).alloc (by simp) o2
  have HT1 := Lib.hid t1
  have HT2 := Lib.hid t2
  have HBE := Lib.hid hbe
  obtain ⟨a0, a1, a2, _, _, _⟩ := t1
  rw [ho1, ho2] at a0 a1 a2
  clear t2 hbe
  go_enter Try.func12, Try.ntmps12
  go_wp2_with fail
  rw [← ho1, ← ho2]
  clear a0 a1 a2 ho1 ho2
  generalize (w.alloc o1).alloc o2 = W0 at *
  refine (may_any k m z W0).mono ?_
  rintro e w1 ⟨rfl, hb1⟩
  have HT1a := Lib.hid (HT1.out.below hb1)
  have HT2a := Lib.hid (HT2.out.below hb1)
  have HB1 := Lib.hid (HBE.out.trans (hb1.mono HBE.out.size))
  obtain ⟨a0, a1, a2, _, _, _⟩ := HT1a.out
  have hw1 : w.heap.size + 1 < w1.heap.size := cell_block HT2a.out.c0
  rw [hbo]
  clear hb1 HT1 HT2 HBE
  cases bo
  · clear hbo
    obtain ⟨r0, r1, r2, r3, r4, r5⟩ := HT2a.out
    go_wp2_with fail
    obtain ⟨t0, t1, t2, _, _, _⟩ := three_put HT2a.out (.int .i64 0) (.int .i64 0) (.slice none 0 0)
    refine bodyPost_ret (v := .tuple #[matV 0 0 (.slice none 0 0), .int .i64 1]) (by simp [results, Try.results12, go_sem, matV, t0, t1, t2]) rfl ⟨.slice none 0 0, rfl, bytesV_nil _ _ _, ?_⟩
    exact ((HB1.out.setCell (p := ⟨w.heap.size + 1, 0, none⟩) (by simp) _).setCell (p := ⟨w.heap.size + 1, 1, none⟩) (by simp) _).setCell (p := ⟨w.heap.size + 1, 2, none⟩) (by simp) _
  · obtain ⟨K, M, rfl, rfl, k1, k8, m6, _, _⟩ := mayB_yes hbo
    clear hbo
    go_wp2_with fail
    refine (gen_any K M z w1 k1 k8 m6).mono ?_
    rintro e w2 ⟨vr, rfl, hmr, hb2⟩
    obtain ⟨B4, h41, h42, rfl, hbk4, hl4⟩ := hmr
    obtain ⟨n, hn⟩ : ∃ n, n = K + M := ⟨_, rfl⟩
    have hni : (K : Int) + (M : Int) = (n : Int) := by omega
    have HNI := Lib.hid hni
    obtain ⟨nk, hnk⟩ : ∃ nk, nk = n * K := ⟨_, rfl⟩
    rw [← hn] at hbk4 hl4
    rw [← hn, ← hnk]
    rw [← hnk] at hl4
    have HBK := Lib.hid hbk4
    have HL4 := Lib.hid hl4
    have HT2b := Lib.hid (HT2a.out.below hb2)
    have HB2 := Lib.hid (HB1.out.trans (hb2.mono HB1.out.size))
    have hne : w.heap.size + 1 ≠ B4 := by omega
    obtain ⟨r0, r1, r2, r3, r4, r5⟩ := HT2b.out
    clear hb2 hbk4 hl4 hni hn hnk a0 a1 a2
    unfold matV
    go_wp2_with fail
    obtain ⟨t0, t1, t2, _, _, _⟩ := three_put HT2b.out (.int .i64 (n : Int)) (.int .i64 (K : Int)) (.slice (some ⟨B4, 0, none⟩) nk nk)
    refine bodyPost_ret (v := .tuple #[matV (n : Int) (K : Int) (.slice (some ⟨B4, 0, none⟩) nk nk), .int .i64 0]) (by simp [results, Try.results12, go_sem, matV, t0, t1, t2]) rfl ⟨.slice (some ⟨B4, 0, none⟩) nk nk, ?_, ?_, ?_⟩
    · show _ = Ending.returned (.tuple #[matV ((K : Int) + (M : Int)) (K : Int) _, .int .i64 0])
      rw [HNI.out]
    · have hbl : BytesBlk (((w2.setCell ⟨w.heap.size + 1, 0, none⟩ (.int .i64 (n : Int))).setCell ⟨w.heap.size + 1, 1, none⟩ (.int .i64 (K : Int))).setCell ⟨w.heap.size + 1, 2, none⟩ (.slice (some ⟨B4, 0, none⟩) nk nk)) B4 (genL n K) :=
        blk_cell (blk_cell (blk_cell HBK.out (by dsimp only; omega)) (by dsimp only; omega)) (by dsimp only; omega)
      have h := BytesV.of_blk (c := nk) hbl (by simp only [World.size_setCell]; exact h42)
      rw [HL4.out] at h
      have e : genK true (K : Int) (M : Int) = genL n K := by
        show genL ((K : Int) + (M : Int)).toNat (K : Int).toNat = _
        rw [HNI.out, Int.toNat_natCast, Int.toNat_natCast]
      rw [e]
      exact h
    · exact ((HB2.out.setCell (p := ⟨w.heap.size + 1, 0, none⟩) (by simp) _).setCell (p := ⟨w.heap.size + 1, 1, none⟩) (by simp) _).setCell (p := ⟨w.heap.size + 1, 2, none⟩) (by simp) _

set_option maxRecDepth 100000 in
set_option maxHeartbeats 1000000 in
theorem encode_all (k m z : Int) (v : Value) (L : List ByteArray) (b : Bool) (hb : (mayB (k, m, z) && fitB L k z) = b) (w : World) (hN : Strs6 w v L) (hl : L.length ≤ 9000000000000000000) :
    Calls Try.prog 19 #[.agg #[.int .i64 k, .int .i64 m, .int .i64 z], v] w fun e w' => ∃ r, e = .returned (.tuple #[r, .int .i64 (mulE b)]) ∧ w'.ownsRow w.heap.size 9 1 r (ifL b (encL k m z L)).length ((ifL b (encL k m z L)).map Value.string) ∧ Below w.heap.size w w' := by
  obtain ⟨A, cap, rfl⟩ := hN.shape
  obtain ⟨o, ho⟩ : ∃ o, o = (Obj.cells #[.int .i64 k, .int .i64 m, .int .i64 z] 29) := ⟨_, rfl⟩
  have tA := Three.new w (.int .i64 k) (.int .i64 m) (.int .i64 z) 29
  have hbe := (Below.refl w.heap.size w).alloc (Nat.le_refl _) (.cells #[.int .i64 k, .int .i64 m, .int .i64 z] 29)
  rw [← ho] at tA hbe
  have HB := Lib.hid hbe
  have HT := Lib.hid tA
  have HS := Lib.hid (hN.below hbe)
  have HR := Lib.hid hb
  obtain ⟨a0, a1, a2, _, _, _⟩ := tA
  rw [ho] at a0 a1 a2
  clear hbe hN hb
  go_enter Try.func19, Try.ntmps19
  go_wp2_with fail
  rw [← ho]
  refine (texts4_any k m z k _ L b HR.out _ HS.out hl).mono ?_
  rintro e w1 ⟨rfl, hb1⟩
  have HB1 := Lib.hid (HB.out.trans (hb1.mono HB.out.size))
  have HS1 := Lib.hid (HS.out.below hb1)
  have HT1 := Lib.hid (HT.out.below hb1)
  obtain ⟨a0, a1, a2, _, _, _⟩ := HT1.out
  clear hb1 ho HB HS HT
  cases b
  · go_wp2_with fail
    go_ret2
    exact ⟨_, rfl, World.ownsRow_nil _ _ _ _, HB1.out⟩
  · have hr := HR.out
    rw [Bool.and_eq_true] at hr
    obtain ⟨K, M, rfl, rfl, k1, k8, m6, z1, z2⟩ := mayB_yes hr.1
    obtain ⟨h1, h2⟩ := fitB_all hr.2
    have HLL : Hid (L.length = K) := by rw [Hid]; omega
    have HLZ : Hid (∀ s ∈ L, s.size = z.toNat) := fun s hs => by have := h2 s hs; omega
    clear hr h1 h2
    go_wp2_with fail
    refine (gen_any K M z w1 k1 k8 m6).mono ?_
    rintro e w2 ⟨vr, rfl, hmr, hb2⟩
    obtain ⟨B4, h41, h42, rfl, hbk4, hl4⟩ := hmr
    obtain ⟨n, hn⟩ : ∃ n, n = K + M := ⟨_, rfl⟩
    have HNN := Lib.hid hn
    rw [← hn] at hbk4 hl4
    rw [← hn]
    have hn14 : n ≤ 14 := by omega
    have hn1 : 1 ≤ n := by omega
    clear hn
    have hbv := BytesV.of_blk (c := n * K) hbk4 h42
    rw [hl4] at hbv
    have HV := Lib.hid hbv
    have HL4 := Lib.hid hl4
    have HB2 := Lib.hid (HB1.out.trans (hb2.mono HB1.out.size))
    have HS2 := Lib.hid (HS1.out.below hb2)
    clear hb2 hbk4 hl4 hbv a0 a1 a2
    have hq : n * K ≤ 14 * 8 := Nat.mul_le_mul hn14 k8
    have HC := lanes_any n K z.toNat B4 0 (n * K) (n * K) (.slice A L.length cap) (genL n K) L w2 HV.out HS2.out HL4.out HLL.out HLZ.out (by omega) (by omega) (by omega) k1 (by omega) (Nat.le_refl _) (by omega)
    go_wp2_with fail
    with_reducible refine HC.mono ?_
    rintro e w3 ⟨r, rfl, hown, hb3⟩
    have HO := Lib.hid (own_base hown HB2.out.size)
    have HB3 := Lib.hid (HB2.out.trans (hb3.mono HB2.out.size))
    clear HC hown hb3
    go_wp2_with fail
    go_ret2
    refine ⟨r, rfl, ?_, HB3.out⟩
    show w3.ownsRow _ _ _ _ (encL _ _ _ _).length ((encL _ _ _ _).map _)
    rw [encL_nat, applyL_length, ← HNN.out]
    exact HO.out

set_option maxRecDepth 100000 in
set_option maxHeartbeats 1000000 in
theorem refEncode_any (K M : Nat) (z : Int) (v : Value) (L : List ByteArray) (w : World) (k1 : 1 ≤ K) (k8 : K ≤ 8) (m6 : M ≤ 6) (z1 : 1 ≤ z) (z2 : z ≤ 120) (hN : Strs6 w v L) (hll : L.length = K) (hlz : ∀ s ∈ L, s.size = z.toNat) :
    Calls Try.prog 21 #[.agg #[.int .i64 (K : Int), .int .i64 (M : Int), .int .i64 z], v] w fun e w' => ∃ r, e = .returned r ∧ w'.ownsRow w.heap.size 9 1 r (K + M) ((encL K M z L).map Value.string) ∧ Below w.heap.size w w' := by
  obtain ⟨A, cap, rfl⟩ := hN.shape
  obtain ⟨o, ho⟩ : ∃ o, o = (Obj.cells #[.int .i64 (K : Int), .int .i64 (M : Int), .int .i64 z] 29) := ⟨_, rfl⟩
  have tA := Three.new w (.int .i64 (K : Int)) (.int .i64 (M : Int)) (.int .i64 z) 29
  have hbe := (Below.refl w.heap.size w).alloc (Nat.le_refl _) (.cells #[.int .i64 (K : Int), .int .i64 (M : Int), .int .i64 z] 29)
  rw [← ho] at tA hbe
  have HB := Lib.hid hbe
  have HS := Lib.hid (hN.below hbe)
  have HLL := Lib.hid hll
  have HLZ := Lib.hid hlz
  obtain ⟨a0, a1, a2, _, _, _⟩ := tA
  rw [ho] at a0 a1 a2
  clear hbe hN hll hlz
  go_enter Try.func21, Try.ntmps21
  go_wp2_with fail
  rw [← ho]
  clear a0 a1 a2 ho
  generalize w.alloc o = W0 at *
  refine (refGen_any K M z W0 k1 k8 m6).mono ?_
  rintro e w2 ⟨vr, rfl, hmr, hb2⟩
  obtain ⟨B4, h41, h42, rfl, hbk4, hl4⟩ := hmr
  obtain ⟨n, hn⟩ : ∃ n, n = K + M := ⟨_, rfl⟩
  have HNN := Lib.hid hn
  rw [← hn] at hbk4 hl4
  rw [← hn]
  have hn14 : n ≤ 14 := by omega
  have hn1 : 1 ≤ n := by omega
  clear hn
  have hbv := BytesV.of_blk (c := n * K) hbk4 h42
  rw [hl4] at hbv
  have HV := Lib.hid hbv
  have HL4 := Lib.hid hl4
  have HB2 := Lib.hid (HB.out.trans (hb2.mono HB.out.size))
  have HS2 := Lib.hid (HS.out.below hb2)
  clear hb2 hbk4 hl4 hbv
  have HC := refApply_any n K z.toNat (.slice (some ⟨B4, 0, none⟩) (n * K) (n * K)) (.slice A L.length cap) (genL n K) L w2 HV.out HS2.out HL4.out HLL.out HLZ.out (by omega) (by omega) (by omega) k1 (by omega)
  go_wp2_with fail
  with_reducible refine HC.mono ?_
  rintro e w3 ⟨r, rfl, hown, hb3⟩
  have HO := Lib.hid (own_base hown HB2.out.size)
  have HB3 := Lib.hid (HB2.out.trans (hb3.mono HB2.out.size))
  clear HC hown hb3
  go_wp2_with fail
  go_ret
  refine ⟨r, rfl, ?_, HB3.out⟩
  rw [encL_nat, ← HNN.out]
  exact HO.out
end Go.Proofs.Ytdagnmhioellhaa

/- Two lists of texts that are one. -/

namespace Go.Proofs.Ytdagnmhioellhaa
open Go.ChangeShapes Go.WideShapes Go.ChangeAt Go.RowKit Go.Joins
set_option linter.unusedVariables false
set_option linter.unusedSimpArgs false

set_option maxRecDepth 100000 in
set_option maxHeartbeats 1000000 in
theorem eqStrs6_yes (va vb : Value) (l : List ByteArray) (w : World) (ha : Strs6 w va l) (hb : Strs6 w vb l) (hm : l.length ≤ 9000000000000000000) :
    Calls Try.prog 22 #[va, vb] w fun e w' => e = .returned (.bool true) ∧ Below w.heap.size w w' := by
  have HA := Lib.hid ha
  have HB := Lib.hid hb
  obtain ⟨Aa, ka, rfl⟩ := ha.shape
  obtain ⟨Ab, kb, rfl⟩ := hb.shape
  clear ha hb
  go_enter Try.func22, Try.ntmps22
  go_wp2_with fail
  go_loopw [5] (fun i wr => ∃ k : Nat, i = .int .i64 k ∧ k ≤ l.length ∧ Below w.heap.size w wr) (fun i _ => l.length - (intOf i).toNat)
  case atStart => exact ⟨0, rfl, by omega, Below.refl _ _⟩
  case round =>
    obtain ⟨k, rfl, hk, hwr⟩ := hrel
    by_cases hlt : k < l.length
    · obtain ⟨ba, oa, rfl, _, a0⟩ := (HA.out.below hwr).at_ hlt
      obtain ⟨bb, ob, rfl, _, b0⟩ := (HB.out.below hwr).at_ hlt
      generalize l[k]'hlt = s at a0 b0
      go_wp2_with fail
      go_quiet (fail)
      all_goals
        go_wp2_with fail
        go_roundw
        case rel => exact ⟨k + 1, by go_num, by omega, below_drewN hwr _⟩
        case measure => simp [intOf]; omega
    · go_wp2_with fail
      go_ret
      exact ⟨rfl, hwr⟩
end Go.Proofs.Ytdagnmhioellhaa

/- silolaw4.num, wakes, CopyStrings, walked. -/

namespace Go.Proofs.Ytdagnmhioellhaa
open Go.ChangeShapes Go.WideShapes Go.ChangeAt Go.RowKit Go.Joins
set_option linter.unusedVariables false
set_option linter.unusedSimpArgs false

set_option maxRecDepth 100000 in
theorem num4_any (n : Int) (w : World) : Calls Try.prog 15 #[.int .i64 n] w fun e w' => e = .returned (.int .i64 n) ∧ w = w' := by
  go_enter Try.func15, Try.ntmps15
  go_wp2_with fail
  go_ret
  exact ⟨rfl, rfl⟩

theorem wakes4_enc : encL 1 2 1 [⟨#[120]⟩] = [⟨#[120]⟩, ⟨#[120]⟩, ⟨#[120]⟩] := by decide +kernel

set_option maxRecDepth 100000 in
set_option maxHeartbeats 1000000 in
theorem wakes4_any (w : World) : Calls Try.prog 24 #[] w fun e w' => e = .returned (.bool true) ∧ Below w.heap.size w w' := by
  obtain ⟨oL, hoL⟩ : ∃ x, x = (Obj.cells #[.string ⟨#[120]⟩] 9) := ⟨_, rfl⟩
  have hb0 := (Below.refl w.heap.size w).alloc (Nat.le_refl _) oL
  have HB0 := Lib.hid hb0
  have hs0 : Strs6 (w.alloc oL) (.slice (some ⟨w.heap.size, 0, none⟩) 1 1) [⟨#[120]⟩] := by rw [hoL]; exact lit_row w _ _ 1 1 1 rfl
  have HS0 := Lib.hid hs0
  clear hb0 hs0
  go_enter Try.func24, Try.ntmps24
  go_wp2_with fail
  rw [← hoL]
  clear hoL
  generalize w.alloc oL = W0 at *
  refine (encode_all 1 2 1 _ [⟨#[120]⟩] true (by decide +kernel) W0 HS0.out (by simp)).mono ?_
  rintro e w1 ⟨r, rfl, hown, hb1⟩
  have HB1 := Lib.hid (HB0.out.trans (hb1.mono HB0.out.size))
  have hr : Strs6 w1 r [⟨#[120]⟩, ⟨#[120]⟩, ⟨#[120]⟩] := by
    have h := RowIs.of_own hown
    have e : ifL true (encL 1 2 1 [⟨#[120]⟩]) = [⟨#[120]⟩, ⟨#[120]⟩, ⟨#[120]⟩] := wakes4_enc
    rw [e] at h
    exact h
  obtain ⟨A, c, rfl⟩ := hr.shape
  obtain ⟨oM, hoM⟩ : ∃ x, x = (Obj.cells #[.string ⟨#[120]⟩, .string ⟨#[120]⟩, .string ⟨#[120]⟩] 9) := ⟨_, rfl⟩
  have hb2 := (Below.refl w1.heap.size w1).alloc (Nat.le_refl _) oM
  have HB2 := Lib.hid (HB1.out.trans (hb2.mono HB1.out.size))
  have HR2 := Lib.hid (hr.below hb2)
  have HM2 : Hid (Strs6 (w1.alloc oM) (.slice (some ⟨w1.heap.size, 0, none⟩) 3 3) [⟨#[120]⟩, ⟨#[120]⟩, ⟨#[120]⟩]) := by rw [hoM]; exact lit_row w1 _ _ 3 1 3 rfl
  clear hown hb1 hr hb2
  go_wp2_with (first | (go_at_call 15; refine (num4_any _ _).mono ?_; rintro e wn ⟨rfl, rfl⟩))
  rw [← hoM]
  clear hoM
  generalize w1.alloc oM = W2 at *
  refine (eqStrs6_yes _ _ [⟨#[120]⟩, ⟨#[120]⟩, ⟨#[120]⟩] W2 HR2.out HM2.out (by simp)).mono ?_
  rintro e w5 ⟨rfl, hb5⟩
  have hfin := HB2.out.trans (hb5.mono HB2.out.size)
  clear hb5
  go_wp2_with fail
  go_ret
  exact ⟨rfl, hfin⟩

set_option maxRecDepth 100000 in
set_option maxHeartbeats 1000000 in
theorem copyStrs6_any (v : Value) (ss : List ByteArray) (w : World) (h : Strs6 w v ss) (hl : ss.length ≤ 6000) :
    Calls Try.prog 18 #[v] w fun e w' => ∃ r, e = .returned r ∧ w'.ownsRow w.heap.size 9 1 r ss.length (ss.map Value.string) ∧ Below w.heap.size w w' := by
  obtain ⟨i0, hi, hz0, hz1, hz2⟩ := info_parts infoStr6
  obtain ⟨p, cap, rfl⟩ := h.shape
  have HS := Lib.hid h
  clear h
  go_enter Try.func18, Try.ntmps18
  go_wp2_with fail
  go_loopw [3, 4] (fun l i wr => ∃ k : Nat, i = .int .i64 k ∧ k ≤ ss.length ∧ wr.ownsRow w.heap.size 9 1 l k ((ss.take k).map Value.string) ∧ Below w.heap.size w wr) (fun _ i _ => ss.length - (intOf i).toNat)
  case atStart => exact ⟨0, rfl, by omega, World.ownsRow_nil _ _ _ _, Below.refl _ _⟩
  case round =>
    obtain ⟨k, rfl, hk, hown, hwr⟩ := hrel
    by_cases hlt : k < ss.length
    · obtain ⟨b, off, rfl, hbl, hcell⟩ := (HS.out.below hwr).at_ hlt
      have HT : Hid (ss.take (k + 1) = ss.take k ++ [ss[k]'hlt]) := List.take_succ_eq_append_getElem hlt
      generalize ss[k]'hlt = s at *
      have j0 : (0 : Int) ≤ (k : Int) := by omega
      have j1 : (k : Int) < (ss.length : Int) := by omega
      go_wp2_with (first | (at_builtin; refine wpList_append_own _ rfl _ _ 23 rfl w.heap.size 9 i0 (.string ByteArray.empty) 1 16 Try.underlying23 hi hz0 hz1 hz2 rfl (by decide) _ _ _ rfl (hown.alloc _) ⟨wr.heap.size, 0, none⟩ 1 1 [.string s] rfl rfl ?c1 ?c2 ?c3 ?c4 ?c5 ?_) | go_in)
      case c1 => exact cell_one_new' _ _ _
      case c2 => intro u hu; simp at hu; subst hu; rfl
      case c3 => unfold maxLen; omega
      case c4 => omega
      case c5 => have := hwr.size; simp; omega
      all_goals
        intro v' w1 hown' hgrow _
        have hbx := append_below hwr hown hgrow
        clear hown hgrow hwr hcell
        go_wp2_with fail
        go_roundw
        case rel => exact ⟨k + 1, by go_num, by omega, by rw [HT.out, List.map_append, List.map_take]; exact hown', hbx⟩
        case measure => simp [intOf]; omega
    · have hke : k = ss.length := by omega
      rw [hke, List.take_length] at hown
      clear hke
      go_wp2_with fail
      all_goals
        go_ret
        exact ⟨_, rfl, hown, hwr⟩

/-- Lists of texts, as they lie. -/
def ListsIn (w : World) (v : Value) (LL : List (Value × List ByteArray)) : Prop := RowIs w v LL.length 1 (LL.map (·.1)) ∧ ∀ p ∈ LL, Strs6 w p.1 p.2 ∧ p.2.length ≤ 6000
theorem ListsIn.below {w w' : World} {v : Value} {LL : List (Value × List ByteArray)} (h : ListsIn w v LL) (hb : Below w.heap.size w w') : ListsIn w' v LL :=
  ⟨h.1.below hb, fun p hp => ⟨(h.2 p hp).1.below hb, (h.2 p hp).2⟩⟩
theorem ListsIn.shape {w : World} {v : Value} {LL : List (Value × List ByteArray)} (h : ListsIn w v LL) : ∃ A c, v = .slice A LL.length c := by
  obtain ⟨_, A, c, e, _⟩ := h.1
  exact ⟨A, c, e⟩
theorem ListsIn.at_ {w : World} {A : Option Addr} {c : Nat} {LL : List (Value × List ByteArray)} (h : ListsIn w (.slice A LL.length c) LL) {k : Nat} (hk : k < LL.length) :
    ∃ b o v l, A = some ⟨b, o, none⟩ ∧ w.cell? ⟨b, o + k, none⟩ = some v ∧ Strs6 w v l ∧ l.length ≤ 6000 := by
  obtain ⟨b, o, c', e, hlt, hc⟩ := RowIs.at_ h.1 hk
  cases e
  obtain ⟨u, h1, h2⟩ := hc 0 (by omega)
  simp [hk] at h1
  rw [Nat.mul_one, Nat.add_zero] at h2
  have hm := h.2 (LL[k]'hk) (List.getElem_mem hk)
  exact ⟨b, o, _, _, rfl, by rw [h2, ← h1], hm.1, hm.2⟩
theorem cell_two_new (w : World) (a b : Value) (t : TypeId) : ∀ j u, [a, b][j]? = some u → (w.alloc (.cells #[a, b] t)).cell? ((⟨w.heap.size, 0, none⟩ : Addr).add j) = some u := by
  intro j u hj
  match j, hj with
  | 0, hj => simp at hj; subst hj; simp [Addr.add]
  | 1, hj => simp at hj; subst hj; simp [Addr.add]
  | j + 2, hj => simp at hj
theorem infoStrs4 : (Try.prog.info? 23).map (fun i => (i.zero, i.size, i.bytes)) = some (some (.slice none 0 0), 1, 24) := by kernel_rfl
end Go.Proofs.Ytdagnmhioellhaa

/- Which rows are there, plainly; what is rebuilt of them. -/

namespace Go.Proofs.Ytdagnmhioellhaa
set_option linter.unusedVariables false
set_option linter.unusedSimpArgs false

/-- The numbers of the first K that are there, of so many. -/
def haveN (bs : List Bool) (K : Nat) : Nat → List Int
  | 0 => []
  | i + 1 => if bs.getD i false = true ∧ (haveN bs K i).length < K then haveN bs K i ++ [(i : Int)] else haveN bs K i
theorem haveN_le (bs : List Bool) (K : Nat) : ∀ i, (haveN bs K i).length ≤ K
  | 0 => by simp [haveN]
  | i + 1 => by
    rw [haveN]
    split
    · rename_i h; rw [List.length_append]; simp; omega
    · exact haveN_le bs K i
theorem haveN_lt (bs : List Bool) (K : Nat) : ∀ i, ∀ z ∈ haveN bs K i, 0 ≤ z ∧ z < (i : Int)
  | 0, z, h => by simp [haveN] at h
  | i + 1, z, h => by
    rw [haveN] at h
    split at h
    · rcases List.mem_append.1 h with h | h
      · have := haveN_lt bs K i z h; omega
      · simp at h; omega
    · have := haveN_lt bs K i z h; omega
theorem haveN_nodup (bs : List Bool) (K : Nat) : ∀ i, (haveN bs K i).Nodup
  | 0 => by simp [haveN]
  | i + 1 => by
    rw [haveN]
    split
    · rw [List.nodup_append]
      refine ⟨haveN_nodup bs K i, by simp, fun a ha b hb e => ?_⟩
      simp at hb
      have := haveN_lt bs K i a ha
      omega
    · exact haveN_nodup bs K i
theorem haveN_full {bs : List Bool} {K i : Nat} (h : (haveN bs K i).length = K) : ∀ j, haveN bs K (i + j) = haveN bs K i
  | 0 => rfl
  | j + 1 => by
    have e : i + (j + 1) = (i + j) + 1 := by omega
    rw [e, haveN, haveN_full h j, if_neg (by omega)]
theorem haveN_yes {bs : List Bool} {K i : Nat} (h1 : bs.getD i false = true) (h2 : (haveN bs K i).length < K) : haveN bs K (i + 1) = haveN bs K i ++ [(i : Int)] := by rw [haveN, if_pos ⟨h1, h2⟩]
theorem haveN_no {bs : List Bool} {K i : Nat} (h : bs.getD i false = false) : haveN bs K (i + 1) = haveN bs K i := by rw [haveN, if_neg (by rw [h]; simp)]
theorem haveN_stop {bs : List Bool} {K i : Nat} (h : ¬ (haveN bs K i).length < K) : haveN bs K (i + 1) = haveN bs K i := by rw [haveN, if_neg (fun x => h x.2)]
theorem haveN_there {bs : List Bool} {K : Nat} : ∀ i, ∀ z ∈ haveN bs K i, bs.getD z.toNat false = true
  | 0, z, h => by simp [haveN] at h
  | i + 1, z, h => by
    rw [haveN] at h
    split at h
    · rename_i hc
      rcases List.mem_append.1 h with h | h
      · exact haveN_there i z h
      · simp at h; subst h; simpa using hc.1
    · exact haveN_there i z h
theorem haveN_ok {bs : List Bool} {K n : Nat} (h : (haveN bs K n).length = K) : RowsOk n K (haveN bs K n) :=
  ⟨h, haveN_nodup bs K n, haveN_lt bs K n⟩
/-- The texts of these rows. -/
def givenL (zs : List Int) (l : List ByteArray) : List ByteArray := zs.map fun z => l.getD z.toNat ByteArray.empty
theorem givenL_len (zs : List Int) (l : List ByteArray) : (givenL zs l).length = zs.length := by simp [givenL]
theorem givenL_snoc (zs : List Int) (l : List ByteArray) (i : Nat) : givenL (zs ++ [(i : Int)]) l = givenL zs l ++ [l.getD i ByteArray.empty] := by simp [givenL]
theorem givenL_size {bs : List Bool} {l : List ByteArray} {K n Z : Nat} (h : ∀ i, bs.getD i false = true → (l.getD i ByteArray.empty).size = Z) : ∀ s ∈ givenL (haveN bs K n) l, s.size = Z := by
  intro s hs
  obtain ⟨z, hz, rfl⟩ := List.mem_map.1 hs
  exact h _ (haveN_there n z hz)
/-- The inverse of the chosen rows. -/
def overL (n K : Nat) (zs : List Int) : List Nat := invO K (pickL (genL n K) K zs)
theorem overL_len (n K : Nat) (zs : List Int) : (overL n K zs).length = K * K := invO_length _ _
theorem overL_lt {n K : Nat} {zs : List Int} (h : RowsOk n K zs) : ∀ x ∈ overL n K zs, x < 256 :=
  invO_all (by rw [rowL_length (h.fits (genL_len n K)), h.len]) (pick_all' (genL_lt n K))
/-- What is rebuilt. -/
def rebL (n K Z : Nat) (bs : List Bool) (l : List ByteArray) : List ByteArray :=
  if (haveN bs K n).length < K then [] else applyL (timesL (genL n K) (overL n K (haveN bs K n)) n K K) (givenL (haveN bs K n) l) n K Z
def rebE (n K : Nat) (bs : List Bool) : Int := if (haveN bs K n).length < K then 8 else 0
theorem rebL_yes {n K Z : Nat} {bs : List Bool} {l : List ByteArray} (h : (haveN bs K n).length = K) :
    rebL n K Z bs l = applyL (genL n K) (applyL (overL n K (haveN bs K n)) (givenL (haveN bs K n) l) K K Z) n K Z := by
  rw [rebL, if_neg (by omega), apply_times (genL_lt n K) (overL_lt (haveN_ok h))]
theorem rebL_len {n K Z : Nat} {bs : List Bool} {l : List ByteArray} : (rebL n K Z bs l).length ≤ n := by
  rw [rebL]
  split
  · simp
  · rw [applyL_length]; exact Nat.le_refl _
end Go.Proofs.Ytdagnmhioellhaa
