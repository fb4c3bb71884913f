/- matrix.turn, walked. -/
import Derived.Test.YtdagnmhioellhaaPkA11
import Derived.Test.YtdagnmhioellhaaPkA07
import Derived.Test.YtdagnmhioellhaaPkA06
namespace Go.Proofs.Ytdagnmhioellhaa
open Go.ChangeShapes Go.WideShapes Go.ChangeAt Go.RowKit Go.Joins
set_option linter.unusedVariables false
set_option linter.unusedSimpArgs false

theorem blk_keptM {p : Nat → Prop} {w w' : World} {B : Nat} {ns : List Nat} (h : BytesBlk w B ns) (hB : B < w.heap.size) (k : Kept p w w') (hp : ¬ p B) : BytesBlk w' B ns := fun i hi =>
  ⟨(h i hi).1, by rw [k.cell (d := ⟨B, i, none⟩) hB hp]; exact (h i hi).2.1, by rw [k.frozen (d := ⟨B, i, none⟩) hB hp]; exact (h i hi).2.2⟩
theorem rowV {w : World} {B c i cap : Nat} {ns : List Nat} (h : BytesBlk w B ns) (hB : B < w.heap.size) (hi : (i + 1) * c ≤ ns.length) : BytesV w (.slice (some ⟨B, i * c, none⟩) c cap) (rowN ns c i) := by
  have hl := rowN_length hi
  refine ⟨⟨by simp, _, _, by rw [hl], fun _ => ⟨B, i * c, rfl, hB, fun j u hj => ?_⟩⟩, fun n hn => ?_⟩
  · have hjl : j < (rowN ns c i).length := by simpa using (List.getElem?_eq_some_iff.1 hj).1
    rw [hl] at hjl
    have hj2 : i * c + j < ns.length := by rw [Nat.add_mul, Nat.one_mul] at hi; omega
    rw [(h (i * c + j) hj2).2.1, ← rowN_get (bs := ns) hjl, ← hj]
    simp [List.getD, hl, hjl]
  · obtain ⟨j, hj, rfl⟩ := List.getElem_of_mem hn
    rw [hl] at hj
    rw [List.getElem_eq_getD (fallback := 0), rowN_get hj]
    exact (h (i * c + j) (by rw [Nat.add_mul, Nat.one_mul] at hi; omega)).1

set_option maxRecDepth 100000 in
set_option maxHeartbeats 2000000 in
theorem turn_any (R : Int) (c i q B n k : Nat) (ns : List Nat) (w : World) (h : BytesBlk w B ns) (hB : B < w.heap.size) (hn : n = ns.length) (hc1 : 1 ≤ c) (hc : c ≤ 16) (hi : i ≤ 16) (hq : q ≤ 16) (hin : (i + 1) * c ≤ n) (hqn : (q + 1) * c ≤ n) (hk : n ≤ k) (hk2 : k ≤ 9223372036854775807) (hn2 : n ≤ 256) :
    Calls Try.prog 80 #[matV R (c : Int) (.slice (some ⟨B, 0, none⟩) n k), .int .i64 (i : Int), .int .i64 (q : Int)] w fun e w' => e = .returned (.tuple #[]) ∧ BytesBlk w' B (swapL c i q ns) ∧ Kept (fun j => j = B) w w' := by
  subst hn
  have ht := Three.new w (.int .i64 R) (.int .i64 (c : Int)) (.slice (some ⟨B, 0, none⟩) ns.length k) 33
  have hb0 := (Below.refl w.heap.size w).alloc (Nat.le_refl _) (.cells #[.int .i64 R, .int .i64 (c : Int), .slice (some ⟨B, 0, none⟩) ns.length k] 33)
  have hd0 := blk_below h hB hb0
  have hB0 : B < (w.alloc (.cells #[.int .i64 R, .int .i64 (c : Int), .slice (some ⟨B, 0, none⟩) ns.length k] 33)).heap.size := by simp; omega
  have HBB := Lib.hid hb0
  have HD := Lib.hid hd0
  have HT := Lib.hid ht
  have hBne : B ≠ w.heap.size := by omega
  clear hb0 hd0 ht h
  unfold matV
  by_cases hiq : i = q
  · subst hiq
    go_enter Try.func80, Try.ntmps80
    go_wp2_with fail
    refine bodyPost_end (results_none rfl _ _ _) rfl ?_
    exact ⟨rfl, by rw [swapL, swapK_same]; exact HD.out, Kept.of_below HBB.out⟩
  · have hne : ((i : Int) == (q : Int)) = false := beq_eq_false_iff_ne.2 (by omega)
    go_enter Try.func80, Try.ntmps80
    go_wp2_with fail
    refine (row_any R c i B 0 ns.length k _ hc hc1 hi hin hk hk2).mono ?_
    rintro e w1 ⟨rfl, hb1⟩
    have HB1 := Lib.hid (cum2 HBB.out hb1)
    have HD1 := Lib.hid (blk_below HD.out hB0 hb1)
    have hB1 := Nat.lt_of_lt_of_le hB0 hb1.size
    have HT1 := Lib.hid (HT.out.below hb1)
    clear hb1 HBB HD HT
    have HLT : Hid (∀ x ∈ ns, x < 256) := by
      intro x hx
      obtain ⟨j, hj, rfl⟩ := List.getElem_of_mem hx
      rw [List.getElem_eq_getD (fallback := 0)]; exact (HD1.out j hj).1
    have hrl := rowN_length hin
    have hrlq := rowN_length hqn
    go_wp2_with fail
    refine (clone_any B (i * c) c (k - i * c) (rowN ns c i) w1 (rowV HD1.out hB1 hin) (by omega) (by omega)).mono ?_
    rintro e w2 ⟨r, rfl, hown, hb2⟩
    obtain ⟨g, cap, rfl, hg1, hg2, hg3, hg4, hg5, hblk⟩ := own_blk hown (by omega) (rowN_lt HLT.out)
    have HB2 := Lib.hid (cum2 HB1.out hb2)
    have HD2 := Lib.hid (blk_below HD1.out hB1 hb2)
    have hB2 := Nat.lt_of_lt_of_le hB1 hb2.size
    have HT2 := Lib.hid (HT1.out.below hb2)
    have hgB : g ≠ B := by omega
    have HG := Lib.hid hblk
    rw [hrl]
    clear hb2 hown hblk HB1 HD1 HT1
    go_upto_region 3 with (fail)
    have hbX : Below w2.heap.size w2 w2.drew := Below.drew (Below.refl _ _)
    obtain ⟨a0, a1, a2, _, _, _⟩ := HT2.out
    refine wp_region_held (S := fun W' => Kept (fun j => j = B) w2 W') (by kernel_rfl) ?_
    have hS0 : Kept (fun j => j = B) w2 w2.drew := Kept.drew (Kept.refl _ _)
    change wpAnyH _ _ _ _ _ 7 _ _ w2.drew
    refine wpAnyH_take (i := 0) (v := .agg #[.int .i64 R, .int .i64 (c : Int), .slice (some ⟨B, 0, none⟩) ns.length k]) rfl (by kernel_rfl) (by kernel_rfl) (by kernel_rfl) (fun _ _ _ h => h) (Or.inl ⟨by rfl, fun W' hW' => ?_⟩) hS0 ?_
    · obtain ⟨x0, x1, x2, _, _, _⟩ := HT2.out.below' hW' (by omega)
      go_simp
      try rfl
    try simp only [Act.put, List.setIfInBounds_toArray, List.set_cons_zero, List.set_cons_succ]
    refine wpAnyH_take (i := 1) (v := .int .i64 (i : Int)) rfl (by kernel_rfl) (by kernel_rfl) (by kernel_rfl) (fun _ _ _ h => h) (Or.inl ⟨by rfl, fun W' hW' => ?_⟩) hS0 ?_
    · obtain ⟨x0, x1, x2, _, _, _⟩ := HT2.out.below' hW' (by omega)
      go_simp
      try rfl
    try simp only [Act.put, List.setIfInBounds_toArray, List.set_cons_zero, List.set_cons_succ]
    refine wpAnyH_take (i := 3) (v := .agg #[.int .i64 R, .int .i64 (c : Int), .slice (some ⟨B, 0, none⟩) ns.length k]) rfl (by kernel_rfl) (by kernel_rfl) (by kernel_rfl) (fun _ _ _ h => h) (Or.inl ⟨by rfl, fun W' hW' => ?_⟩) hS0 ?_
    · obtain ⟨x0, x1, x2, _, _, _⟩ := HT2.out.below' hW' (by omega)
      go_simp
      try rfl
    try simp only [Act.put, List.setIfInBounds_toArray, List.set_cons_zero, List.set_cons_succ]
    refine wpAnyH_take (i := 4) (v := .int .i64 (q : Int)) rfl (by kernel_rfl) (by kernel_rfl) (by kernel_rfl) (fun _ _ _ h => h) (Or.inl ⟨by rfl, fun W' hW' => ?_⟩) hS0 ?_
    · obtain ⟨x0, x1, x2, _, _, _⟩ := HT2.out.below' hW' (by omega)
      go_simp
      try rfl
    try simp only [Act.put, List.setIfInBounds_toArray, List.set_cons_zero, List.set_cons_succ]
    refine wpAnyH_ready (rs := [2]) (by kernel_rfl) (by simp) ?_
    refine AllReadyH.cons rfl (fun K hK => ?_) AllReadyH.nil
    rw [if_pos (by rfl)]
    go_simp
    refine (row_any R c i B 0 ns.length k _ hc hc1 hi hin hk hk2).mono ?_
    rintro e w3 ⟨rfl, hb3⟩
    have hb23 := hbX.trans (hb3.mono hbX.size)
    have hS1 : Kept (fun j => j = B) w2 w3 := Kept.of_below hb23
    refine hK.out _ _ hS1 (fun hS1 => ?_)
    clear hK hb3
    try simp only [Act.put, List.setIfInBounds_toArray, List.set_cons_zero, List.set_cons_succ]
    refine wpAnyH_ready (rs := [5]) (by kernel_rfl) (by simp) ?_
    refine AllReadyH.cons rfl (fun K hK => ?_) AllReadyH.nil
    rw [if_pos (by rfl)]
    go_simp
    refine (row_any R c q B 0 ns.length k _ hc hc1 hq hqn hk hk2).mono ?_
    rintro e w4 ⟨rfl, hb4⟩
    have hb24 := hb23.trans (hb4.mono hb23.size)
    have hS2 : Kept (fun j => j = B) w2 w4 := Kept.of_below hb24
    refine hK.out _ _ hS2 (fun hS2 => ?_)
    clear hK hb4
    try simp only [Act.put, List.setIfInBounds_toArray, List.set_cons_zero, List.set_cons_succ]
    have hd4 := blk_below HD2.out hB2 hb24
    have hq2 := hqn
    have hin2 := hin
    rw [Nat.add_mul, Nat.one_mul] at hq2 hin2
    have hcp := copy_run (cs := rowN ns c q) (off := i * c) (bs := B) (os := q * c) (c := c) (cap := k - i * c) (cap' := k - q * c) hd4 hin2 hrlq (fun j hj => by rw [rowN_get hj]; exact (hd4 (q * c + j) (by omega)).2.1)
    refine wpAnyH_ready (rs := [6]) (by kernel_rfl) (by simp) ?_
    refine AllReadyH.cons rfl (fun K hK => ?_) AllReadyH.nil
    rw [if_pos (by rfl)]
    go_simp
    have hd5 : BytesBlk (w4.setCells B (i * c) (u8s (rowN ns c q))) B (putL (i * c) (rowN ns c q) ns) := setCells_blk (rowN ns c q) (i * c) w4 ns hd4 (rowN_lt HLT.out)
    have hS3 := hS2.trans (setCells_kept (B := B) (u8s (rowN ns c q)) (i * c) w4)
    refine hK.out _ _ hS3 (fun hS3 => ?_)
    clear hK hcp hd4 hS0 hS1 hS2 hb23 hb24 hbX
    try simp only [Act.put, List.setIfInBounds_toArray, List.set_cons_zero, List.set_cons_succ]
    refine wpAnyH_done (by kernel_rfl) ?_ _
    generalize w4.setCells B (i * c) (u8s (rowN ns c q)) = w5 at *
    have HT5 := Lib.hid (HT2.out.below' hS3 (by omega))
    have HG5 := Lib.hid (blk_keptM HG.out hg2 hS3 hgB)
    have HD5 := Lib.hid hd5
    have hB5 := Nat.lt_of_lt_of_le hB2 hS3.size
    have hg6 := Nat.lt_of_lt_of_le hg2 hS3.size
    have HK5 := Lib.hid ((Kept.of_below (p := fun j => j = B) HB2.out).trans hS3)
    clear a0 a1 a2 hS3 hd5 HT2 HG HD2
    obtain ⟨a0, a1, a2, _, _, _⟩ := HT5.out
    go_wp2_with fail
    refine (row_any R c q B 0 ns.length k _ hc hc1 hq hqn hk hk2).mono ?_
    rintro e w6 ⟨rfl, hb6⟩
    have hd6 := blk_below HD5.out hB5 hb6
    have hg6' := blk_below HG5.out hg6 hb6
    have hcp := copy_run (cs := rowN ns c i) (off := q * c) (bs := g) (os := 0) (c := c) (cap := k - q * c) (cap' := cap) hd6 (by rw [putL_length]; omega) hrl (fun j hj => by rw [Nat.zero_add]; exact (hg6' j (by omega)).2.1)
    have hd7 : BytesBlk (w6.setCells B (q * c) (u8s (rowN ns c i))) B (putL (q * c) (rowN ns c i) (putL (i * c) (rowN ns c q) ns)) := setCells_blk (rowN ns c i) (q * c) w6 _ hd6 (rowN_lt HLT.out)
    rw [put_swap hiq hin hqn] at hd7
    have HD7 := Lib.hid hd7
    have HK7 := Lib.hid ((HK5.out.trans (Kept.of_below (p := fun j => j = B) hb6)).trans (setCells_kept (B := B) (u8s (rowN ns c i)) (q * c) w6))
    clear hd6 hg6' hd7 hb6
    go_wp2_with fail
    first | refine bodyPost_end (results_none rfl _ _ _) rfl ?_ | refine bodyPost_ret (results_none rfl _ _ _) rfl ?_
    exact ⟨rfl, HD7.out, HK7.out⟩
end Go.Proofs.Ytdagnmhioellhaa

/- What a matrix makes of lanes, plainly. -/

namespace Go.Proofs.Ytdagnmhioellhaa
open Go.ChangeShapes Go.WideShapes Go.ChangeAt Go.RowKit Go.Joins
set_option linter.unusedVariables false
set_option linter.unusedSimpArgs false

theorem str_extM {a b : ByteArray} (hs : a.size = b.size) (h : ∀ i, i < a.size → byN a i = byN b i) : a = b := by
  apply ByteArray.ext
  apply Array.ext
  · exact hs
  · intro i h1 h2
    have := h i h1
    rw [byN_eq h1, byN_eq h2] at this
    exact UInt8.toNat_inj.1 this
theorem strOf8_bytesM (s : ByteArray) : strOf8 (bytesOf s) = s := by
  apply str_extM
  · rw [strOf8_size, bytesOf_length]
  · intro i hi
    rw [byN_str (bytesOf_lt s), bytesOf_get]
theorem byN_mixM (a b : ByteArray) (c : Nat) {i : Nat} (h : i < a.size) : byN (mixS a b c) i = byN a i ^^^ Gf.mul (byN b i) c := by
  rw [mixS, byN_strOf8 (f := fun i => byN a i ^^^ Gf.mul (byN b i) c) h (Nat.xor_lt_two_pow (n := 8) (byN_lt a i) (Gf.mul_lt c (byN_lt b i)))]
/-- Bytes 0. -/
def zeroN (n : Nat) : ByteArray := strOf8 (List.replicate n 0)
theorem zeroN_size (n : Nat) : (zeroN n).size = n := by rw [zeroN, strOf8_size, List.length_replicate]
theorem bytes_zeroN (n : Nat) : bytesOf (zeroN n) = List.replicate n 0 := bytesOf_strOf8 fun x hx => by rw [List.eq_of_mem_replicate hx]; decide
theorem byN_zeroN (n i : Nat) : byN (zeroN n) i = 0 := by
  rw [zeroN, byN_str fun x hx => by rw [List.eq_of_mem_replicate hx]; decide]
  by_cases h : i < n
  · simp [List.getD, h]
  · simp [List.getD, h]
/-- A lane added to bytes, as a text. -/
theorem intoL_bytes (a s : ByteArray) (c : Nat) : intoL s c 0 a.size (bytesOf a) = bytesOf (mixS a s c) := by
  rw [← intoL_mix, bytesOf_strOf8]
  intro x hx
  obtain ⟨j, hj, rfl⟩ := List.getElem_of_mem hx
  rw [intoL_length, bytesOf_length] at hj
  have := intoL_get s c 0 a.size (bytesOf a) j hj (by rw [bytesOf_length]; omega)
  rw [Nat.zero_add] at this
  rw [List.getElem_eq_getD (fallback := 0), this, bytesOf_get]
  exact Nat.xor_lt_two_pow (n := 8) (byN_lt a j) (Gf.mul_lt c (byN_lt s j))

/-- One row of a matrix applied to lanes of n bytes, of which k were added. -/
def rowLane (ms : List Nat) (l : List ByteArray) (ca n i k : Nat) : ByteArray := (List.range k).foldl (fun s k => mixS s (l.getD k ByteArray.empty) (ms.getD (i * ca + k) 0)) (zeroN n)
theorem rowLane_zero (ms : List Nat) (l : List ByteArray) (ca n i : Nat) : rowLane ms l ca n i 0 = zeroN n := rfl
theorem rowLane_succ (ms : List Nat) (l : List ByteArray) (ca n i k : Nat) : rowLane ms l ca n i (k + 1) = mixS (rowLane ms l ca n i k) (l.getD k ByteArray.empty) (ms.getD (i * ca + k) 0) := by
  rw [rowLane, List.range_succ, List.foldl_append]; rfl
theorem rowLane_size (ms : List Nat) (l : List ByteArray) (ca n i k : Nat) : (rowLane ms l ca n i k).size = n := by
  induction k with
  | zero => rw [rowLane_zero, zeroN_size]
  | succ k ih => rw [rowLane_succ, mixS_size, ih]
/-- All rows. -/
def applyL (ms : List Nat) (l : List ByteArray) (ra ca n : Nat) : List ByteArray := (List.range ra).map fun i => rowLane ms l ca n i ca
theorem applyL_length (ms : List Nat) (l : List ByteArray) (ra ca n : Nat) : (applyL ms l ra ca n).length = ra := by simp [applyL]
/-- One byte of what a row makes. -/
theorem rowLane_byte (ms : List Nat) (l : List ByteArray) (ca n i : Nat) {p : Nat} (hp : p < n) : ∀ k, byN (rowLane ms l ca n i k) p = (List.range k).foldl (fun x k => x ^^^ Gf.mul (byN (l.getD k ByteArray.empty) p) (ms.getD (i * ca + k) 0)) 0
  | 0 => by rw [rowLane_zero, byN_zeroN]; rfl
  | k + 1 => by
    rw [rowLane_succ, byN_mixM _ _ _ (by rw [rowLane_size]; exact hp), rowLane_byte ms l ca n i hp k, List.range_succ, List.foldl_append]
    rfl
end Go.Proofs.Ytdagnmhioellhaa
