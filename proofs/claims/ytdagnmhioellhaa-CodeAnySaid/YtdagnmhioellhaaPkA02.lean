/- Bytes' products: field.Mul and the document's own, walked. -/
import Derived.Test.YtdagnmhioellhaaRows
import Derived.WalkKit
import Derived.WalkSpells
import Derived.WalkLawsBesides
import Derived.Handy
import Derived.Lib.Hide
import Derived.Test.YtdagnmhioellhaaPkA01
import Derived.Test.YtdagnmhioellhaaPkA00
import Derived.BigQuiet
import Derived.BigRegion
import Derived.Deep.RegionHeld3
import Derived.StillTailTactics
import Derived.Deep.DeepCutAuto
import Derived.Deep.CutRange
import Derived.Deep.DrawnRows
namespace Go.Proofs.Ytdagnmhioellhaa
open Go.RowKit
set_option linter.unusedVariables false
set_option linter.unusedSimpArgs false

/-- The product of two bytes, of integers. -/
def gm (a b : Int) : Int := ((Gf.mul a.toNat b.toNat : Nat) : Int)

theorem gm_nat (a b : Nat) : gm (a : Int) (b : Int) = ((Gf.mul a b : Nat) : Int) := by simp [gm]
theorem gm_bd {a : Int} (b : Int) (ha : 0 ≤ a) (ha' : a ≤ 255) : 0 ≤ gm a b ∧ gm a b ≤ 255 := by
  obtain ⟨a, rfl⟩ := Int.eq_ofNat_of_zero_le ha
  have := Gf.mul_lt (a := a) b.toNat (by omega)
  simp only [gm, Int.toNat_natCast]; omega

/-- One round of the product: the facts that the next round wants, of both tests. -/
theorem mul_round {f y n x r : Nat} (h1 : y < 256) (h2 : x < 256) (h3 : n < 256) (h0 : 0 < y) (H : y < 2 ^ f ∧ Gf.mulGo f y n x = r) :
    ∃ g : Nat, y / 2 < 2 ^ g ∧ (∀ n' x' : Nat, n' = (if y % 2 = 1 then n ^^^ x else n) → x' = (if x < 128 then 2 * x else (2 * x) ^^^ 285) → x' < 256 ∧ n' < 256 ∧ Gf.mulGo g (y / 2) n' x' = r) := by
  obtain ⟨hy, hr⟩ := H
  cases f with
  | zero => simp at hy; omega
  | succ g =>
    refine ⟨g, by rw [Nat.pow_succ] at hy; omega, ?_⟩
    intro n' x' hn hx
    subst hn; subst hx
    refine ⟨Gf.dbl_lt x h2, ?_, hr⟩
    split
    · exact Gf.xor_lt h3 h2
    · exact h3

theorem and1_yes {y : Nat} (h : y < 256) (e : (bits .and .u8 (y : Int) 1 == 1) = true) : y % 2 = 1 := by
  rw [bits_and1_u8 h] at e; simp at e; omega
theorem and1_no {y : Nat} (h : y < 256) (e : (bits .and .u8 (y : Int) 1 == 1) = false) : y % 2 ≠ 1 := by
  rw [bits_and1_u8 h] at e; simp at e; omega

set_option maxRecDepth 100000 in
set_option maxHeartbeats 400000 in
theorem fieldMul_any (a b : Int) (w : World) (ha : 0 ≤ a) (ha' : a ≤ 255) (hb : 0 ≤ b) (hb' : b ≤ 255) :
    Calls Try.prog 78 #[.int .u8 a, .int .u8 b] w fun e w' => e = .returned (.int .u8 (gm a b)) ∧ w = w' := by
  obtain ⟨a, rfl⟩ := Int.eq_ofNat_of_zero_le ha
  obtain ⟨b, rfl⟩ := Int.eq_ofNat_of_zero_le hb
  go_enter Try.func78, Try.ntmps78
  go_wp2
  go_loop [1,5,6] (fun y n x => ∃ f y' n' x' : Nat, y = .int .u8 y' ∧ n = .int .i64 n' ∧ x = .int .i64 x' ∧ y' < 256 ∧ x' < 256 ∧ n' < 256 ∧ Hid (y' < 2 ^ f ∧ Gf.mulGo f y' n' x' = Gf.mul a b)) (fun y _ _ => (intOf y).toNat)
  case atStart => exact ⟨8, b, 0, a, rfl, rfl, rfl, by omega, by omega, by omega, by omega, rfl⟩
  case round =>
    obtain ⟨f, y, n, x, rfl, rfl, rfl, h1, h2, h3, H⟩ := hrel
    by_cases h0 : 0 < y
    · go_wp2
      all_goals
        obtain ⟨g, hg, HS⟩ := mul_round h1 h2 h3 h0 H.out
        have HG := Lib.hid hg
        clear hg
      · have t1 := and1_yes h1 (by assumption)
        have t2 : ¬ x < 128 := by omega
        obtain ⟨a1, a2, a3⟩ := HS _ _ rfl rfl
        simp only [t1, t2, if_true, if_false] at a1 a2 a3
        go_round
        case rel => exact ⟨g, y / 2, n ^^^ x, (2 * x) ^^^ 285, by go_num, by rw [bits_xor_i64 (by omega) (by omega)], by rw [show ((x : Int) * 2) = ((2 * x : Nat) : Int) by omega]; exact congrArg _ (bits_xor_i64 (b := 285) (by omega) (by omega)), by omega, a1, a2, HG.out, a3⟩
        case measure => simp [intOf]; omega
      · have t1 := and1_yes h1 (by assumption)
        have t2 : x < 128 := by omega
        obtain ⟨a1, a2, a3⟩ := HS _ _ rfl rfl
        simp only [t1, t2, if_true, if_false] at a1 a2 a3
        go_round
        case rel => exact ⟨g, y / 2, n ^^^ x, 2 * x, by go_num, by rw [bits_xor_i64 (by omega) (by omega)], by go_num, by omega, a1, a2, HG.out, a3⟩
        case measure => simp [intOf]; omega
      · have t1 := and1_no h1 (by assumption)
        have t2 : ¬ x < 128 := by omega
        obtain ⟨a1, a2, a3⟩ := HS _ _ rfl rfl
        simp only [t1, t2, if_true, if_false] at a1 a2 a3
        go_round
        case rel => exact ⟨g, y / 2, n, (2 * x) ^^^ 285, by go_num, rfl, by rw [show ((x : Int) * 2) = ((2 * x : Nat) : Int) by omega]; exact congrArg _ (bits_xor_i64 (b := 285) (by omega) (by omega)), by omega, a1, a2, HG.out, a3⟩
        case measure => simp [intOf]; omega
      · have t1 := and1_no h1 (by assumption)
        have t2 : x < 128 := by omega
        obtain ⟨a1, a2, a3⟩ := HS _ _ rfl rfl
        simp only [t1, t2, if_true, if_false] at a1 a2 a3
        go_round
        case rel => exact ⟨g, y / 2, n, 2 * x, by go_num, rfl, by go_num, by omega, a1, a2, HG.out, a3⟩
        case measure => simp [intOf]; omega
    · obtain rfl : y = 0 := by omega
      have hn : n = Gf.mul a b := by rw [← H.out.2, Gf.mulGo_zero]
      have HN := Lib.hid hn; clear hn
      go_wp2
      go_ret
      refine ⟨?_, rfl⟩
      simp [gm, HN.out]


theorem shr_nat (b k : Nat) : ((b : Int) / 2 ^ k) = ((b / 2 ^ k : Nat) : Int) := by
  rw [Int.natCast_ediv, Int.natCast_pow]; rfl
theorem and1_shr_yes {b k : Nat} (h : (b : Int) ≤ 255) (e : (bits .and .u8 ((b : Int) / 2 ^ k) 1 == 1) = true) : b / 2 ^ k % 2 = 1 := by
  have : b / 2 ^ k ≤ b := Nat.div_le_self _ _
  rw [shr_nat, bits_and1_u8 (by omega)] at e; have := beq_iff_eq.1 e; omega
theorem and1_shr_no {b k : Nat} (h : (b : Int) ≤ 255) (e : (bits .and .u8 ((b : Int) / 2 ^ k) 1 == 1) = false) : b / 2 ^ k % 2 ≠ 1 := by
  have : b / 2 ^ k ≤ b := Nat.div_le_self _ _
  rw [shr_nat, bits_and1_u8 (by omega)] at e; have := beq_eq_false_iff_ne.1 e; omega
theorem ref_round {b k n x r : Nat} (h0 : k < 8) (h2 : x < 256) (h3 : n < 256) (H : Gf.mulGo (8 - k) (b / 2 ^ k) n x = r) :
    ∀ n' x' : Nat, n' = (if b / 2 ^ k % 2 = 1 then n ^^^ x else n) → x' = (if x < 128 then 2 * x else (2 * x) ^^^ 285) → x' < 256 ∧ n' < 256 ∧ Hid (Gf.mulGo (8 - (k + 1)) (b / 2 ^ (k + 1)) n' x' = r) := by
  intro n' x' hn hx
  subst hn; subst hx
  refine ⟨Gf.dbl_lt x h2, ?_, ?_⟩
  · split
    · exact Gf.xor_lt h3 h2
    · exact h3
  · rw [show 8 - k = (8 - (k + 1)) + 1 by omega, Gf.mulGo] at H
    rw [Nat.pow_succ, ← Nat.div_div_eq_div_mul]
    exact H

set_option maxRecDepth 100000 in
set_option maxHeartbeats 400000 in
theorem refMul_any (a b : Int) (w : World) (ha : 0 ≤ a) (ha' : a ≤ 255) (hb : 0 ≤ b) (hb' : b ≤ 255) :
    Calls Try.prog 28 #[.int .u8 a, .int .u8 b] w fun e w' => e = .returned (.int .u8 (gm a b)) ∧ w = w' := by
  obtain ⟨a, rfl⟩ := Int.eq_ofNat_of_zero_le ha
  obtain ⟨b, rfl⟩ := Int.eq_ofNat_of_zero_le hb
  go_enter Try.func28, Try.ntmps28
  go_wp2
  go_loop [5,6,7] (fun x n i => ∃ k n' x' : Nat, i = .int .i64 k ∧ n = .int .i64 n' ∧ x = .int .i64 x' ∧ k ≤ 8 ∧ x' < 256 ∧ n' < 256 ∧ Hid (Gf.mulGo (8 - k) (b / 2 ^ k) n' x' = Gf.mul a b)) (fun _ _ i => (8 - intOf i).toNat)
  case atStart => exact ⟨0, 0, a, rfl, rfl, rfl, by omega, by omega, by omega, by simp [Hid, Gf.mul]⟩
  case round =>
    obtain ⟨k, n, x, rfl, rfl, rfl, h1, h2, h3, H⟩ := hrel
    by_cases h0 : k < 8
    · go_wp2
      · have t1 := and1_shr_yes hb' (by assumption)
        have t2 : ¬ x < 128 := by omega
        obtain ⟨a1, a2, a3⟩ := ref_round h0 h2 h3 H.out _ _ rfl rfl
        simp only [t1, t2, if_true, if_false] at a1 a2 a3
        go_round
        case rel => exact ⟨k + 1, n ^^^ x, (2 * x) ^^^ 285, by go_num, by rw [bits_xor_i64 (by omega) (by omega)], by rw [show ((x : Int) * 2) = ((2 * x : Nat) : Int) by omega]; exact congrArg _ (bits_xor_i64 (b := 285) (by omega) (by omega)), by omega, a1, a2, a3⟩
        case measure => simp [intOf]; omega
      · have t1 := and1_shr_yes hb' (by assumption)
        have t2 : x < 128 := by omega
        obtain ⟨a1, a2, a3⟩ := ref_round h0 h2 h3 H.out _ _ rfl rfl
        simp only [t1, t2, if_true, if_false] at a1 a2 a3
        go_round
        case rel => exact ⟨k + 1, n ^^^ x, 2 * x, by go_num, by rw [bits_xor_i64 (by omega) (by omega)], by go_num, by omega, a1, a2, a3⟩
        case measure => simp [intOf]; omega
      · have t1 := and1_shr_no hb' (by assumption)
        have t2 : ¬ x < 128 := by omega
        obtain ⟨a1, a2, a3⟩ := ref_round h0 h2 h3 H.out _ _ rfl rfl
        simp only [t1, t2, if_true, if_false] at a1 a2 a3
        go_round
        case rel => exact ⟨k + 1, n, (2 * x) ^^^ 285, by go_num, rfl, by rw [show ((x : Int) * 2) = ((2 * x : Nat) : Int) by omega]; exact congrArg _ (bits_xor_i64 (b := 285) (by omega) (by omega)), by omega, a1, a2, a3⟩
        case measure => simp [intOf]; omega
      · have t1 := and1_shr_no hb' (by assumption)
        have t2 : x < 128 := by omega
        obtain ⟨a1, a2, a3⟩ := ref_round h0 h2 h3 H.out _ _ rfl rfl
        simp only [t1, t2, if_true, if_false] at a1 a2 a3
        go_round
        case rel => exact ⟨k + 1, n, 2 * x, by go_num, rfl, by go_num, by omega, a1, a2, a3⟩
        case measure => simp [intOf]; omega
    · obtain rfl : k = 8 := by omega
      have HN := Lib.hid H.out
      clear H
      go_wp2
      go_ret
      refine ⟨?_, rfl⟩
      simp [gm, ← HN.out, Gf.mulGo]
end Go.Proofs.Ytdagnmhioellhaa

/- What lane.Into does to bytes: another lane, scaled, is added; plainly. -/

namespace Go.Proofs.Ytdagnmhioellhaa
open Go.ChangeShapes Go.WideShapes Go.ChangeAt Go.RowKit Go.Joins
set_option linter.unusedVariables false
set_option linter.unusedSimpArgs false

/-- A text's byte. -/
def byN (s : ByteArray) (i : Nat) : Nat := (s.data.toList.getD i 0).toNat
theorem byN_eq {s : ByteArray} {i : Nat} (h : i < s.size) : byN s i = (s[i]'h).toNat := by
  rw [byN, List.getD, List.getElem?_eq_getElem (by simpa using h)]; rfl
theorem byN_lt (s : ByteArray) (i : Nat) : byN s i < 256 := UInt8.toNat_lt _
theorem bytesOf_get (s : ByteArray) (i : Nat) : (bytesOf s).getD i 0 = byN s i := by
  by_cases h : i < s.size
  · simp [bytesOf, byN, List.getD, h]
  · simp [bytesOf, byN, List.getD, h]

/-- Bytes from off on, n of them, and a lane scaled. -/
def intoL (s : ByteArray) (c off n : Nat) (l : List Nat) : List Nat := (List.range n).foldl (fun l i => l.set (off + i) (l.getD (off + i) 0 ^^^ Gf.mul (byN s i) c)) l
theorem intoL_zero (s : ByteArray) (c off : Nat) (l : List Nat) : intoL s c off 0 l = l := rfl
theorem intoL_step (s : ByteArray) (c off n : Nat) (l : List Nat) : intoL s c off (n + 1) l = (intoL s c off n l).set (off + n) ((intoL s c off n l).getD (off + n) 0 ^^^ Gf.mul (byN s n) c) := by
  rw [intoL, List.range_succ, List.foldl_append]; rfl
theorem intoL_length (s : ByteArray) (c off n : Nat) (l : List Nat) : (intoL s c off n l).length = l.length := by
  induction n with
  | zero => rfl
  | succ n ih => rw [intoL_step, List.length_set, ih]
theorem getD_set_eq {l : List Nat} {i v : Nat} (h : i < l.length) : (l.set i v).getD i 0 = v := by simp [List.getD, h]
theorem getD_set_ne {l : List Nat} {i j v : Nat} (h : i ≠ j) : (l.set i v).getD j 0 = l.getD j 0 := by simp [List.getD, List.getElem?_set, h]
theorem intoL_far (s : ByteArray) (c off n : Nat) (l : List Nat) (j : Nat) (h : j < off ∨ off + n ≤ j) : (intoL s c off n l).getD j 0 = l.getD j 0 := by
  induction n with
  | zero => rfl
  | succ n ih => rw [intoL_step, getD_set_ne (by omega), ih (by omega)]
theorem intoL_get (s : ByteArray) (c off n : Nat) (l : List Nat) (i : Nat) (hi : i < n) (hl : off + n ≤ l.length) : (intoL s c off n l).getD (off + i) 0 = l.getD (off + i) 0 ^^^ Gf.mul (byN s i) c := by
  induction n with
  | zero => omega
  | succ n ih =>
    by_cases h : i = n
    · rw [intoL_step, h, getD_set_eq (by rw [intoL_length]; omega), intoL_far s c off n l (off + n) (by omega)]
    · rw [intoL_step, getD_set_ne (by omega), ih (by omega) (by omega)]
theorem intoL_succ (s : ByteArray) (c off n : Nat) (l : List Nat) : intoL s c off (n + 1) l = (intoL s c off n l).set (off + n) (l.getD (off + n) 0 ^^^ Gf.mul (byN s n) c) := by
  rw [intoL_step, intoL_far s c off n l (off + n) (by omega)]
theorem set_getD_self (l : List Nat) (i : Nat) : l.set i (l.getD i 0) = l := by
  apply List.ext_getElem
  · simp
  · intro j h1 h2
    rw [List.getElem_set]
    split
    · rename_i e; subst e; simp [List.getD, h2]
    · rfl
theorem intoL_none (s : ByteArray) (off n : Nat) (l : List Nat) : intoL s 0 off n l = l := by
  induction n with
  | zero => rfl
  | succ n ih => rw [intoL_succ, Gf.mul_zero, Nat.xor_zero, ih, set_getD_self]
end Go.Proofs.Ytdagnmhioellhaa

/- lane.Into, walked: of less than 256 bytes. -/

namespace Go.Proofs.Ytdagnmhioellhaa
open Go.ChangeShapes Go.WideShapes Go.ChangeAt Go.RowKit Go.Joins
set_option linter.unusedVariables false
set_option linter.unusedSimpArgs false

theorem fieldMul_nat (a b g : Nat) (w : World) (ha : a < 256) (hb : b < 256) (hg : Gf.mul a b = g) :
    Calls Try.prog 78 #[.int .u8 (a : Int), .int .u8 (b : Int)] w fun e w' => e = .returned (.int .u8 (g : Int)) ∧ w = w' := by
  have h := fieldMul_any (a : Int) (b : Int) w (by omega) (by omega) (by omega) (by omega)
  rw [gm_nat, hg] at h
  exact h

set_option maxRecDepth 100000 in
set_option maxHeartbeats 1000000 in
theorem into_small (B off n cap : Nat) (ns : List Nat) (s : ByteArray) (c : Nat) (w : World) (h : BytesBlk w B ns) (hB : B < w.heap.size) (hoff : off + n ≤ ns.length) (hns : ns.length ≤ 100000) (hs : n ≤ s.size) (hs2 : s.size ≤ 100000) (hc : c < 256) (hc0 : 0 < c) (hn : n < 256) :
    Calls Try.prog 59 #[.slice (some ⟨B, off, none⟩) n cap, .string s, .int .u8 (c : Int)] w fun e w' => e = .returned (.tuple #[]) ∧ BytesBlk w' B (intoL s c off n ns) ∧ Kept (fun k => k = B) w w' := by
  have HD0 := Lib.hid h
  have hcz : ((c : Int) == 0) = false := beq_eq_false_iff_ne.2 (by omega)
  have hnd : decide ((n : Int) < 256) = true := by simp; omega
  clear h
  go_enter Try.func59, Try.ntmps59
  go_wp2_with fail
  go_loopw [17] (fun i wr => ∃ k : Nat, i = .int .i64 k ∧ k ≤ n ∧ Hid (BytesBlk wr B (intoL s c off k ns)) ∧ Hid (Kept (fun k => k = B) w wr)) (fun i _ => n - (intOf i).toNat)
  case atStart => exact ⟨0, rfl, by omega, HD0, Lib.hid (Kept.refl _ _)⟩
  case round =>
    clear HD0
    obtain ⟨k, rfl, hk, HD, HK⟩ := hrel
    by_cases hlt : k < n
    · have ha : k < s.size := by omega
      obtain ⟨a, hca, ha2, ha256⟩ : ∃ a : Nat, (∀ h : k < s.size, (s[k]'h).toNat = a) ∧ byN s k = a ∧ a < 256 := ⟨byN s k, fun h => (byN_eq h).symm, rfl, byN_lt _ _⟩
      obtain ⟨c1, c2, c3⟩ := HD.out (off + k) (by rw [intoL_length]; omega)
      rw [intoL_far s c off k ns (off + k) (by omega)] at c1 c2
      obtain ⟨g, hg⟩ : ∃ g, Gf.mul a c = g := ⟨_, rfl⟩
      have hg256 : g < 256 := by rw [← hg]; exact Gf.mul_lt c ha256
      obtain ⟨x, hx⟩ : ∃ x, ns.getD (off + k) 0 = x := ⟨_, rfl⟩
      rw [hx] at c1 c2
      have hxg := bits_xor_u8 c1 hg256
      obtain ⟨z, hz⟩ : ∃ z, z = x ^^^ g := ⟨_, rfl⟩
      have hz256 : z < 256 := by rw [hz]; exact Nat.xor_lt_two_pow (n := 8) c1 hg256
      have HD1 : Hid (BytesBlk (wr.setCell ⟨B, off + k, none⟩ (.int .u8 (z : Int))) B (intoL s c off (k + 1) ns)) := by
        rw [Hid, intoL_succ, ha2, hx, hg, ← hz]; exact HD.out.next hz256
      rw [← hz] at hxg
      have HG := Lib.hid hg
      have i0 : (0 : Int) ≤ (k : Int) := by omega
      have i1 : (k : Int) < (n : Int) := by omega
      have i2 : (k : Int) < (s.size : Int) := by omega
      have HKK : Hid (Kept (fun k => k = B) w (wr.setCell ⟨B, off + k, none⟩ (.int .u8 (z : Int)))) := Lib.hid (HK.out.setCell (d := ⟨B, off + k, none⟩) (fun _ => rfl) _)
      clear hx hz hg ha2
      go_upto_region 5 with (fail)
      clear HK HD
      go_region_with (first | (go_at_call 78; refine (fieldMul_nat _ _ _ _ (by omega) (by omega) HG.out).mono ?_; rintro e w' ⟨rfl, rfl⟩))
      all_goals
        clear c2 c3
        go_wp2_with fail
        go_roundw
        case rel => first | exact ⟨k + 1, by go_num, by omega, HD1, HKK⟩ | exact ⟨k + 1, by go_num, by omega, HD1, Lib.hid (Kept.drew HKK.out)⟩ | exact ⟨k + 1, by go_num, by omega, HD1, Lib.hid (Kept.drew (Kept.drew HKK.out))⟩
        case measure => simp [intOf]; omega
    · have hke : k = n := by omega
      have H1 := HD.out
      rw [hke] at H1
      have HD1 := Lib.hid H1
      clear hke H1
      go_wp2_with fail
      all_goals
        (try simp only [Exit.inBlock, Exit.then])
        first | refine bodyPost_ret (results_none rfl _ _ _) rfl ?_ | refine bodyPost_end (results_none rfl _ _ _) rfl ?_
        exact ⟨rfl, HD1.out, HK.out⟩
end Go.Proofs.Ytdagnmhioellhaa

/- lane.Into, walked: of 256 bytes and more; and of whatever number. -/

namespace Go.Proofs.Ytdagnmhioellhaa
open Go.ChangeShapes Go.WideShapes Go.ChangeAt Go.RowKit Go.Joins
set_option linter.unusedVariables false
set_option linter.unusedSimpArgs false

theorem zero_table : ∀ w, (zeroValue 106).run Try.prog w = .ok (.agg (cellsOf8 (List.replicate 256 0))) w := by
  intro w
  kernel_rfl
theorem BytesBlk.below {w w' : World} {B : Nat} {ns : List Nat} (h : BytesBlk w B ns) (hB : B < w.heap.size) (hb : Below w.heap.size w w') : BytesBlk w' B ns := fun i hi =>
  ⟨(h i hi).1, by rw [World.cell?_of_block (w := w) (hb.block B hB)]; exact (h i hi).2.1, by rw [World.frozen?_of_block (w := w) (hb.block B hB)]; exact (h i hi).2.2⟩
theorem BytesBlk.far {w : World} {B T k : Nat} {ns : List Nat} {v : Value} (h : BytesBlk w B ns) (hne : T ≠ B) : BytesBlk (w.setCell ⟨T, k, none⟩ v) B ns := fun i hi =>
  ⟨(h i hi).1, by rw [World.cell?_setCell_other _ _ _ _ (by simp [hne])]; exact (h i hi).2.1, by rw [World.frozen?_setCell]; exact (h i hi).2.2⟩
theorem bytesBlk_new (w : World) {ns ms : List Nat} (h : ms = ns) (T : TypeId) (hlt : ∀ n ∈ ns, n < 256) : BytesBlk (w.alloc (.cells (cellsOf8 ns) T)) w.heap.size ms := by
  subst h
  intro i hi
  have hg : ms.getD i 0 < 256 := getD_lt hlt hi
  refine ⟨hg, ?_, by simp [go_sem]⟩
  rw [cell_of_row _ _ _ _ _ _ (heap_alloc_new w _)]
  simp [cellsOf8, hi]
/-- The table as k products stand in it. -/
def tabL (c k : Nat) : List Nat := (List.range 256).map fun j => if j < k then Gf.mul j c else 0
theorem tabL_length (c k : Nat) : (tabL c k).length = 256 := by simp [tabL]
theorem tabL_zero (c : Nat) : tabL c 0 = List.replicate 256 0 := by
  apply List.ext_getElem
  · rw [tabL_length, List.length_replicate]
  · intro j h1 h2
    rw [List.getElem_replicate]
    simp only [tabL, List.getElem_map, Nat.not_lt_zero, if_false]
theorem tabL_succ (c k : Nat) : tabL c (k + 1) = (tabL c k).set k (Gf.mul k c) := by
  apply List.ext_getElem
  · simp [tabL]
  · intro j h1 h2
    by_cases e : k = j
    · subst e
      rw [List.getElem_set_self]
      simp only [tabL, List.getElem_map, List.getElem_range]
      rw [if_pos (by omega)]
    · rw [List.getElem_set_ne e]
      simp only [tabL, List.getElem_map, List.getElem_range, show j < k + 1 ↔ j < k by omega]
theorem tabL_get (c : Nat) {a : Nat} (h : a < 256) : (tabL c 256).getD a 0 = Gf.mul a c := by simp [tabL, List.getD, h]

set_option maxRecDepth 100000 in
set_option maxHeartbeats 1000000 in
theorem into_big (B off n cap : Nat) (ns : List Nat) (s : ByteArray) (c : Nat) (w : World) (h : BytesBlk w B ns) (hB : B < w.heap.size) (hoff : off + n ≤ ns.length) (hns : ns.length ≤ 100000) (hs : n ≤ s.size) (hs2 : s.size ≤ 100000) (hc : c < 256) (hc0 : 0 < c) (hn : 256 ≤ n) :
    Calls Try.prog 59 #[.slice (some ⟨B, off, none⟩) n cap, .string s, .int .u8 (c : Int)] w fun e w' => e = .returned (.tuple #[]) ∧ BytesBlk w' B (intoL s c off n ns) ∧ Kept (fun k => k = B) w w' := by
  have HD0 := Lib.hid h
  have hcz : ((c : Int) == 0) = false := beq_eq_false_iff_ne.2 (by omega)
  have hnd : decide ((n : Int) < 256) = false := by simp; omega
  clear h
  have hal := zero_table
  obtain ⟨C, hC⟩ : ∃ C, C = cellsOf8 (List.replicate 256 0) := ⟨_, rfl⟩
  rw [← hC] at hal
  have HCC := Lib.hid hC
  clear hC
  go_enter Try.func59, Try.ntmps59
  go_wp2_with fail
  have HT0 : Hid (BytesBlk (w.alloc (.cells C 106)) w.heap.size (tabL c 0)) := by rw [HCC.out, tabL_zero]; exact bytesBlk_new w (ns := List.replicate 256 0) rfl _ (by simp)
  have HK0 : Hid (Kept (fun k => k = B) w (w.alloc (.cells C 106))) := Lib.hid ((Kept.refl _ _).alloc _)
  have HD1 : Hid (BytesBlk (w.alloc (.cells C 106)) B ns) := Lib.hid (HD0.out.below hB ((Below.refl _ _).alloc (Nat.le_refl _) _))
  clear hal HCC HD0
  generalize w.alloc (.cells C 106) = W1 at *
  go_loopw [32] (fun i wr => ∃ k : Nat, i = .int .i64 k ∧ k ≤ 256 ∧ Hid (BytesBlk wr w.heap.size (tabL c k)) ∧ Hid (BytesBlk wr B ns) ∧ Hid (Kept (fun k => k = B) w wr)) (fun i _ => 256 - (intOf i).toNat)
  case atStart => exact ⟨0, rfl, by omega, HT0, HD1, HK0⟩
  case round =>
    clear HT0 HD1 HK0
    obtain ⟨k, rfl, hk, HT, HD, HK⟩ := hrel
    by_cases hlt : k < 256
    · obtain ⟨_, c2, c3⟩ := HT.out k (by rw [tabL_length]; exact hlt)
      generalize (tabL c k).getD k 0 = old at c2
      obtain ⟨g, hg⟩ : ∃ g, Gf.mul k c = g := ⟨_, rfl⟩
      have hg256 : g < 256 := by rw [← hg]; exact Gf.mul_lt c hlt
      have HT1 : Hid (BytesBlk (wr.setCell ⟨w.heap.size, k, none⟩ (.int .u8 (g : Int))) w.heap.size (tabL c (k + 1))) := by
        rw [Hid, tabL_succ, hg]; exact HT.out.next hg256
      have HD1 : Hid (BytesBlk (wr.setCell ⟨w.heap.size, k, none⟩ (.int .u8 (g : Int))) B ns) := Lib.hid (HD.out.far (by omega))
      have HK1 : Hid (Kept (fun k => k = B) w (wr.setCell ⟨w.heap.size, k, none⟩ (.int .u8 (g : Int)))) := Lib.hid (HK.out.setCell (d := ⟨w.heap.size, k, none⟩) (fun h => absurd h (Nat.lt_irrefl _)) _)
      have HG := Lib.hid hg
      have ew : IntKind.u8.wrap (k : Int) = (k : Int) := IntWalk.u8_in _ (by omega)
      have em : (k : Int) % 256 = (k : Int) := by omega
      have i0 : (0 : Int) ≤ (k : Int) := by omega
      clear hg HT HD HK
      go_wp2_with (first | (go_at_call 78; refine (fieldMul_nat _ _ _ _ (by omega) (by omega) HG.out).mono ?_; rintro e w' ⟨rfl, rfl⟩))
      go_roundw
      case rel => exact ⟨k + 1, by go_num, by omega, HT1, HD1, HK1⟩
      case measure => simp [intOf]; omega
    · have hke : k = 256 := by omega
      have H1 := HT.out
      rw [hke] at H1
      have HT1 := Lib.hid H1
      clear H1 HT hke
      have hTB : w.heap.size ≠ B := by omega
      obtain ⟨W2, rfl⟩ : ∃ W2 : World, W2 = wr := ⟨_, rfl⟩
      generalize hTT : w.heap.size = T at *
      go_wp2_with fail
      go_loopw [44] (fun i wx => ∃ k : Nat, i = .int .i64 k ∧ k ≤ n ∧ Hid (BytesBlk wx T (tabL c 256)) ∧ Hid (BytesBlk wx B (intoL s c off k ns)) ∧ Hid (Kept (fun k => k = B) w wx)) (fun i _ => n - (intOf i).toNat)
      case atStart => exact ⟨0, rfl, by omega, HT1, HD, HK⟩
      case round =>
        clear HT1 HD HK
        obtain ⟨k, rfl, hk, HT, HD, HK⟩ := hrel
        by_cases hlt : k < n
        · have ha : k < s.size := by omega
          obtain ⟨a, hca, ha2, ha256⟩ : ∃ a : Nat, (∀ h : k < s.size, (s[k]'h).toNat = a) ∧ byN s k = a ∧ a < 256 := ⟨byN s k, fun h => (byN_eq h).symm, rfl, byN_lt _ _⟩
          obtain ⟨c1, c2, c3⟩ := HD.out (off + k) (by rw [intoL_length]; omega)
          rw [intoL_far s c off k ns (off + k) (by omega)] at c1 c2
          obtain ⟨d1, d2, _⟩ := HT.out a (by rw [tabL_length]; exact ha256)
          rw [tabL_get c ha256] at d1 d2
          obtain ⟨g, hg⟩ : ∃ g, Gf.mul a c = g := ⟨_, rfl⟩
          rw [hg] at d1 d2
          obtain ⟨x, hx⟩ : ∃ x, ns.getD (off + k) 0 = x := ⟨_, rfl⟩
          rw [hx] at c1 c2
          have hxg := bits_xor_u8 c1 d1
          obtain ⟨z, hz⟩ : ∃ z, z = x ^^^ g := ⟨_, rfl⟩
          have hz256 : z < 256 := by rw [hz]; exact Nat.xor_lt_two_pow (n := 8) c1 d1
          have HD1 : Hid (BytesBlk (wr.setCell ⟨B, off + k, none⟩ (.int .u8 (z : Int))) B (intoL s c off (k + 1) ns)) := by
            rw [Hid, intoL_succ, ha2, hx, hg, ← hz]; exact HD.out.next hz256
          have HT2 : Hid (BytesBlk (wr.setCell ⟨B, off + k, none⟩ (.int .u8 (z : Int))) T (tabL c 256)) := Lib.hid (HT.out.far (Ne.symm hTB))
          have HKK : Hid (Kept (fun k => k = B) w (wr.setCell ⟨B, off + k, none⟩ (.int .u8 (z : Int)))) := Lib.hid (HK.out.setCell (d := ⟨B, off + k, none⟩) (fun _ => rfl) _)
          rw [← hz] at hxg
          have i0 : (0 : Int) ≤ (k : Int) := by omega
          have i1 : (k : Int) < (n : Int) := by omega
          have i2 : (k : Int) < (s.size : Int) := by omega
          have i3 : (0 : Int) ≤ (a : Int) := by omega
          have i4 : (a : Int) < 256 := by omega
          clear hx hz hg ha2 HK HD HT
          go_upto_region 16 with (fail)
          go_still_tail 11, (by kernel_rfl)
          change wpList _ _ _ _ _ (World.drew _)
          go_wp2_with fail
          go_roundw
          case rel => exact ⟨k + 1, by go_num, by omega, HT2, HD1, Lib.hid (Kept.drew HKK.out)⟩
          case measure => simp [intOf]; omega
        · have hke : k = n := by omega
          have H1 := HD.out
          rw [hke] at H1
          have HD1 := Lib.hid H1
          clear hke H1
          go_wp2_with fail
          all_goals
            (try simp only [Exit.inBlock, Exit.then])
            first | refine bodyPost_ret (results_none rfl _ _ _) rfl ?_ | refine bodyPost_end (results_none rfl _ _ _) rfl ?_
            exact ⟨rfl, HD1.out, HK.out⟩

set_option maxRecDepth 100000 in
set_option maxHeartbeats 400000 in
theorem into_none (B off n cap : Nat) (s : ByteArray) (w : World) :
    Calls Try.prog 59 #[.slice (some ⟨B, off, none⟩) n cap, .string s, .int .u8 0] w fun e w' => e = .returned (.tuple #[]) ∧ w = w' := by
  go_enter Try.func59, Try.ntmps59
  go_wp2_with fail
  (try simp only [Exit.inBlock, Exit.then])
  first | refine bodyPost_ret (results_none rfl _ _ _) rfl ?_ | refine bodyPost_end (results_none rfl _ _ _) rfl ?_
  exact ⟨rfl, rfl⟩

/-- lane.Into, of whatever bytes. -/
theorem into_any (B off n cap : Nat) (ns : List Nat) (s : ByteArray) (c : Nat) (w : World) (h : BytesBlk w B ns) (hB : B < w.heap.size) (hoff : off + n ≤ ns.length) (hns : ns.length ≤ 100000) (hs : n ≤ s.size) (hs2 : s.size ≤ 100000) (hc : c < 256) :
    Calls Try.prog 59 #[.slice (some ⟨B, off, none⟩) n cap, .string s, .int .u8 (c : Int)] w fun e w' => e = .returned (.tuple #[]) ∧ BytesBlk w' B (intoL s c off n ns) ∧ Kept (fun k => k = B) w w' := by
  by_cases hc0 : 0 < c
  · by_cases hn : n < 256
    · exact into_small B off n cap ns s c w h hB hoff hns hs hs2 hc hc0 hn
    · exact into_big B off n cap ns s c w h hB hoff hns hs hs2 hc hc0 (by omega)
  · have e : c = 0 := by omega
    subst e
    refine (into_none B off n cap s w).mono fun e w' ⟨he, hw⟩ => ?_
    subst hw
    exact ⟨he, by rw [intoL_none]; exact h, Kept.refl _ _⟩
end Go.Proofs.Ytdagnmhioellhaa
