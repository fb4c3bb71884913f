/- The page's own: siloref11.Number, High, Sum. -/
import Derived.Test.YtiminahobifomaaDoorShG
import Derived.Test.YtiminahobifomaaDoorShB
namespace Go.Proofs.YtiminahobifomaaDoor
open Go.ChangeShapes Go.WideShapes Go.ChangeAt Go.RowKit Go.Joins
set_option linter.unusedVariables false
set_option linter.unusedSimpArgs false

theorem bits_or_i64 {a b : Nat} (ha : a < 2 ^ 62) (hb : b < 2 ^ 62) : bits .or .i64 (a : Int) (b : Int) = ((a ||| b : Nat) : Int) := by
  rw [bits_or_k .i64 (by exact Nat.lt_trans ha (by decide)) (by exact Nat.lt_trans hb (by decide))]
  exact IntWalk.i64_in _ (by have := Nat.or_lt_two_pow ha hb; omega)

set_option maxRecDepth 100000 in
set_option maxHeartbeats 1000000 in
theorem refNumber_any (s : ByteArray) (w : World) (hs : s.size ≤ 6) :
    Calls Tryd.prog 49 #[.string s] w fun e w' => e = .returned (.int .i64 (numB (bytesOf s) : Int)) ∧ w = w' := by
  go_enter Tryd.func49, Tryd.ntmps49
  go_wp2_with fail
  go_loop [3, 4] (fun x i => ∃ (k y : Nat), i = .int .i64 k ∧ x = .int .i64 (y : Int) ∧ k ≤ s.size ∧ Hid (y < 256 ^ k ∧ y = numB ((bytesOf s).take k))) (fun _ i => s.size - (intOf i).toNat)
  case atStart => exact ⟨0, 0, rfl, rfl, by omega, by simp [numB, Hid]⟩
  case round =>
    obtain ⟨k, y, rfl, rfl, hk, H⟩ := hrel
    by_cases hlt : k < s.size
    · have hb8 := s[k].toNat_lt
      have hy : y < 1099511627776 := Nat.lt_of_lt_of_le H.out.1 (Nat.le_trans (Nat.pow_le_pow_right (by omega) (show k ≤ 5 by omega)) (by decide))
      have hw64 : IntKind.i64.wrap (s[k].toNat : Int) = (s[k].toNat : Int) := IntWalk.i64_in _ (by omega)
      have hb := s[k].toNat_lt
      have hwy : IntKind.i64.wrap ((y : Int) * 256) = (y : Int) * 256 := IntWalk.i64_in _ (by omega)
      have e1 : bits .or .i64 ((y : Int) * 256) (s[k].toNat : Int) = ((y * 256 + s[k].toNat : Nat) : Int) := by
        have h1 : ((y : Int) * 256) = ((y * 256 : Nat) : Int) := by simp
        have h2 : y * 256 ||| s[k].toNat = y * 256 + s[k].toNat := by
          have h := Nat.two_pow_add_eq_or_of_lt (i := 8) (b := s[k].toNat) (by exact hb) y
          rw [Nat.mul_comm y 256]
          exact h.symm
        rw [h1, bits_or_i64 (by omega) (by omega), h2]
      have HZ : Hid (y * 256 + s[k].toNat < 256 ^ (k + 1) ∧ y * 256 + s[k].toNat = numB ((bytesOf s).take (k + 1))) := by
        have hy2 := H.out.1
        refine ⟨by rw [Nat.pow_succ]; omega, ?_⟩
        rw [bytesOf_take s k hlt, numB_snoc, ← H.out.2]
      clear hb8
      go_wp2_with fail
      go_round
      case rel => exact ⟨k + 1, y * 256 + s[k].toNat, by go_num, by first | rw [e1] | simp, by omega, HZ⟩
      case measure => simp [intOf]; omega
    · obtain rfl : k = s.size := by omega
      have HE : Hid (y = numB (bytesOf s)) := by
        rw [Hid, H.out.2, List.take_of_length_le (by rw [bytesOf_length]; omega)]
      go_wp2_with fail
      go_ret
      exact ⟨by rw [← HE.out]; rfl, rfl⟩

/-- So many bytes of a whole number, the highest first. -/
def beI : Nat → Int → List Nat
  | 0, _ => []
  | k + 1, n => beI k (n / 256) ++ [(n % 256).toNat]
theorem beI_nat : ∀ (size n : Nat), beI size (n : Int) = beL size n
  | 0, n => by simp [beI, beL]
  | k + 1, n => by
    rw [beI, beL_snoc, show (n : Int) / 256 = ((n / 256 : Nat) : Int) by omega, beI_nat k (n / 256), show ((n : Int) % 256).toNat = n % 256 by omega]
theorem beI_low : ∀ (size n : Nat), beI size ((n : Int) - 256 ^ size) = beL size n
  | 0, n => by simp [beI, beL]
  | k + 1, n => by
    have e : ((n : Int) - 256 ^ (k + 1)) / 256 = ((n / 256 : Nat) : Int) - 256 ^ k := by
      have : (256 : Int) ^ (k + 1) = 256 ^ k * 256 := Int.pow_succ ..
      omega
    have e2 : (((n : Int) - 256 ^ (k + 1)) % 256).toNat = n % 256 := by
      have : (256 : Int) ^ (k + 1) = 256 ^ k * 256 := Int.pow_succ ..
      omega
    rw [beI, beL_snoc, e, beI_low k (n / 256), e2]
theorem beI_wrap (n : Nat) (h : n < 18446744073709551616) : beI 8 (wrap64 (n : Int)) = beL 8 n := by
  by_cases hn : n < 9223372036854775808
  · rw [show wrap64 (n : Int) = (n : Int) by unfold wrap64; omega, beI_nat]
  · have : wrap64 (n : Int) = (n : Int) - 256 ^ 8 := by unfold wrap64; omega
    rw [this, beI_low]
theorem beI_lt : ∀ (size : Nat) (n : Int), ∀ b ∈ beI size n, b < 256
  | 0, n, b, hb => by simp [beI] at hb
  | k + 1, n, b, hb => by
    rw [beI, List.mem_append] at hb
    rcases hb with h | h
    · exact beI_lt k _ b h
    · simp at h; omega
theorem beI_len : ∀ (size : Nat) (n : Int), (beI size n).length = size
  | 0, n => rfl
  | k + 1, n => by rw [beI, List.length_append, beI_len k]; rfl

set_option maxRecDepth 100000 in
set_option maxHeartbeats 2000000 in
theorem high_any (n : Int) (many : Nat) (w : World) (h0 : -9223372036854775808 ≤ n) (h1 : n < 9223372036854775808) (hm : many ≤ 8) :
    Calls Tryd.prog 30 #[.int .i64 n, .int .i64 (many : Int)] w fun e w' => e = .returned (.string (strOf8 (beI many n))) ∧ Below w.heap.size w w' := by
  have hmk := hmk8 (n := many) (by omega)
  have wm : IntKind.i64.wrap ((many : Int) - 1) = (many : Int) - 1 := IntWalk.i64_in _ (by omega)
  have hbk : BytesBlk (w.alloc (.cells (cellsOf8 (List.replicate many 0)) 5)) w.heap.size (List.replicate many 0) := bytesBlk_new w rfl _ (fun b hb => by rw [List.eq_of_mem_replicate hb]; decide)
  have hbe := (Below.refl w.heap.size w).alloc (Nat.le_refl _) (.cells (cellsOf8 (List.replicate many 0)) 5)
  have hBs : w.heap.size < (w.alloc (.cells (cellsOf8 (List.replicate many 0)) 5)).heap.size := by simp
  go_enter Tryd.func30, Tryd.ntmps30
  go_wp2_with fail
  clear hmk
  generalize w.alloc (.cells (cellsOf8 (List.replicate many 0)) 5) = W at *
  obtain ⟨B, hB⟩ : ∃ B, B = w.heap.size := ⟨_, rfl⟩
  rw [← hB] at hbk hbe hBs ⊢
  have HBE := Lib.hid hbe
  have HBQ := Lib.hid hB
  clear hbe hB
  go_loopw [0, 6] (fun nv iv wr => ∃ (k : Nat) (x : Int) (tl : List Nat), nv = .int .i64 x ∧ iv = .int .i64 ((k : Int) - 1) ∧ k ≤ many ∧ -9223372036854775808 ≤ x ∧ x < 9223372036854775808 ∧ Hid (beI many n = beI k x ++ tl) ∧ Hid (BytesBlk wr B (List.replicate k 0 ++ tl)) ∧ Hid (Below B w wr) ∧ B < wr.heap.size) (fun _ i _ => (intOf i + 1).toNat)
  case atStart => exact ⟨many, n, [], rfl, rfl, by omega, h0, h1, by rw [Hid, List.append_nil], by rw [Hid, List.append_nil]; exact hbk, HBE, hBs⟩
  case round =>
    obtain ⟨k, x, tl, rfl, rfl, hk, hx0, hx1, HE, HK, HW, hBw⟩ := hrel
    rcases k with _ | k
    · have hd : decide ((0 : Int) ≤ ((0 : Nat) : Int) - 1) = false := by decide
      have hl : tl.length = many := by
        have h := congrArg List.length HE.out
        rw [List.length_append, beI_len, beI_len] at h
        omega
      have hcv := convert_bytes (P := Tryd.prog) (w := wr) (b := B) (off := 0) (cap := many) (ns := tl) Tryd.underlying37 Tryd.underlying5 Tryd.underlying9 (BytesBlk.cells (by have := HK.out; rw [List.replicate_zero, List.nil_append] at this; exact this))
      rw [hl] at hcv
      have HT : Hid (strOf8 tl = strOf8 (beI many n)) := by rw [Hid, HE.out, beI, List.nil_append]
      clear hl hbk
      go_wp2_with fail
      all_goals
        go_ret
        exact ⟨by rw [HT.out]; rfl, by rw [← HBQ.out]; exact HW.out⟩
    · have e : ((k + 1 : Nat) : Int) - 1 = (k : Int) := by omega
      rw [e]
      have hd : decide ((0 : Int) ≤ (k : Int)) = true := by simp
      obtain ⟨v, hv⟩ : ∃ v : Nat, v = (x % 256).toNat := ⟨_, rfl⟩
      have wv : IntKind.u8.wrap x = (v : Int) := by rw [IntKind.wrap_u8, hv]; omega
      have hv2 : v < 256 := by omega
      have HE2 : Hid (beI many n = beI k (x / 256) ++ (v :: tl)) := by
        rw [Hid, HE.out, beI, hv]; simp
      have hlen : k < (List.replicate (k + 1) 0 ++ tl).length := by simp; omega
      have hset : (List.replicate (k + 1) 0 ++ tl).set k v = List.replicate k 0 ++ (v :: tl) := by
        rw [List.replicate_succ', List.append_assoc, List.set_append_right _ _ (by simp)]
        simp
      have HN := Lib.hid (HK.out.next (k := k) hv2)
      have hcell := (HK.out k hlen).2.1
      have hfr := (HK.out k hlen).2.2
      have HW2 : Hid (Below B w (wr.setCell ⟨B, k, none⟩ (.int .u8 (v : Int)))) := HW.out.setCell (p := ⟨B, k, none⟩) (Nat.le_refl _) (.int .u8 (v : Int))
      have hBw2 : B < (wr.setCell ⟨B, k, none⟩ (.int .u8 (v : Int))).heap.size := by simpa using hBw
      have wx : IntKind.i64.wrap (x / 256) = x / 256 := IntWalk.i64_in _ (by omega)
      have wk : IntKind.i64.wrap ((k : Int) - 1) = (k : Int) - 1 := IntWalk.i64_in _ (by omega)
      have hkm : (k : Int) < (many : Int) := by omega
      have hkm2 : k < many := by omega
      have HS := Lib.hid hset
      clear hset hv hlen e
      go_wp2_with fail
      go_roundw
      case rel => exact ⟨k, x / 256, v :: tl, rfl, rfl, by omega, by omega, by omega, HE2, by have := HN.out; rw [HS.out] at this; exact this, HW2, hBw2⟩
      case measure => simp [intOf] <;> omega

set_option maxRecDepth 100000 in
theorem refSum_any (s : ByteArray) (w : World) (hs : s.size ≤ maxLen) :
    Calls Tryd.prog 31 #[.string s] w fun e w' => e = .returned (.string (strOf8 (sumL (bytesOf s)))) ∧ Below w.heap.size w w' := by
  have hm := moreI_nat 0 s
  have hlt := Crc.more_lt (l := bytesOf s) (c := 0) (by decide) (bytesOf_lt s)
  have hw := beI_wrap (Crc.more 0 (bytesOf s)) (by omega)
  have HR : Hid (strOf8 (beI 8 (wrap64 (Crc.more 0 (bytesOf s) : Int))) = strOf8 (sumL (bytesOf s))) := by rw [Hid, hw]; rfl
  generalize strOf8 (sumL (bytesOf s)) = R at *
  obtain ⟨x, hx⟩ : ∃ x, x = moreI 0 s := ⟨_, rfl⟩
  have hx2 : x = (Crc.more 0 (bytesOf s) : Int) := by rw [hx]; exact hm
  have HX := Lib.hid hx
  rw [← hx2] at HR
  have hx0 : 0 ≤ x := by omega
  have HB : Hid (-9223372036854775808 ≤ wrap64 x ∧ wrap64 x < 9223372036854775808) := by unfold Hid wrap64; omega
  clear hm hlt hw hx hx2
  go_enter Tryd.func31, Tryd.ntmps31
  go_wp2_with (first
    | (go_at_call 48; refine (sum_any 0 s _ (by omega) (by omega) hs).mono ?_; rintro e w' ⟨rfl, rfl⟩; rw [← HX.out])
    | (go_at_call 30; refine (high_any (wrap64 x) 8 _ HB.out.1 HB.out.2 (by omega)).mono ?_; rintro e w' ⟨rfl, hbe⟩))
  go_ret
  refine ⟨?_, hbe⟩
  have hq := HR.out
  rw [← hq]
  rfl
end Go.Proofs.YtiminahobifomaaDoor
