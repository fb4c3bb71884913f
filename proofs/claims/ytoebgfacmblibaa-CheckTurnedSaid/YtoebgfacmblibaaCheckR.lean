/- The document's own sum of two texts, walked; sums of a text's two pieces; that the statements wake. -/
import Derived.Test.YtoebgfacmblibaaCheckB
import Derived.Test.YtoebgfacmblibaaAsk6
import Derived.Lib.Strings
import Derived.Lib.IndexBytes
namespace Go.Proofs.Ytoebgfacmblibaa
open Go.ChangeShapes Go.WideShapes Go.ChangeAt Go.RowKit Go.Joins
set_option linter.unusedVariables false
set_option linter.unusedSimpArgs false

theorem digits_sum : moreI 0 ⟨#[49, 50, 51, 52, 53, 54, 55, 56, 57]⟩ = 11051210869376104954 := by decide +kernel

set_option maxRecDepth 100000 in
set_option maxHeartbeats 400000 in
theorem wakes9_any (w : World) :
    Calls Try.prog 9 #[] w fun e w' => e = .returned (.bool true) ∧ w = w' := by
  go_enter Try.func9, Try.ntmps9
  go_wp2_with (go_at_call 8; refine (of_any _ _ (by decide)).mono ?_; rintro e w' ⟨rfl, rfl⟩; rw [digits_sum])
  go_ret
  exact ⟨rfl, rfl⟩

theorem moreI_bd (c : Int) (s : ByteArray) (h0 : 0 ≤ c) (h1 : c ≤ 18446744073709551615) : 0 ≤ moreI c s ∧ moreI c s ≤ 18446744073709551615 := by
  obtain ⟨c, rfl⟩ := Int.eq_ofNat_of_zero_le h0
  rw [moreI_nat]
  have := Crc.more_lt (c := c) (l := bytesOf s) (by omega) (bytesOf_lt s)
  omega

set_option maxRecDepth 100000 in
set_option maxHeartbeats 400000 in
theorem refBoth_any (a b n : Int) (w : World) (ha : 0 ≤ a) (ha' : a ≤ 18446744073709551615) (hb : 0 ≤ b) (hb' : b ≤ 18446744073709551615) (hn : 0 ≤ n) (hn' : n ≤ 1000000) :
    Calls Try.prog 15 #[.int .u64 a, .int .u64 b, .int .i64 n] w fun e w' => e = .returned (.int .u64 (bothI a b n)) ∧ w = w' := by
  obtain ⟨a, rfl⟩ := Int.eq_ofNat_of_zero_le ha
  obtain ⟨b, rfl⟩ := Int.eq_ofNat_of_zero_le hb
  obtain ⟨n, rfl⟩ := Int.eq_ofNat_of_zero_le hn
  have HA : Hid (a < 2 ^ 64 ∧ b < 2 ^ 64) := ⟨by omega, by omega⟩
  clear ha' hb'
  go_enter Try.func15, Try.ntmps15
  go_wp2_with fail
  go_loop [0, 7] (fun x j => ∃ i v : Nat, j = .int .i64 i ∧ x = .int .u64 (v : Int) ∧ i ≤ 8 * n ∧ Hid (v < 2 ^ 64 ∧ v = Crc.tns i a)) (fun _ j => (8 * n - intOf j).toNat)
  case atStart => exact ⟨0, a, rfl, rfl, by omega, HA.out.1, rfl⟩
  case round =>
    obtain ⟨i, v, rfl, rfl, hi, HV⟩ := hrel
    by_cases hi8 : i < 8 * n
    · go_wp2_with fail
      · have e := tn_yes HV.out.1 (by assumption)
        go_round
        case rel => exact ⟨i + 1, Crc.tn v, by go_num, congrArg _ e, by omega, Crc.tn_lt HV.out.1, by rw [Crc.tns_succ, ← HV.out.2]⟩
        case measure => simp [intOf]; omega
      · have e := tn_no HV.out.1 (by assumption)
        go_round
        case rel => exact ⟨i + 1, Crc.tn v, by go_num, congrArg _ e, by omega, Crc.tn_lt HV.out.1, by rw [Crc.tns_succ, ← HV.out.2]⟩
        case measure => simp [intOf]; omega
    · have hie : i = 8 * n := by omega
      have HE : Hid (v = Crc.tns (8 * n) a) := by rw [Hid, HV.out.2, hie]
      clear hie
      have e1 := bits_xor_u64 HV.out.1 HA.out.2
      go_wp2_with fail
      go_ret
      exact ⟨ret_u64 (by rw [bothI, Int.toNat_natCast, Int.toNat_natCast, Int.toNat_natCast, ← HE.out]), rfl⟩

/-- A text's two pieces. -/
theorem bytesOf_split (s : ByteArray) (k : Nat) : bytesOf (s.extract 0 k) ++ bytesOf (s.extract k s.size) = bytesOf s := by
  unfold bytesOf
  rw [← List.map_append]
  congr 1
  rw [Lib.extract_data, Lib.extract_to_end, List.drop_zero, Nat.sub_zero, List.take_append_drop]
theorem extract_size (s : ByteArray) (k : Nat) : (s.extract k s.size).size = s.size - k := by
  rw [ByteArray.size_extract]; omega

theorem two_more (s x y : ByteArray) (h : bytesOf x ++ bytesOf y = bytesOf s) : (moreI (moreI 0 x) y != moreI 0 s) = false := by
  have e : moreI (moreI 0 x) y = moreI 0 s := by
    rw [show (0 : Int) = ((0 : Nat) : Int) from rfl, moreI_nat, moreI_nat, moreI_nat, Crc.more_append, h]
  rw [e]; simp
theorem two_both (s x y : ByteArray) (h : bytesOf x ++ bytesOf y = bytesOf s) : (bothI (moreI 0 x) (moreI 0 y) (y.size : Int) != moreI 0 s) = false := by
  have e : bothI (moreI 0 x) (moreI 0 y) (y.size : Int) = moreI 0 s := by
    rw [show (0 : Int) = ((0 : Nat) : Int) from rfl, moreI_nat, moreI_nat, moreI_nat, bothI, Int.toNat_natCast, Int.toNat_natCast, Int.toNat_natCast, ← h, Crc.more_two, bytesOf_length]
  rw [e]; simp
end Go.Proofs.Ytoebgfacmblibaa
