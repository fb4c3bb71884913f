/- The sums, walked: check.More, check.Of, the document's own sum. -/
import Derived.Test.YtiminahobifomaaDoorRows
import Derived.WalkKit
import Derived.WalkSpells
import Derived.WalkLawsBesides
import Derived.Handy
import Derived.Lib.Hide
import Derived.Test.YtiminahobifomaaDoorBits
import Derived.Test.YtiminahobifomaaDoorCrc
import Derived.Test.YtiminahobifomaaDoorBytes8
namespace Go.Proofs.YtiminahobifomaaDoor
open Go.RowKit
set_option linter.unusedVariables false
set_option linter.unusedSimpArgs false

def tnI (x : Int) : Int := ((Crc.tn x.toNat : Nat) : Int)
theorem tnI_nat (x : Nat) : tnI (x : Int) = ((Crc.tn x : Nat) : Int) := by simp [tnI]

theorem bits_xor_u64 {a b : Nat} (ha : a < 2 ^ 64) (hb : b < 2 ^ 64) : bits .xor .u64 (a : Int) (b : Int) = ((a ^^^ b : Nat) : Int) := by
  have h := Nat.xor_lt_two_pow ha hb
  rw [bits_xor_k .u64 ha hb, IntWalk.u64_in]; omega
theorem bits_and1_u64 {y : Nat} (h : y < 2 ^ 64) : bits .and .u64 (y : Int) 1 = ((y % 2 : Nat) : Int) := by
  have e := bits_and_k .u64 (a := y) (b := 1) h (by decide)
  rw [Nat.and_one_is_mod, IntWalk.u64_in _ (by omega)] at e
  exact e
theorem tn_yes {x : Nat} (h : x < 2 ^ 64) (e : (bits .and .u64 (x : Int) 1 == 1) = true) : bits .xor .u64 ((x : Int) / 2) 14514072000185962306 = ((Crc.tn x : Nat) : Int) := by
  rw [bits_and1_u64 h] at e
  have := beq_iff_eq.1 e
  have e2 := bits_xor_u64 (a := x / 2) (b := Crc.poly) (by omega) Crc.poly_lt
  rw [Crc.tn, if_pos (by omega)]
  rw [← e2]; rfl
theorem tn_no {x : Nat} (h : x < 2 ^ 64) (e : (bits .and .u64 (x : Int) 1 == 1) = false) : (x : Int) / 2 = ((Crc.tn x : Nat) : Int) := by
  rw [bits_and1_u64 h] at e
  have := beq_eq_false_iff_ne.1 e
  rw [Crc.tn, if_neg (by omega)]; omega
theorem neg_u64 {x : Nat} (h : x < 2 ^ 64) : bits .xor .u64 IntKind.u64.max (x : Int) = ((Crc.neg x : Nat) : Int) := by
  rw [show IntKind.u64.max = ((Crc.top : Nat) : Int) by decide]
  exact bits_xor_u64 Crc.top_lt h

theorem ret_u64 {a b : Int} (h : a = b) : Ending.returned (.int .u64 a) = .returned (.int .u64 b) := by rw [h]

set_option maxRecDepth 100000 in
set_option maxHeartbeats 400000 in
theorem turned_any (x : Int) (w : World) (h0 : 0 ≤ x) (h1 : x ≤ 18446744073709551615) :
    Calls Tryd.prog 58 #[.int .u64 x] w fun e w' => e = .returned (.int .u64 (tnI x)) ∧ w = w' := by
  obtain ⟨x, rfl⟩ := Int.eq_ofNat_of_zero_le h0
  have hx : x < 2 ^ 64 := by omega
  have HX := Lib.hid hx
  clear hx
  go_enter Tryd.func58, Tryd.ntmps58
  go_wp2
  · have e := tn_yes HX.out (by assumption)
    go_ret
    exact ⟨ret_u64 (by rw [tnI_nat]; exact e), rfl⟩
  · have e := tn_no HX.out (by assumption)
    go_ret
    exact ⟨ret_u64 (by rw [tnI_nat]; exact e), rfl⟩

/-- The sum of a string, of integers. -/
def moreI (c : Int) (s : ByteArray) : Int := ((Crc.more c.toNat (bytesOf s) : Nat) : Int)
theorem moreI_nat (c : Nat) (s : ByteArray) : moreI (c : Int) s = ((Crc.more c (bytesOf s) : Nat) : Int) := by simp [moreI]

set_option maxRecDepth 100000 in
set_option maxHeartbeats 400000 in
theorem more_any (c : Int) (s : ByteArray) (w : World) (h0 : 0 ≤ c) (h1 : c ≤ 18446744073709551615) (hs : s.size ≤ maxLen) :
    Calls Tryd.prog 50 #[.int .u64 c, .string s] w fun e w' => e = .returned (.int .u64 (moreI c s)) ∧ w = w' := by
  obtain ⟨c, rfl⟩ := Int.eq_ofNat_of_zero_le h0
  unfold maxLen at hs
  have hc : c < 2 ^ 64 := by omega
  have e0 := neg_u64 hc
  have HC := Lib.hid hc
  clear hc
  go_enter Tryd.func50, Tryd.ntmps50
  go_wp2_with fail
  clear e0
  go_loop [5, 6, 11] (fun x j i => ∃ (k y : Nat), i = .int .i64 k ∧ x = .int .u64 (y : Int) ∧ k ≤ s.size ∧ Hid (y < 2 ^ 64 ∧ y = Crc.eats (Crc.neg c) ((bytesOf s).take k))) (fun _ _ i => s.size - (intOf i).toNat)
  case atStart => exact ⟨0, Crc.neg c, rfl, rfl, by omega, Crc.neg_lt HC.out, rfl⟩
  case round =>
    obtain ⟨k, y, rfl, rfl, hk, H⟩ := hrel
    by_cases hlt : k < s.size
    · have hb8 := s[k].toNat_lt
      have hw64 : IntKind.u64.wrap (s[k].toNat : Int) = (s[k].toNat : Int) := IntWalk.u64_in _ (by omega)
      have e1 := bits_xor_u64 (a := y) (b := s[k].toNat) H.out.1 (Nat.lt_trans s[k].toNat_lt (by decide))
      have hz := Crc.xor_lt H.out.1 (Nat.lt_trans s[k].toNat_lt (by decide))
      have HZ : Hid (y ^^^ s[k].toNat < 2 ^ 64 ∧ Crc.tns 8 (y ^^^ s[k].toNat) = Crc.eats (Crc.neg c) ((bytesOf s).take (k + 1))) := by
        refine ⟨hz, ?_⟩
        rw [bytesOf_take s k hlt, Crc.eats_append, ← H.out.2]; rfl
      clear hz
      go_wp2_with fail
      clear e1 hw64 hb8
      generalize y ^^^ s[k].toNat = z at *
      go_loop [5, 20] (fun x j => ∃ (i v : Nat), j = .int .i64 i ∧ x = .int .u64 (v : Int) ∧ i ≤ 8 ∧ Hid (v < 2 ^ 64 ∧ v = Crc.tns i z)) (fun _ j => (8 - intOf j).toNat)
      case atStart => exact ⟨0, z, rfl, rfl, by omega, HZ.out.1, rfl⟩
      case round =>
        obtain ⟨i, v, rfl, rfl, hi, HV⟩ := hrel
        by_cases hi8 : i < 8
        · have hv : (v : Int) ≤ 18446744073709551615 := by have := HV.out.1; omega
          go_wp2_with (go_at_call 58; refine (turned_any _ _ (by omega) (by omega)).mono ?_; rintro e w' ⟨rfl, rfl⟩)
          go_round
          case rel => exact ⟨i + 1, Crc.tn v, by go_num, by rw [tnI_nat], by omega, Crc.tn_lt HV.out.1, by rw [Crc.tns_succ, ← HV.out.2]⟩
          case measure => simp [intOf]; omega
        · obtain rfl : i = 8 := by omega
          go_wp2_with fail
          go_round
          case rel => exact ⟨k + 1, v, by go_num, rfl, by omega, HV.out.1, by rw [HV.out.2]; exact HZ.out.2⟩
          case measure => simp [intOf]; omega
    · obtain rfl : k = s.size := by omega
      have e1 := neg_u64 H.out.1
      have HE : Hid (Crc.neg y = Crc.more c (bytesOf s)) := by
        rw [Hid, Crc.more, H.out.2, List.take_of_length_le (by rw [bytesOf_length]; omega)]
      go_wp2_with fail
      go_ret
      exact ⟨ret_u64 (by rw [moreI_nat, HE.out]), rfl⟩

set_option maxRecDepth 100000 in
set_option maxHeartbeats 400000 in
theorem of_any (s : ByteArray) (w : World) (hs : s.size ≤ maxLen) :
    Calls Tryd.prog 35 #[.string s] w fun e w' => e = .returned (.int .u64 (moreI 0 s)) ∧ w = w' := by
  go_enter Tryd.func35, Tryd.ntmps35
  go_wp2_with (go_at_call 50; refine (more_any _ _ _ (by omega) (by omega) hs).mono ?_; rintro e w' ⟨rfl, rfl⟩)
  go_ret
  exact ⟨rfl, rfl⟩

set_option maxRecDepth 100000 in
set_option maxHeartbeats 400000 in
theorem sum_any (c : Int) (s : ByteArray) (w : World) (h0 : 0 ≤ c) (h1 : c ≤ 18446744073709551615) (hs : s.size ≤ maxLen) :
    Calls Tryd.prog 48 #[.int .u64 c, .string s] w fun e w' => e = .returned (.int .u64 (moreI c s)) ∧ w = w' := by
  obtain ⟨c, rfl⟩ := Int.eq_ofNat_of_zero_le h0
  unfold maxLen at hs
  have hc : c < 2 ^ 64 := by omega
  have e0 := neg_u64 hc
  have HC := Lib.hid hc
  clear hc
  go_enter Tryd.func48, Tryd.ntmps48
  go_wp2_with fail
  clear e0
  go_loop [0, 5] (fun x i => ∃ (k y : Nat), i = .int .i64 k ∧ x = .int .u64 (y : Int) ∧ k ≤ s.size ∧ Hid (y < 2 ^ 64 ∧ y = Crc.eats (Crc.neg c) ((bytesOf s).take k))) (fun _ i => s.size - (intOf i).toNat)
  case atStart => exact ⟨0, Crc.neg c, rfl, rfl, by omega, Crc.neg_lt HC.out, rfl⟩
  case round =>
    obtain ⟨k, y, rfl, rfl, hk, H⟩ := hrel
    by_cases hlt : k < s.size
    · have hb8 := s[k].toNat_lt
      have hw64 : IntKind.u64.wrap (s[k].toNat : Int) = (s[k].toNat : Int) := IntWalk.u64_in _ (by omega)
      have e1 := bits_xor_u64 (a := y) (b := s[k].toNat) H.out.1 (Nat.lt_trans s[k].toNat_lt (by decide))
      have hz := Crc.xor_lt H.out.1 (Nat.lt_trans s[k].toNat_lt (by decide))
      have HZ : Hid (y ^^^ s[k].toNat < 2 ^ 64 ∧ Crc.tns 8 (y ^^^ s[k].toNat) = Crc.eats (Crc.neg c) ((bytesOf s).take (k + 1))) := by
        refine ⟨hz, ?_⟩
        rw [bytesOf_take s k hlt, Crc.eats_append, ← H.out.2]; rfl
      clear hz
      go_wp2_with fail
      clear e1 hw64 hb8
      generalize y ^^^ s[k].toNat = z at *
      go_loop [0, 6] (fun x j => ∃ (i v : Nat), j = .int .i64 i ∧ x = .int .u64 (v : Int) ∧ i ≤ 8 ∧ Hid (v < 2 ^ 64 ∧ v = Crc.tns i z)) (fun _ j => (8 - intOf j).toNat)
      case atStart => exact ⟨0, z, rfl, rfl, by omega, HZ.out.1, rfl⟩
      case round =>
        obtain ⟨i, v, rfl, rfl, hi, HV⟩ := hrel
        by_cases hi8 : i < 8
        · go_wp2_with fail
          · have e := tn_yes HV.out.1 (by assumption)
            go_round
            case rel => exact ⟨i + 1, Crc.tn v, by go_num, congrArg _ e, by omega, Crc.tn_lt HV.out.1, by rw [Crc.tns_succ, ← HV.out.2]⟩
            case measure => simp [intOf]; omega
          · have e := tn_no HV.out.1 (by assumption)
            go_round
            case rel => exact ⟨i + 1, Crc.tn v, by go_num, congrArg _ e, by omega, Crc.tn_lt HV.out.1, by rw [Crc.tns_succ, ← HV.out.2]⟩
            case measure => simp [intOf]; omega
        · obtain rfl : i = 8 := by omega
          go_wp2_with fail
          go_round
          case rel => exact ⟨k + 1, v, by go_num, rfl, by omega, HV.out.1, by rw [HV.out.2]; exact HZ.out.2⟩
          case measure => simp [intOf]; omega
    · obtain rfl : k = s.size := by omega
      have e1 := neg_u64 H.out.1
      have HE : Hid (Crc.neg y = Crc.more c (bytesOf s)) := by
        rw [Hid, Crc.more, H.out.2, List.take_of_length_le (by rw [bytesOf_length]; omega)]
      go_wp2_with fail
      go_ret
      exact ⟨ret_u64 (by rw [moreI_nat, HE.out]), rfl⟩
end Go.Proofs.YtiminahobifomaaDoor
