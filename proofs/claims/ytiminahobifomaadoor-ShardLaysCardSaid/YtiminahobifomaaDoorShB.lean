/- shard.Number and shard.Put, walked. -/
import Derived.Test.YtiminahobifomaaDoorShA
namespace Go.Proofs.YtiminahobifomaaDoor
open Go.ChangeShapes Go.WideShapes Go.ChangeAt Go.RowKit Go.Joins
set_option linter.unusedVariables false
set_option linter.unusedSimpArgs false

theorem bits_or_u64 {a b : Nat} (ha : a < 2 ^ 64) (hb : b < 2 ^ 64) : bits .or .u64 (a : Int) (b : Int) = ((a ||| b : Nat) : Int) := by
  rw [bits_or_k .u64 (by exact ha) (by exact hb)]
  exact IntWalk.u64_in _ (by have := Nat.or_lt_two_pow ha hb; omega)

set_option maxRecDepth 100000 in
set_option maxHeartbeats 1000000 in
theorem number_any (s : ByteArray) (w : World) (hs : s.size ≤ 6) :
    Calls Tryd.prog 26 #[.string s] w fun e w' => e = .returned (.int .u64 (numB (bytesOf s) : Int)) ∧ w = w' := by
  go_enter Tryd.func26, Tryd.ntmps26
  go_wp2_with fail
  go_loop [2, 6] (fun x i => ∃ (k y : Nat), i = .int .i64 k ∧ x = .int .u64 (y : Int) ∧ k ≤ s.size ∧ Hid (y < 256 ^ k ∧ y = numB ((bytesOf s).take k))) (fun _ i => s.size - (intOf i).toNat)
  case atStart => exact ⟨0, 0, rfl, rfl, by omega, by simp [numB, Hid]⟩
  case round =>
    obtain ⟨k, y, rfl, rfl, hk, H⟩ := hrel
    by_cases hlt : k < s.size
    · have hb8 := s[k].toNat_lt
      have hy : y < 1099511627776 := Nat.lt_of_lt_of_le H.out.1 (Nat.le_trans (Nat.pow_le_pow_right (by omega) (show k ≤ 5 by omega)) (by decide))
      have hw64 : IntKind.u64.wrap (s[k].toNat : Int) = (s[k].toNat : Int) := IntWalk.u64_in _ (by omega)
      have hb := s[k].toNat_lt
      have e1 : bits .or .u64 ((y : Int) * 256) (s[k].toNat : Int) = ((y * 256 + s[k].toNat : Nat) : Int) := by
        have h1 : ((y : Int) * 256) = ((y * 256 : Nat) : Int) := by simp
        have h2 : y * 256 ||| s[k].toNat = y * 256 + s[k].toNat := by
          have h := Nat.two_pow_add_eq_or_of_lt (i := 8) (b := s[k].toNat) (by exact hb) y
          rw [Nat.mul_comm y 256]
          exact h.symm
        rw [h1, bits_or_u64 (by omega) (by omega), h2]
      have HZ : Hid (y * 256 + s[k].toNat < 256 ^ (k + 1) ∧ y * 256 + s[k].toNat = numB ((bytesOf s).take (k + 1))) := by
        have hy2 := H.out.1
        refine ⟨by rw [Nat.pow_succ]; omega, ?_⟩
        rw [bytesOf_take s k hlt, numB_snoc, ← H.out.2]
      clear hb8
      go_wp2_with fail
      go_round
      case rel => exact ⟨k + 1, y * 256 + s[k].toNat, by go_num, by first | rw [e1] | simp, by omega, HZ⟩
      case measure => simp [intOf]; omega
    · obtain rfl : k = s.size := by omega
      have HE : Hid (y = numB (bytesOf s)) := by
        rw [Hid, H.out.2, List.take_of_length_le (by rw [bytesOf_length]; omega)]
      go_wp2_with fail
      go_ret
      exact ⟨by rw [← HE.out]; rfl, rfl⟩

theorem infoU8sh : (Tryd.prog.info? 5).map (fun i => (i.zero, i.size, i.bytes)) = some (some (.int .u8 0), 1, 1) := by kernel_rfl
def u8L (ns : List Nat) : List Value := ns.map fun n : Nat => .int .u8 (n : Int)
theorem u8L_app (a b : List Nat) : u8L (a ++ b) = u8L a ++ u8L b := by simp [u8L]
theorem u8L_len (a : List Nat) : (u8L a).length = a.length := by simp [u8L]

set_option maxRecDepth 100000 in
set_option maxHeartbeats 2000000 in
theorem put_any (v : Value) (B : Nat) (ns : List Nat) (n size : Nat) (w : World) (hB : B ≤ w.heap.size) (h : w.ownsRow B 5 1 v ns.length (u8L ns)) (hn : n < 18446744073709551616) (hs1 : 1 ≤ size) (hs : size ≤ 8) (hl : ns.length ≤ 100000) :
    Calls Tryd.prog 34 #[v, .int .u64 (n : Int), .int .i64 (size : Int)] w fun e w' => ∃ r, e = .returned r ∧ w'.ownsRow B 5 1 r (ns ++ beL size n).length (u8L (ns ++ beL size n)) ∧ Below B w w' := by
  obtain ⟨y0, hi, hz0, hz1, hz2⟩ := info_parts infoU8sh
  obtain ⟨A, c, rfl⟩ := own_shape h
  have HO := Lib.hid h
  have w1 : IntKind.i64.wrap ((size : Int) - 1) = (size : Int) - 1 := IntWalk.i64_in _ (by omega)
  clear h
  go_enter Tryd.func34, Tryd.ntmps34
  go_wp2_with fail
  go_loopw [0, 7] (fun bv i wr => ∃ (j : Nat) (cw : Value), cw = bv ∧ i = .int .i64 ((size : Int) - 1 - (j : Int)) ∧ j ≤ size ∧ wr.ownsRow B 5 1 cw (ns ++ (beL size n).take j).length (u8L (ns ++ (beL size n).take j)) ∧ Below B w wr) (fun _ i _ => (intOf i + 1).toNat)
  case atStart => exact ⟨0, _, rfl, by simp, by omega, by rw [List.take_zero, List.append_nil]; exact HO.out, Below.refl _ _⟩
  case round =>
    obtain ⟨j, cw, rfl, rfl, hj, hown, hwr⟩ := hrel
    by_cases hlt : j < size
    · obtain ⟨k, hk⟩ : ∃ k, k + 1 + j = size := ⟨size - 1 - j, by omega⟩
      have hk2 : (size : Int) - 1 - (j : Int) = (k : Int) := by omega
      rw [hk2]
      obtain ⟨bv, hbv⟩ : ∃ bv : Nat, bv = n / 2 ^ (8 * k) % 256 := ⟨_, rfl⟩
      have eb : (n : Int) / 2 ^ (8 * k) % 256 = (bv : Int) := by rw [hbv]; simp
      have HT : Hid (ns ++ (beL size n).take (j + 1) = (ns ++ (beL size n).take j) ++ [bv]) := by
        rw [Hid, beL_take hlt, hbv, show size - 1 - j = k by omega, List.append_assoc]
      have hlen : (ns ++ (beL size n).take j).length ≤ 100008 := by rw [List.length_append, List.length_take, beL_len]; omega
      have hkj : (k : Int) - 1 = (size : Int) - 1 - ((j + 1 : Nat) : Int) := by omega
      have wk : IntKind.i64.wrap ((k : Int) - 1) = (k : Int) - 1 := IntWalk.i64_in _ (by omega)
      have hj1 : j + 1 ≤ size := hlt
      have HJ1 := Lib.hid hj1
      clear hbv hk hk2 hj1
      generalize ns ++ (beL size n).take j = ms at *
      go_wp2_with (first | (at_builtin; refine wpList_append_own _ rfl _ _ 37 rfl B 5 y0 (.int .u8 0) 1 1 Tryd.underlying37 hi hz0 hz1 hz2 rfl (by decide) _ _ _ rfl (hown.alloc _) ⟨wr.heap.size, 0, none⟩ 1 1 [.int .u8 (bv : Int)] rfl rfl ?c1 ?c2 ?c3 ?c4 ?c5 ?_) | go_in)
      case c1 => exact cell_one_new' _ _ _
      case c2 => intro u hu; simp at hu; subst hu; rfl
      case c3 => unfold maxLen; omega
      case c4 => omega
      case c5 => have := hwr.size; simp; omega
      all_goals
        intro v' w1 hown' hgrow _
        have hbx : Below B w w1 := (hwr.alloc (Nat.le_trans hB hwr.size) _).grown hgrow (by have := hwr.size; simp; omega) (fun q hq => (hown.lt q hq).1)
        clear hown hgrow hwr
        go_wp2_with fail
        go_roundw
        case rel => exact ⟨j + 1, _, rfl, by first | rw [hkj] | simp, HJ1.out, by rw [HT.out, List.length_append, u8L_app]; exact hown', hbx⟩
        case measure => simp [intOf]; omega
    · have hje : j = size := by omega
      have hd : decide ((0 : Int) ≤ (size : Int) - 1 - (j : Int)) = false := decide_eq_false (by omega)
      have HR : Hid (wr.ownsRow B 5 1 cw (ns ++ beL size n).length (u8L (ns ++ beL size n))) := by
        have h := hown
        rw [hje, List.take_of_length_le (by rw [beL_len]; exact Nat.le_refl _)] at h
        exact h
      clear hje hown
      go_wp2_with fail
      all_goals
        first
          | (exfalso; omega)
          | (go_ret; exact ⟨_, rfl, HR.out, hwr⟩)
end Go.Proofs.YtiminahobifomaaDoor
