/- Powers, the page's way and the code's; inverses; walked. -/
import Derived.Test.YtijcmdcjjcemfaaRows
import Derived.WalkKit
import Derived.WalkSpells
import Derived.WalkLawsBesides
import Derived.Handy
import Derived.Lib.Hide
import Derived.Test.YtijcmdcjjcemfaaPkA01
import Derived.Test.YtijcmdcjjcemfaaPkA02
import Derived.Lib.SliceRun
namespace Go.Proofs.Ytijcmdcjjcemfaa
open Go.RowKit
set_option linter.unusedVariables false
set_option linter.unusedSimpArgs false

theorem and1_i64_yes {n : Nat} (h : n ≤ 9223372036854775807) (e : (bits .and .i64 (n : Int) 1 == 1) = true) : n % 2 = 1 := by
  rw [bits_and1_i64 (by omega)] at e; have := beq_iff_eq.1 e; omega
theorem and1_i64_no {n : Nat} (h : n ≤ 9223372036854775807) (e : (bits .and .i64 (n : Int) 1 == 1) = false) : n % 2 ≠ 1 := by
  rw [bits_and1_i64 (by omega)] at e; have := beq_eq_false_iff_ne.1 e; omega

/-- The power of a byte, of integers. -/
def gp (a n : Int) : Int := ((Gf.pow a.toNat n.toNat : Nat) : Int)
theorem gp_nat (a n : Nat) : gp (a : Int) (n : Int) = ((Gf.pow a n : Nat) : Int) := by simp [gp]
theorem gp_bd (a n : Int) : 0 ≤ gp a n ∧ gp a n ≤ 255 := by
  have := Gf.pow_lt a.toNat n.toNat
  simp only [gp]; omega


set_option maxRecDepth 100000 in
set_option maxHeartbeats 400000 in
theorem refPow_any (a n : Int) (w : World) (ha : 0 ≤ a) (ha' : a ≤ 255) (hn : 0 ≤ n) (hn' : n ≤ 9223372036854775807) :
    Calls Try.prog 34 #[.int .u8 a, .int .i64 n] w fun e w' => e = .returned (.int .u8 (gp a n)) ∧ w = w' := by
  obtain ⟨a, rfl⟩ := Int.eq_ofNat_of_zero_le ha
  obtain ⟨n, rfl⟩ := Int.eq_ofNat_of_zero_le hn
  go_enter Try.func34, Try.ntmps34
  go_wp2
  go_loop [0,1,5] (fun a' n' x' => ∃ k m x : Nat, a' = .int .u8 k ∧ n' = .int .i64 m ∧ x' = .int .u8 x ∧ k < 256 ∧ x < 256 ∧ m ≤ 9223372036854775807 ∧ Hid (Gf.mul x (Gf.pow k m) = Gf.pow a n)) (fun _ n' _ => (intOf n').toNat)
  case atStart => exact ⟨a, n, 1, rfl, rfl, rfl, by omega, by omega, by omega, by simp [Hid, Gf.one_mul _ (Gf.pow_lt a n)]⟩
  case round =>
    obtain ⟨k, m, x, rfl, rfl, rfl, h1, h2, h3, H⟩ := hrel
    by_cases h0 : 0 < m
    · have hk := Gf.mul_lt (a := k) k h1
      have hx := Gf.mul_lt (a := x) k h2
      have HR : Hid (Gf.mul (if m % 2 = 1 then Gf.mul x k else x) (Gf.pow (Gf.mul k k) (m / 2)) = Gf.pow a n) := by rw [Hid, Gf.pow_round h1 h2]; exact H.out
      go_wp2_with (go_at_call 48; refine (refMul_any _ _ _ (by omega) (by omega) (by omega) (by omega)).mono ?_; rintro e w' ⟨rfl, rfl⟩)
      · have t1 := and1_i64_yes h3 (by assumption)
        simp only [t1, if_true] at HR
        go_round
        case rel => exact ⟨Gf.mul k k, m / 2, Gf.mul x k, by rw [gm_nat], by go_num, by rw [gm_nat], hk, hx, by omega, HR⟩
        case measure => simp [intOf]; omega
      · have t1 := and1_i64_no h3 (by assumption)
        simp only [t1, if_false] at HR
        go_round
        case rel => exact ⟨Gf.mul k k, m / 2, x, by rw [gm_nat], by go_num, rfl, hk, h2, by omega, HR⟩
        case measure => simp [intOf]; omega
    · obtain rfl : m = 0 := by omega
      have HN : Hid (x = Gf.pow a n) := by rw [Hid, ← H.out]; simp only [Gf.pow]; rw [Gf.mul_one x h2]
      clear H
      go_wp2
      go_ret
      refine ⟨?_, rfl⟩
      rw [gp_nat, ← HN.out]; rfl

set_option maxRecDepth 100000 in
set_option maxHeartbeats 400000 in
theorem raised_any (a n : Int) (w : World) (ha : 0 ≤ a) (ha' : a ≤ 255) (hn : 0 ≤ n) (hn' : n ≤ 9223372036854775807) :
    Calls Try.prog 79 #[.int .u8 a, .int .i64 n] w fun e w' => e = .returned (.int .u8 (gp a n)) ∧ w = w' := by
  obtain ⟨a, rfl⟩ := Int.eq_ofNat_of_zero_le ha
  obtain ⟨n, rfl⟩ := Int.eq_ofNat_of_zero_le hn
  go_enter Try.func79, Try.ntmps79
  go_wp2
  go_loop [0,1,5] (fun a' n' x' => ∃ k m x : Nat, a' = .int .u8 k ∧ n' = .int .i64 m ∧ x' = .int .u8 x ∧ k < 256 ∧ x < 256 ∧ m ≤ 9223372036854775807 ∧ Hid (Gf.mul x (Gf.pow k m) = Gf.pow a n)) (fun _ n' _ => (intOf n').toNat)
  case atStart => exact ⟨a, n, 1, rfl, rfl, rfl, by omega, by omega, by omega, by simp [Hid, Gf.one_mul _ (Gf.pow_lt a n)]⟩
  case round =>
    obtain ⟨k, m, x, rfl, rfl, rfl, h1, h2, h3, H⟩ := hrel
    by_cases h0 : 0 < m
    · have hk := Gf.mul_lt (a := k) k h1
      have hx := Gf.mul_lt (a := x) k h2
      have HR : Hid (Gf.mul (if m % 2 = 1 then Gf.mul x k else x) (Gf.pow (Gf.mul k k) (m / 2)) = Gf.pow a n) := by rw [Hid, Gf.pow_round h1 h2]; exact H.out
      go_wp2_with (go_at_call 78; refine (fieldMul_any _ _ _ (by omega) (by omega) (by omega) (by omega)).mono ?_; rintro e w' ⟨rfl, rfl⟩)
      · have t1 := and1_i64_yes h3 (by assumption)
        simp only [t1, if_true] at HR
        go_round
        case rel => exact ⟨Gf.mul k k, m / 2, Gf.mul x k, by rw [gm_nat], by go_num, by rw [gm_nat], hk, hx, by omega, HR⟩
        case measure => simp [intOf]; omega
      · have t1 := and1_i64_no h3 (by assumption)
        simp only [t1, if_false] at HR
        go_round
        case rel => exact ⟨Gf.mul k k, m / 2, x, by rw [gm_nat], by go_num, rfl, hk, h2, by omega, HR⟩
        case measure => simp [intOf]; omega
    · obtain rfl : m = 0 := by omega
      have HN : Hid (x = Gf.pow a n) := by rw [Hid, ← H.out]; simp only [Gf.pow]; rw [Gf.mul_one x h2]
      clear H
      go_wp2
      go_ret
      refine ⟨?_, rfl⟩
      rw [gp_nat, ← HN.out]; rfl


set_option maxRecDepth 100000 in
set_option maxHeartbeats 400000 in
theorem refInv_any (a : Int) (w : World) (ha : 0 ≤ a) (ha' : a ≤ 255) :
    Calls Try.prog 66 #[.int .u8 a] w fun e w' => e = .returned (.int .u8 (gp a 254)) ∧ w = w' := by
  go_enter Try.func66, Try.ntmps66
  go_wp2_with (go_at_call 34; refine (refPow_any _ _ _ (by omega) (by omega) (by omega) (by omega)).mono ?_; rintro e w' ⟨rfl, rfl⟩)
  go_ret
  exact ⟨rfl, rfl⟩

set_option maxRecDepth 100000 in
set_option maxHeartbeats 400000 in
theorem over_any (a : Int) (w : World) (ha : 0 ≤ a) (ha' : a ≤ 255) :
    Calls Try.prog 83 #[.int .u8 a] w fun e w' => e = .returned (.int .u8 (gp a 254)) ∧ w = w' := by
  go_enter Try.func83, Try.ntmps83
  go_wp2_with (go_at_call 79; refine (raised_any _ _ _ (by omega) (by omega) (by omega) (by omega)).mono ?_; rintro e w' ⟨rfl, rfl⟩)
  go_ret
  exact ⟨rfl, rfl⟩

theorem refInv_nat (a : Nat) (w : World) (ha : a < 256) :
    Calls Try.prog 66 #[.int .u8 (a : Int)] w fun e w' => e = .returned (.int .u8 ((Gf.inv a : Nat) : Int)) ∧ w = w' := by
  have h := refInv_any (a : Int) w (by omega) (by omega)
  rw [show (254 : Int) = ((254 : Nat) : Int) from rfl, gp_nat] at h
  exact h
theorem over_nat (a : Nat) (w : World) (ha : a < 256) :
    Calls Try.prog 83 #[.int .u8 (a : Int)] w fun e w' => e = .returned (.int .u8 ((Gf.inv a : Nat) : Int)) ∧ w = w' := by
  have h := over_any (a : Int) w (by omega) (by omega)
  rw [show (254 : Int) = ((254 : Nat) : Int) from rfl, gp_nat] at h
  exact h
end Go.Proofs.Ytijcmdcjjcemfaa

/- Matrices: what may be one; the code's way and the page's, walked. -/

namespace Go.Proofs.Ytijcmdcjjcemfaa
open Go.ChangeShapes Go.WideShapes Go.ChangeAt Go.RowKit Go.Joins
set_option linter.unusedVariables false
set_option linter.unusedSimpArgs false

/-- A slice value of these bytes. -/
def BytesV (w : World) (v : Value) (ns : List Nat) : Prop := RowIs w v ns.length 1 (ns.map fun n : Nat => Value.int .u8 (n : Int)) ∧ ∀ n ∈ ns, n < 256
theorem BytesV.below {w w' : World} {v : Value} {ns : List Nat} (h : BytesV w v ns) (hb : Below w.heap.size w w') : BytesV w' v ns := ⟨h.1.below hb, h.2⟩
theorem BytesV.shape {w : World} {v : Value} {ns : List Nat} (h : BytesV w v ns) : ∃ A c, v = .slice A ns.length c := by
  obtain ⟨⟨_, A, c, rfl, _⟩, _⟩ := h
  exact ⟨A, c, rfl⟩
theorem BytesV.at_ {w : World} {A : Option Addr} {c n : Nat} {ns : List Nat} (h : BytesV w (.slice A n c) ns) {k : Nat} (hk : k < ns.length) :
    ∃ b o, A = some ⟨b, o, none⟩ ∧ b < w.heap.size ∧ w.cell? ⟨b, o + k, none⟩ = some (.int .u8 ((ns.getD k 0 : Nat) : Int)) := by
  obtain ⟨b, o, c', e, hlt, hc⟩ := RowIs.at_ h.1 hk
  cases e
  refine ⟨b, o, rfl, hlt, ?_⟩
  obtain ⟨u, h1, h2⟩ := hc 0 (by omega)
  simp [hk] at h1
  rw [Nat.mul_one, Nat.add_zero] at h2
  rw [h2, ← h1]
  simp [List.getD, hk]
theorem BytesV.lt {w : World} {v : Value} {ns : List Nat} (h : BytesV w v ns) (k : Nat) : ns.getD k 0 < 256 := by
  by_cases hk : k < ns.length
  · exact getD_lt h.2 hk
  · simp [List.getD, hk]
theorem BytesV.of_blk {w : World} {B c : Nat} {ns : List Nat} (h : BytesBlk w B ns) (hB : B < w.heap.size) : BytesV w (.slice (some ⟨B, 0, none⟩) ns.length c) ns := by
  refine ⟨⟨by simp, _, _, rfl, fun _ => ⟨B, 0, rfl, hB, fun j u hj => ?_⟩⟩, fun n hn => ?_⟩
  · have hl : j < ns.length := by simpa using (List.getElem?_eq_some_iff.1 hj).1
    have := (h j hl).2.1
    rw [Nat.zero_add, this, ← hj]
    simp [List.getD, hl]
  · obtain ⟨i, hi, rfl⟩ := List.getElem_of_mem hn
    have := (h i hi).1
    rwa [← List.getElem_eq_getD (h := hi)] at this

/-- A matrix's value. -/
def matV (R C : Int) (v : Value) : Value := .agg #[.int .i64 R, .int .i64 C, v]
/-- Whether a matrix may be. -/
def mayM (R C : Int) (n : Nat) : Bool := decide (1 ≤ R ∧ R ≤ 16 ∧ 1 ≤ C ∧ C ≤ 16 ∧ (n : Int) = R * C)
theorem mayM_yes {R C : Int} {n : Nat} (h : mayM R C n = true) : ∃ r c : Nat, R = (r : Int) ∧ C = (c : Int) ∧ 1 ≤ r ∧ r ≤ 16 ∧ 1 ≤ c ∧ c ≤ 16 ∧ n = r * c := by
  obtain ⟨h1, h2, h3, h4, h5⟩ := of_decide_eq_true h
  obtain ⟨r, rfl⟩ : ∃ r : Nat, R = r := ⟨R.toNat, by omega⟩
  obtain ⟨c, rfl⟩ : ∃ c : Nat, C = c := ⟨C.toNat, by omega⟩
  exact ⟨r, c, rfl, rfl, by omega, by omega, by omega, by omega, by exact_mod_cast h5⟩
theorem mul_small {R C : Int} (h1 : 1 ≤ R) (h2 : R ≤ 16) (h3 : 1 ≤ C) (h4 : C ≤ 16) : 1 ≤ R * C ∧ R * C ≤ 256 := by
  obtain ⟨r, rfl⟩ : ∃ r : Nat, R = r := ⟨R.toNat, by omega⟩
  obtain ⟨c, rfl⟩ : ∃ c : Nat, C = c := ⟨C.toNat, by omega⟩
  have a : 1 * 1 ≤ r * c := Nat.mul_le_mul (by omega) (by omega)
  have b : r * c ≤ 16 * 16 := Nat.mul_le_mul (by omega) (by omega)
  have e : ((r * c : Nat) : Int) = (r : Int) * (c : Int) := by simp
  omega

set_option maxRecDepth 100000 in
set_option maxHeartbeats 400000 in
theorem side_any (n : Int) (w : World) :
    Calls Try.prog 71 #[.int .i64 n] w fun e w' => e = .returned (.bool (decide (1 ≤ n ∧ n ≤ 16))) ∧ w = w' := by
  by_cases h1 : 1 ≤ n
  · by_cases h2 : n ≤ 16
    · have d1 : decide (1 ≤ n) = true := decide_eq_true h1
      have d2 : decide (n ≤ 16) = true := decide_eq_true h2
      have H := Lib.hid (decide_eq_true (And.intro h1 h2))
      clear h1 h2
      go_enter Try.func71, Try.ntmps71
      go_wp2_with fail
      go_ret
      exact ⟨by rw [H.out]; rfl, rfl⟩
    · have d1 : decide (1 ≤ n) = true := decide_eq_true h1
      have d2 : decide (n ≤ 16) = false := decide_eq_false h2
      have H := Lib.hid (decide_eq_false (fun h : 1 ≤ n ∧ n ≤ 16 => h2 h.2))
      clear h1 h2
      go_enter Try.func71, Try.ntmps71
      go_wp2_with fail
      go_ret
      exact ⟨by rw [H.out]; rfl, rfl⟩
  · have d1 : decide (1 ≤ n) = false := decide_eq_false h1
    have H := Lib.hid (decide_eq_false (fun h : 1 ≤ n ∧ n ≤ 16 => h1 h.1))
    clear h1
    go_enter Try.func71, Try.ntmps71
    go_wp2_with fail
    go_ret
    exact ⟨by rw [H.out]; rfl, rfl⟩
theorem side_is (n : Int) (b : Bool) (hb : decide (1 ≤ n ∧ n ≤ 16) = b) (w : World) :
    Calls Try.prog 71 #[.int .i64 n] w fun e w' => e = .returned (.bool b) ∧ w = w' := by subst hb; exact side_any n w

set_option maxRecDepth 100000 in
set_option maxHeartbeats 400000 in
theorem between3_any (n : Int) (b : Bool) (hb : decide (1 ≤ n ∧ n ≤ 16) = b) (w : World) :
    Calls Try.prog 30 #[.int .i64 n, .int .i64 1, .int .i64 16] w fun e w' => e = .returned (.bool b) ∧ w = w' := by
  subst hb
  by_cases h1 : 1 ≤ n
  · by_cases h2 : n ≤ 16
    · have d1 : decide (1 ≤ n) = true := decide_eq_true h1
      have d2 : decide (n ≤ 16) = true := decide_eq_true h2
      have H := Lib.hid (decide_eq_true (And.intro h1 h2))
      clear h1 h2
      go_enter Try.func30, Try.ntmps30
      go_wp2_with fail
      go_ret
      exact ⟨by rw [H.out]; rfl, rfl⟩
    · have d1 : decide (1 ≤ n) = true := decide_eq_true h1
      have d2 : decide (n ≤ 16) = false := decide_eq_false h2
      have H := Lib.hid (decide_eq_false (fun h : 1 ≤ n ∧ n ≤ 16 => h2 h.2))
      clear h1 h2
      go_enter Try.func30, Try.ntmps30
      go_wp2_with fail
      go_ret
      exact ⟨by rw [H.out]; rfl, rfl⟩
  · have d1 : decide (1 ≤ n) = false := decide_eq_false h1
    have H := Lib.hid (decide_eq_false (fun h : 1 ≤ n ∧ n ≤ 16 => h1 h.1))
    clear h1
    go_enter Try.func30, Try.ntmps30
    go_wp2_with fail
    go_ret
    exact ⟨by rw [H.out]; rfl, rfl⟩

set_option maxRecDepth 100000 in
set_option maxHeartbeats 1000000 in
theorem mayM_any (R C : Int) (A : Option Addr) (n k : Nat) (w : World) (hn : n ≤ 9223372036854775807) :
    Calls Try.prog 70 #[matV R C (.slice A n k)] w fun e w' => e = .returned (.bool (mayM R C n)) ∧ Below w.heap.size w w' := by
  have hF := (Below.refl w.heap.size w).alloc (Nat.le_refl _) (.cells #[.int .i64 R, .int .i64 C, .slice A n k] 55)
  have HF := Lib.hid hF
  clear hF
  unfold matV
  by_cases hR : 1 ≤ R ∧ R ≤ 16
  · have r1 := Lib.hid (decide_eq_true hR)
    by_cases hC : 1 ≤ C ∧ C ≤ 16
    · have c1 := Lib.hid (decide_eq_true hC)
      have hm := mul_small hR.1 hR.2 hC.1 hC.2
      obtain ⟨q, hq⟩ : ∃ q, q = ((n : Int) == R * C) := ⟨_, rfl⟩
      have H : Hid (mayM R C n = q) := by
        rw [Hid, hq, mayM]
        by_cases e : (n : Int) = R * C
        · rw [beq_iff_eq.2 e]; exact decide_eq_true ⟨hR.1, hR.2, hC.1, hC.2, e⟩
        · rw [beq_eq_false_iff_ne.2 e]; exact decide_eq_false fun h => e h.2.2.2.2
      have hw : IntKind.i64.wrap (R * C) = R * C := IntWalk.i64_in _ (by omega)
      have HQ := Lib.hid hq
      clear hR hC hq
      go_enter Try.func70, Try.ntmps70
      go_wp2_with (first | (go_at_call 71; refine (side_is _ true (by first | exact r1.out | exact c1.out) _).mono ?_; rintro e w' ⟨rfl, rfl⟩))
      go_ret
      exact ⟨by rw [H.out, HQ.out]; rfl, HF.out⟩
    · have c1 := Lib.hid (decide_eq_false hC)
      have H : Hid (mayM R C n = false) := by rw [Hid, mayM]; exact decide_eq_false fun h => hC ⟨h.2.2.1, h.2.2.2.1⟩
      clear hR hC
      go_enter Try.func70, Try.ntmps70
      go_wp2_with (first | (go_at_call 71; refine (side_any _ _).mono ?_; rintro e w' ⟨rfl, rfl⟩; first | rw [r1.out] | rw [c1.out]))
      go_ret
      exact ⟨by rw [H.out]; rfl, HF.out⟩
  · have r1 := Lib.hid (decide_eq_false hR)
    have H : Hid (mayM R C n = false) := by rw [Hid, mayM]; exact decide_eq_false fun h => hR ⟨h.1, h.2.1⟩
    clear hR
    go_enter Try.func70, Try.ntmps70
    go_wp2_with (first | (go_at_call 71; refine (side_is _ false r1.out _).mono ?_; rintro e w' ⟨rfl, rfl⟩))
    go_ret
    exact ⟨by rw [H.out]; rfl, HF.out⟩
end Go.Proofs.Ytijcmdcjjcemfaa

/- Matrices: asked, made, copied, compared; a row of one; walked. -/

namespace Go.Proofs.Ytijcmdcjjcemfaa
open Go.ChangeShapes Go.WideShapes Go.ChangeAt Go.RowKit Go.Joins
set_option linter.unusedVariables false
set_option linter.unusedSimpArgs false

set_option maxRecDepth 100000 in
set_option maxHeartbeats 400000 in
theorem row_any (R : Int) (c i b o n k : Nat) (w : World) (hc : c ≤ 16) (hc1 : 1 ≤ c) (hi : i ≤ 16) (hn : (i + 1) * c ≤ n) (hk : n ≤ k) (hk2 : k ≤ 9223372036854775807) :
    Calls Try.prog 73 #[matV R (c : Int) (.slice (some ⟨b, o, none⟩) n k), .int .i64 (i : Int)] w fun e w' => e = .returned (.slice (some ⟨b, o + i * c, none⟩) c (k - i * c)) ∧ Below w.heap.size w w' := by
  have HF := Lib.hid ((Below.refl w.heap.size w).alloc (Nat.le_refl _) (.cells #[.int .i64 R, .int .i64 (c : Int), .slice (some ⟨b, o, none⟩) n k] 55))
  obtain ⟨x, hx⟩ : ∃ x, x = i * c := ⟨_, rfl⟩
  obtain ⟨y, hy⟩ : ∃ y, y = (i + 1) * c := ⟨_, rfl⟩
  have hyx : y = x + c := by rw [hy, hx, Nat.add_mul, Nat.one_mul]
  have h1 : (i : Int) * (c : Int) = (x : Int) := by rw [hx]; simp
  have h2 : ((i : Int) + 1) * (c : Int) = (y : Int) := by rw [hy]; simp
  rw [← hy] at hn
  rw [← hx]
  have hxs : x ≤ 16 * 16 := by rw [hx]; exact Nat.mul_le_mul hi hc
  have h3 : y - x = c := by omega
  have h4 : (0 : Int) ≤ (x : Int) := by omega
  have h5 : (x : Int) ≤ (y : Int) := by omega
  have h6 : (y : Int) ≤ (k : Int) := by omega
  have w1 : IntKind.i64.wrap (x : Int) = (x : Int) := IntWalk.i64_in _ (by omega)
  have w2 : IntKind.i64.wrap (y : Int) = (y : Int) := IntWalk.i64_in _ (by omega)
  have w3 : IntKind.i64.wrap ((i : Int) + 1) = (i : Int) + 1 := IntWalk.i64_in _ (by omega)
  clear hx hy
  unfold matV
  go_enter Try.func73, Try.ntmps73
  go_wp2_with fail
  all_goals
    first
      | (exfalso; clear HF; omega)
      | (go_ret
         exact ⟨by show Ending.returned (Value.slice _ (x + c - x) (k - x)) = _; rw [Nat.add_sub_cancel_left], HF.out⟩)

theorem hmkM {n : Nat} (hn : n ≤ 100000) : ∀ w, (Instr.makeSlice 35 (.int .i64 (n : Int)) (.int .i64 (n : Int))).run Try.prog w = .ok (.slice (some ⟨w.heap.size, 0, none⟩) n n) (w.alloc (.cells (cellsOf8 (List.replicate n 0)) 5)) := hmk8 hn

set_option maxRecDepth 100000 in
set_option maxHeartbeats 400000 in
theorem empty_any (r c : Nat) (w : World) (hr : r ≤ 16) (hc : c ≤ 16) :
    Calls Try.prog 60 #[.int .i64 (r : Int), .int .i64 (c : Int)] w fun e w' => ∃ B, w.heap.size ≤ B ∧ B < w'.heap.size ∧ e = .returned (matV (r : Int) (c : Int) (.slice (some ⟨B, 0, none⟩) (r * c) (r * c))) ∧ BytesBlk w' B (List.replicate (r * c) 0) ∧ Below w.heap.size w w' := by
  obtain ⟨x, hx⟩ : ∃ x, x = r * c := ⟨_, rfl⟩
  have h1 : (r : Int) * (c : Int) = (x : Int) := by rw [hx]; simp
  have hxs : x ≤ 16 * 16 := by rw [hx]; exact Nat.mul_le_mul hr hc
  have w1 : IntKind.i64.wrap (x : Int) = (x : Int) := IntWalk.i64_in _ (by omega)
  rw [← hx]
  have hmk := hmkM (n := x) (by omega)
  obtain ⟨C, hC⟩ : ∃ C, C = cellsOf8 (List.replicate x 0) := ⟨_, rfl⟩
  rw [← hC] at hmk
  have HC := Lib.hid hC
  clear hx hC
  go_enter Try.func60, Try.ntmps60
  go_wp2_with fail
  have hb := (((Below.refl w.heap.size w).alloc (Nat.le_refl _) (.cells #[.int .i64 (r : Int), .int .i64 (c : Int), .slice (some ⟨w.heap.size + 1, 0, none⟩) x x] 55)).alloc (by simp) (.cells C 5))
  refine bodyPost_ret (v := matV (r : Int) (c : Int) (.slice (some ⟨w.heap.size + 1, 0, none⟩) x x)) (by simp [results, Try.results60, go_sem, matV]) rfl ⟨w.heap.size + 1, by omega, by simp, rfl, ?_, hb⟩
  have := bytesBlk_new (w.alloc (.cells #[.int .i64 (r : Int), .int .i64 (c : Int), .slice (some ⟨w.heap.size + 1, 0, none⟩) x x] 55)) (ns := List.replicate x 0) rfl 5 (by intro y hy; rw [List.eq_of_mem_replicate hy]; decide)
  rw [HC.out]
  rw [World.size_alloc] at this
  exact this
end Go.Proofs.Ytijcmdcjjcemfaa

/- Bytes copied and compared, cloned; matrices copied and compared; walked. -/

namespace Go.Proofs.Ytijcmdcjjcemfaa
open Go.ChangeShapes Go.WideShapes Go.ChangeAt Go.RowKit Go.Joins
set_option linter.unusedVariables false
set_option linter.unusedSimpArgs false

theorem infoU8 : (Try.prog.info? 5).map (fun i => (i.zero, i.size, i.bytes)) = some (some (.int .u8 0), 1, 1) := by kernel_rfl
def u8s (ns : List Nat) : List Value := ns.map fun n : Nat => Value.int .u8 (n : Int)
theorem u8s_take {ns : List Nat} {k : Nat} (h : k < ns.length) : u8s (ns.take (k + 1)) = u8s (ns.take k) ++ [.int .u8 ((ns.getD k 0 : Nat) : Int)] := by
  rw [List.take_succ_eq_append_getElem h, u8s, List.map_append, ← List.getElem_eq_getD (h := h)]; rfl
theorem u8s_length (ns : List Nat) : (u8s ns).length = ns.length := by simp [u8s]
/-- A row of bytes that the code owns may be written. -/
theorem own_blk {w : World} {B : Nat} {e : TypeId} {v : Value} {n : Nat} {ns : List Nat} (h : w.ownsRow B e 1 v n (u8s ns)) (h0 : 0 < n) (hb : ∀ x ∈ ns, x < 256) :
    ∃ g cap, v = .slice (some ⟨g, 0, none⟩) n cap ∧ B ≤ g ∧ g < w.heap.size ∧ n ≤ cap ∧ cap ≤ maxLen ∧ n = ns.length ∧ BytesBlk w g ns := by
  have hn : n = ns.length := by have := h.1; rw [u8s_length] at this; omega
  have hc := h
  obtain ⟨_, ⟨rfl, rfl⟩ | ⟨g, cap, cur, rfl, hB, hh, h1, h2, h3, h4⟩⟩ := h
  · omega
  · refine ⟨g, cap, rfl, hB, (Array.getElem?_eq_some_iff.1 hh).1, h1, h2, hn, fun i hi => ⟨getD_lt hb hi, ?_, ?_⟩⟩
    · have := hc.cells (g := g) rfl i (.int .u8 ((ns.getD i 0 : Nat) : Int)) (by simp [u8s, List.getD, hi])
      rw [Go.WideShapes.add_plain, Nat.zero_add] at this
      exact this
    · have hi2 : i < cur.size := by rw [h3]; omega
      simp [World.frozen?, hh, hi2]

set_option maxRecDepth 100000 in
set_option maxHeartbeats 1000000 in
theorem copyBytes_any (v : Value) (ns : List Nat) (w : World) (h : BytesV w v ns) (hl : ns.length ≤ 100000) :
    Calls Try.prog 80 #[v] w fun e w' => ∃ r, e = .returned r ∧ w'.ownsRow w.heap.size 5 1 r ns.length (u8s ns) ∧ Below w.heap.size w w' := by
  obtain ⟨i0, hi, hz0, hz1, hz2⟩ := info_parts infoU8
  obtain ⟨A, cap, rfl⟩ := h.shape
  have HS := Lib.hid h
  clear h
  go_enter Try.func80, Try.ntmps80
  go_wp2_with fail
  go_loopw [3, 4] (fun l i wr => ∃ k : Nat, i = .int .i64 k ∧ k ≤ ns.length ∧ wr.ownsRow w.heap.size 5 1 l k (u8s (ns.take k)) ∧ Below w.heap.size w wr) (fun _ i _ => ns.length - (intOf i).toNat)
  case atStart => exact ⟨0, rfl, by omega, World.ownsRow_nil _ _ _ _, Below.refl _ _⟩
  case round =>
    obtain ⟨k, rfl, hk, hown, hwr⟩ := hrel
    by_cases hlt : k < ns.length
    · obtain ⟨b, off, rfl, hbl, hcell⟩ := (HS.out.below hwr).at_ hlt
      have HT := Lib.hid (u8s_take hlt)
      generalize ns.getD k 0 = x at hcell HT
      have j0 : (0 : Int) ≤ (k : Int) := by omega
      have j1 : (k : Int) < (ns.length : Int) := by omega
      go_wp2_with (first | (at_builtin; refine wpList_append_own _ rfl _ _ 35 rfl w.heap.size 5 i0 (.int .u8 0) 1 1 Try.underlying35 hi hz0 hz1 hz2 rfl (by decide) _ _ _ rfl (hown.alloc _) ⟨wr.heap.size, 0, none⟩ 1 1 [.int .u8 (x : Int)] rfl rfl ?c1 ?c2 ?c3 ?c4 ?c5 ?_) | go_in)
      case c1 => exact cell_one_new' _ _ _
      case c2 => intro u hu; simp at hu; subst hu; rfl
      case c3 => unfold maxLen; omega
      case c4 => omega
      case c5 => have := hwr.size; simp; omega
      all_goals
        intro v' w1 hown' hgrow _
        have hbx := append_below hwr hown hgrow
        clear hown hgrow hwr hcell
        go_wp2_with fail
        go_roundw
        case rel => exact ⟨k + 1, by go_num, by omega, by rw [HT.out]; exact hown', hbx⟩
        case measure => simp [intOf]; omega
    · have hke : k = ns.length := by omega
      rw [hke, List.take_length] at hown
      clear hke
      go_wp2_with fail
      all_goals
        go_ret
        exact ⟨_, rfl, hown, hwr⟩

set_option maxRecDepth 100000 in
set_option maxHeartbeats 1000000 in
theorem clone_any (b o n k : Nat) (ns : List Nat) (w : World) (h : BytesV w (.slice (some ⟨b, o, none⟩) n k) ns) (hl : ns.length ≤ 100000) (h0 : 0 < ns.length) :
    Calls Try.prog 85 #[.slice (some ⟨b, o, none⟩) n k] w fun e w' => ∃ r, e = .returned r ∧ w'.ownsRow w.heap.size 5 1 r ns.length (u8s ns) ∧ Below w.heap.size w w' := by
  obtain ⟨i0, hi, hz0, hz1, hz2⟩ := info_parts infoU8
  obtain ⟨A, cap, e⟩ := h.shape
  cases e
  have HS := Lib.hid h
  clear h
  have hnil : ∀ W, (binOp BinOp.eql 35 (.slice (some ⟨b, o, none⟩) ns.length k) (.slice none 0 0)).run Try.prog W = .ok (.bool false) W := fun W => Lib.run_eql_slice_nil W _ 5 (some ⟨b, o, none⟩) _ _ _ _ Try.underlying35
  go_enter Try.func85, Try.ntmps85
  have hown : (w.alloc (.cells #[] 5)).ownsRow w.heap.size 5 1 (.slice (some ⟨w.heap.size, 0, none⟩) 0 0) 0 [] := World.ownsRow_made w #[] 0 (Nat.le_refl _) (by unfold maxLen; omega) rfl
  have hnews : ∀ j u, (u8s ns)[j]? = some u → (w.alloc (.cells #[] 5)).cell? ((⟨b, o, none⟩ : Addr).add j) = some u := fun j u hj => by
    have hl' : j < ns.length := by have := (List.getElem?_eq_some_iff.1 hj).1; rw [u8s_length] at this; exact this
    obtain ⟨b', o', e, hbl, hc⟩ := HS.out.at_ hl'
    cases e
    rw [Go.WideShapes.add_plain, ((Below.refl w.heap.size w).alloc (Nat.le_refl _) _).cell (p := ⟨b, o + j, none⟩) hbl, hc, ← hj]
    simp [u8s, List.getD, hl']
  have hone : ∀ u ∈ u8s ns, u.oneCell' = true := fun u hu => by
    obtain ⟨x, _, rfl⟩ := List.mem_map.1 hu
    rfl
  go_wp2_with (first | (at_builtin; refine wpList_append_own _ rfl _ _ 35 rfl w.heap.size 5 i0 (.int .u8 0) 1 1 Try.underlying35 hi hz0 hz1 hz2 rfl (by decide) _ _ _ rfl hown ⟨b, o, none⟩ ns.length k (u8s ns) rfl (by rw [u8s_length, Nat.mul_one]) hnews hone ?c3 ?c4 ?c5 ?_) | go_in)
  case c3 => unfold maxLen; omega
  case c4 => omega
  case c5 => simp
  intro v' w1 hown' hgrow _
  have hb := ((Below.refl w.heap.size w).alloc (Nat.le_refl _) (.cells #[] 5)).grown hgrow (by simp) (fun k hk => (hown.lt k hk).1)
  clear hown hgrow hnews hone
  go_wp2_with fail
  go_ret
  exact ⟨_, rfl, hown', hb⟩
end Go.Proofs.Ytijcmdcjjcemfaa

/- Matrices copied and compared; walked. -/

namespace Go.Proofs.Ytijcmdcjjcemfaa
open Go.ChangeShapes Go.WideShapes Go.ChangeAt Go.RowKit Go.Joins
set_option linter.unusedVariables false
set_option linter.unusedSimpArgs false

/-- Three cells of a block, that may be written. -/
structure Three (w : World) (B : Nat) (a b c : Value) : Prop where
  c0 : w.cell? ⟨B, 0, none⟩ = some a
  c1 : w.cell? ⟨B, 1, none⟩ = some b
  c2 : w.cell? ⟨B, 2, none⟩ = some c
  f0 : w.frozen? ⟨B, 0, none⟩ = false
  f1 : w.frozen? ⟨B, 1, none⟩ = false
  f2 : w.frozen? ⟨B, 2, none⟩ = false
theorem Three.new (w : World) (a b c : Value) (T : TypeId) : Three (w.alloc (.cells #[a, b, c] T)) w.heap.size a b c :=
  ⟨by simp [go_sem], by simp [go_sem], by simp [go_sem], by simp [go_sem], by simp [go_sem], by simp [go_sem]⟩
theorem Three.below {w w' : World} {B : Nat} {a b c : Value} (h : Three w B a b c) (hb : Below w.heap.size w w') : Three w' B a b c := by
  have hl := cell_block h.c0
  have k := Kept.of_below (p := fun _ => False) hb
  exact ⟨by rw [k.cell (d := ⟨B, 0, none⟩) hl id]; exact h.c0, by rw [k.cell (d := ⟨B, 1, none⟩) hl id]; exact h.c1, by rw [k.cell (d := ⟨B, 2, none⟩) hl id]; exact h.c2,
    by rw [k.frozen (d := ⟨B, 0, none⟩) hl id]; exact h.f0, by rw [k.frozen (d := ⟨B, 1, none⟩) hl id]; exact h.f1, by rw [k.frozen (d := ⟨B, 2, none⟩) hl id]; exact h.f2⟩
theorem Three.alloc {w : World} {B : Nat} {a b c : Value} (h : Three w B a b c) (o : Obj) : Three (w.alloc o) B a b c := h.below ((Below.refl _ _).alloc (Nat.le_refl _) o)

theorem own_kept {p : Nat → Prop} {w w' : World} {B k n : Nat} {e : TypeId} {v : Value} {xs : List Value} (h : w.ownsRow B e k v n xs) (hk : Kept p w w') (hp : ∀ g, B ≤ g → ¬ p g) : w'.ownsRow B e k v n xs := by
  refine ⟨h.1, ?_⟩
  rcases h.2 with h2 | ⟨g, cap, cur, h1, h2, h3, h4⟩
  · exact Or.inl h2
  · refine Or.inr ⟨g, cap, cur, h1, h2, ?_, h4⟩
    rw [hk.block g (Array.getElem?_eq_some_iff.1 h3).1 (hp g h2)]; exact h3
theorem own_base {w : World} {B B' k n : Nat} {e : TypeId} {v : Value} {xs : List Value} (h : w.ownsRow B e k v n xs) (hB : B' ≤ B) : w.ownsRow B' e k v n xs := by
  refine ⟨h.1, ?_⟩
  rcases h.2 with h2 | ⟨g, cap, cur, h1, h2, h3⟩
  · exact Or.inl h2
  · exact Or.inr ⟨g, cap, cur, h1, by omega, h3⟩
theorem own_cell {w : World} {B k n : Nat} {e : TypeId} {v u : Value} {xs : List Value} (h : w.ownsRow B e k v n xs) {d : Addr} (hd : d.block < B) : (w.setCell d u).ownsRow B e k v n xs :=
  own_kept (p := fun j => j = d.block) h ((Kept.refl (fun j => j = d.block) w).setCell (d := d) (fun _ => rfl) u) (fun g hg e => by omega)

theorem cum2 {W a b : World} (h : Below W.heap.size W a) (hb : Below a.heap.size a b) : Below W.heap.size W b := h.trans (hb.mono h.size)

set_option maxRecDepth 100000 in
set_option maxHeartbeats 1000000 in
theorem own_any (R C : Int) (b o n k : Nat) (ns : List Nat) (w : World) (h : BytesV w (.slice (some ⟨b, o, none⟩) n k) ns) (hl : ns.length ≤ 100000) (h0 : 0 < ns.length) :
    Calls Try.prog 76 #[matV R C (.slice (some ⟨b, o, none⟩) n k)] w fun e w' => ∃ r, e = .returned (matV R C r) ∧ w'.ownsRow w.heap.size 5 1 r ns.length (u8s ns) ∧ Below w.heap.size w w' := by
  have hb1 := (Below.refl w.heap.size w).alloc (Nat.le_refl _) (.cells #[.int .i64 R, .int .i64 C, .slice (some ⟨b, o, none⟩) n k] 55)
  have hb2 := hb1.alloc hb1.size (.cells #[.int .i64 0, .int .i64 0, .slice none 0 0] 55)
  have ht1 := (Three.new w (.int .i64 R) (.int .i64 C) (.slice (some ⟨b, o, none⟩) n k) 55).alloc (.cells #[.int .i64 0, .int .i64 0, .slice none 0 0] 55)
  have ht2 := Three.new (w.alloc (.cells #[.int .i64 R, .int .i64 C, .slice (some ⟨b, o, none⟩) n k] 55)) (.int .i64 0) (.int .i64 0) (.slice none 0 0) 55
  rw [World.size_alloc] at ht2
  have HB := Lib.hid hb2
  have HT1 := Lib.hid ht1
  have HT2 := Lib.hid ht2
  have HS := Lib.hid (h.below hb2)
  clear h hb1 hb2 ht1 ht2
  unfold matV
  go_enter Try.func76, Try.ntmps76
  go_wp2_with fail
  refine (clone_any b o n k ns _ HS.out hl h0).mono ?_
  rintro e w1 ⟨r, rfl, hown, hb⟩
  obtain ⟨Ar, cr, rfl⟩ := own_shape hown
  obtain ⟨a0, a1, a2, f0, f1, f2⟩ := HT1.out.below hb
  obtain ⟨g0, g1, g2, h0', h1, h2⟩ := HT2.out.below hb
  have hx := cum2 HB.out hb
  simp only [World.size_alloc] at hown
  have HOWN := Lib.hid hown
  clear hb HB HT1 HT2 HS hown
  go_wp2_with fail
  refine bodyPost_ret (v := matV R C (.slice Ar ns.length cr)) (by simp [results, Try.results76, go_sem, matV, *]) rfl ⟨_, rfl, ?_, ?_⟩
  · exact own_base (own_cell (own_cell (own_cell (own_cell HOWN.out (by dsimp only; omega)) (by dsimp only; omega)) (by dsimp only; omega)) (by dsimp only; omega)) (by omega)
  · exact (((hx.setCell (p := ⟨w.heap.size, 2, none⟩) (by simp) _).setCell (p := ⟨w.heap.size + 1, 0, none⟩) (by simp) _).setCell (p := ⟨w.heap.size + 1, 1, none⟩) (by simp) _).setCell (p := ⟨w.heap.size + 1, 2, none⟩) (by simp) _

set_option maxRecDepth 100000 in
set_option maxHeartbeats 1000000 in
theorem copyMatrix_any (R C : Int) (v : Value) (ns : List Nat) (w : World) (h : BytesV w v ns) (hl : ns.length ≤ 100000) :
    Calls Try.prog 64 #[matV R C v] w fun e w' => ∃ r, e = .returned (matV R C r) ∧ w'.ownsRow w.heap.size 5 1 r ns.length (u8s ns) ∧ Below w.heap.size w w' := by
  obtain ⟨A, k, rfl⟩ := h.shape
  have hb1 := (Below.refl w.heap.size w).alloc (Nat.le_refl _) (.cells #[.int .i64 R, .int .i64 C, .slice A ns.length k] 55)
  have hb2 := hb1.alloc hb1.size (.cells #[.int .i64 0, .int .i64 0, .slice none 0 0] 55)
  have hb3 := hb2.alloc hb2.size (.cells #[.int .i64 R, .int .i64 C, .slice A ns.length k] 55)
  have ht2 := (Three.new (w.alloc (.cells #[.int .i64 R, .int .i64 C, .slice A ns.length k] 55)) (.int .i64 0) (.int .i64 0) (.slice none 0 0) 55).alloc (.cells #[.int .i64 R, .int .i64 C, .slice A ns.length k] 55)
  have ht3 := Three.new ((w.alloc (.cells #[.int .i64 R, .int .i64 C, .slice A ns.length k] 55)).alloc (.cells #[.int .i64 0, .int .i64 0, .slice none 0 0] 55)) (.int .i64 R) (.int .i64 C) (.slice A ns.length k) 55
  simp only [World.size_alloc] at ht2 ht3
  have HB := Lib.hid hb3
  have HT2 := Lib.hid ht2
  have HT3 := Lib.hid ht3
  have HS := Lib.hid (h.below hb3)
  clear h hb1 hb2 hb3 ht2 ht3
  unfold matV
  go_enter Try.func64, Try.ntmps64
  go_wp2_with fail
  refine (copyBytes_any _ ns _ HS.out hl).mono ?_
  rintro e w1 ⟨r, rfl, hown, hb⟩
  obtain ⟨Ar, cr, rfl⟩ := own_shape hown
  obtain ⟨g0, g1, g2, k0, k1, k2⟩ := HT2.out.below hb
  obtain ⟨a0, a1, a2, f0, f1, f2⟩ := HT3.out.below hb
  have hx := cum2 HB.out hb
  simp only [World.size_alloc] at hown
  have HOWN := Lib.hid hown
  clear hb HB HT2 HT3 HS hown
  go_wp2_with fail
  refine bodyPost_ret (v := matV R C (.slice Ar ns.length cr)) (by simp [results, Try.results64, go_sem, matV, *]) rfl ⟨_, rfl, ?_, ?_⟩
  · exact own_base (own_cell (own_cell (own_cell (own_cell HOWN.out (by dsimp only; omega)) (by dsimp only; omega)) (by dsimp only; omega)) (by dsimp only; omega)) (by omega)
  · exact (((hx.setCell (p := ⟨w.heap.size + 1 + 1, 2, none⟩) (by simp; omega) _).setCell (p := ⟨w.heap.size + 1, 0, none⟩) (by simp) _).setCell (p := ⟨w.heap.size + 1, 1, none⟩) (by simp) _).setCell (p := ⟨w.heap.size + 1, 2, none⟩) (by simp) _
end Go.Proofs.Ytijcmdcjjcemfaa

/- Bytes and matrices that are one; the law's error number. -/

namespace Go.Proofs.Ytijcmdcjjcemfaa
open Go.ChangeShapes Go.WideShapes Go.ChangeAt Go.RowKit Go.Joins
set_option linter.unusedVariables false
set_option linter.unusedSimpArgs false

end Go.Proofs.Ytijcmdcjjcemfaa
