/- Both: the sum of two texts, by powers of rows of bits; walked. -/
import Derived.Test.YtoebgfacmblibaaCheck
namespace Go.Proofs.Ytoebgfacmblibaa
open Go.RowKit
set_option linter.unusedVariables false
set_option linter.unusedSimpArgs false

/-- A block of 64 numbers that are f's of the bits. -/
def RowAt (w : World) (B : Nat) (f : Nat → Nat) : Prop := ∀ i, i < 64 → f (2 ^ i) < 2 ^ 64 ∧ w.cell? ⟨B, i, none⟩ = some (.int .u64 ((f (2 ^ i) : Nat) : Int))

theorem shr_nat (b k : Nat) : ((b : Int) / 2 ^ k) = ((b / 2 ^ k : Nat) : Int) := by
  rw [Int.natCast_ediv, Int.natCast_pow]; rfl
theorem shr_and1_yes {b k : Nat} (h : b < 2 ^ 64) (e : (bits .and .u64 ((b : Int) / 2 ^ k) 1 == 1) = true) : b / 2 ^ k % 2 = 1 := by
  have : b / 2 ^ k ≤ b := Nat.div_le_self _ _
  rw [shr_nat, bits_and1_u64 (by omega)] at e; have := beq_iff_eq.1 e; omega
theorem shr_and1_no {b k : Nat} (h : b < 2 ^ 64) (e : (bits .and .u64 ((b : Int) / 2 ^ k) 1 == 1) = false) : b / 2 ^ k % 2 ≠ 1 := by
  have : b / 2 ^ k ≤ b := Nat.div_le_self _ _
  rw [shr_nat, bits_and1_u64 (by omega)] at e; have := beq_eq_false_iff_ne.1 e; omega

set_option maxRecDepth 100000 in
set_option maxHeartbeats 400000 in
theorem times_any (B x : Nat) (f : Nat → Nat) (hf : Crc.Lin f) (w : World) (hx : x < 2 ^ 64) (hB : RowAt w B f) :
    Calls Try.prog 17 #[.pointer (some ⟨B, 0, none⟩), .int .u64 (x : Int)] w fun e w' => e = .returned (.int .u64 ((f x : Nat) : Int)) ∧ w = w' := by
  have HB := Lib.hid hB
  have HX := Lib.hid hx
  have HF := Lib.hid hf
  clear hB hx hf
  go_enter Try.func17, Try.ntmps17
  go_wp2_with fail
  go_loop [4, 5, 6] (fun y j i => ∃ (k v : Nat), i = .int .i64 k ∧ y = .int .u64 (v : Int) ∧ k ≤ 64 ∧ Hid (v < 2 ^ 64 ∧ v = f (x % 2 ^ k))) (fun _ _ i => (64 - intOf i).toNat)
  case atStart => exact ⟨0, 0, rfl, rfl, by omega, by decide, by rw [Nat.pow_zero, Nat.mod_one, HF.out.zero]⟩
  case round =>
    obtain ⟨k, v, rfl, rfl, hk, H⟩ := hrel
    by_cases hlt : k < 64
    · obtain ⟨hr, hcell⟩ := HB.out k hlt
      have HR := Lib.hid hr
      clear hr
      go_wp2_with fail
      · have e := shr_and1_yes HX.out (by assumption)
        have hv := Crc.xor_lt H.out.1 HR.out
        have e2 := bits_xor_u64 H.out.1 HR.out
        go_round
        case rel => exact ⟨k + 1, v ^^^ f (2 ^ k), by go_num, congrArg _ e2, by omega, hv, by rw [HF.out.part, if_pos e, ← H.out.2]⟩
        case measure => simp [intOf]; omega
      · have e := shr_and1_no HX.out (by assumption)
        go_round
        case rel => exact ⟨k + 1, v, by go_num, rfl, by omega, H.out.1, by rw [HF.out.part, if_neg e]; exact H.out.2⟩
        case measure => simp [intOf]; omega
    · obtain rfl : k = 64 := by omega
      have HV : Hid (v = f x) := by rw [Hid, H.out.2, Nat.mod_eq_of_lt HX.out]
      go_wp2_with fail
      go_ret
      exact ⟨ret_u64 (by rw [HV.out]), rfl⟩

/-- A block of 64 numbers, of which the first k are f's of the bits. -/
def PartAt (w : World) (B : Nat) (f : Nat → Nat) (k : Nat) : Prop :=
  ∃ cs : Array Value, w.heap[B]? = some (.cells cs 36 (0, 0)) ∧ cs.size = 64 ∧ (∀ i, i < 64 → ∃ z : Nat, z < 2 ^ 64 ∧ cs[i]? = some (.int .u64 (z : Int))) ∧
    ∀ i, i < k → f (2 ^ i) < 2 ^ 64 ∧ cs[i]? = some (.int .u64 ((f (2 ^ i) : Nat) : Int))
theorem PartAt.row {w : World} {B : Nat} {f : Nat → Nat} (h : PartAt w B f 64) : RowAt w B f := by
  obtain ⟨cs, h1, h2, h3, h4⟩ := h
  exact fun i hi => ⟨(h4 i hi).1, by rw [cell_of_row w B i cs _ _ h1]; exact (h4 i hi).2⟩
theorem PartAt.cell {w : World} {B k : Nat} {f : Nat → Nat} (h : PartAt w B f k) {i : Nat} (hi : i < 64) : ∃ z : Nat, z < 2 ^ 64 ∧ w.cell? ⟨B, i, none⟩ = some (.int .u64 (z : Int)) ∧ w.frozen? ⟨B, i, none⟩ = false := by
  obtain ⟨cs, h1, h2, h3, h4⟩ := h
  obtain ⟨z, hz, hc⟩ := h3 i hi
  exact ⟨z, hz, by rw [cell_of_row w B i cs _ _ h1]; exact hc, frozen_of_row w B i cs _ h1⟩
theorem PartAt.next {w : World} {B k : Nat} {f : Nat → Nat} (h : PartAt w B f k) (hk : k < 64) (hf : f (2 ^ k) < 2 ^ 64) : PartAt (w.setCell ⟨B, k, none⟩ (.int .u64 ((f (2 ^ k) : Nat) : Int))) B f (k + 1) := by
  obtain ⟨cs, h1, h2, h3, h4⟩ := h
  refine ⟨_, heap_setCell_same w B k cs _ _ h1, by simp [h2], ?_, ?_⟩
  · intro i hi
    by_cases e : k = i
    · subst e; exact ⟨_, hf, by simp [h2, hk]⟩
    · obtain ⟨z, hz, hc⟩ := h3 i hi
      exact ⟨z, hz, by rw [Array.getElem?_setIfInBounds, if_neg e]; exact hc⟩
  · intro i hi
    by_cases e : k = i
    · subst e; exact ⟨hf, by simp [h2, hk]⟩
    · exact ⟨(h4 i (by omega)).1, by rw [Array.getElem?_setIfInBounds, if_neg e]; exact (h4 i (by omega)).2⟩
theorem PartAt.below {w w' : World} {B k : Nat} {f : Nat → Nat} (h : PartAt w B f k) {N : Nat} (hb : Below N w w') (hN : B < N) : PartAt w' B f k := by
  obtain ⟨cs, h1, h2⟩ := h
  exact ⟨cs, by rw [hb.block B hN]; exact h1, h2⟩
theorem PartAt.other {w : World} {B k C : Nat} {f : Nat → Nat} (h : PartAt w B f k) (hC : B ≠ C) (j : Nat) (u : Value) : PartAt (w.setCell ⟨C, j, none⟩ u) B f k := by
  obtain ⟨cs, h1, h2⟩ := h
  exact ⟨cs, by rw [Below.heap_setCell _ _ _ _ hC]; exact h1, h2⟩
theorem PartAt.lt {w : World} {B k : Nat} {f : Nat → Nat} (h : PartAt w B f k) : B < w.heap.size := by
  obtain ⟨cs, h1, h2⟩ := h
  exact (Array.getElem?_eq_some_iff.1 h1).1
def zero64 : Array Value := Array.replicate 64 (.int .u64 0)
theorem PartAt.new (w : World) (f : Nat → Nat) : PartAt (w.alloc (.cells zero64 36)) w.heap.size f 0 := by
  refine ⟨zero64, heap_alloc_new w _, by simp [zero64], ?_, fun i hi => by omega⟩
  intro i hi
  exact ⟨0, by decide, by simp [zero64, hi]⟩
theorem zero64_eq : zero64 = #[.int .u64 0, .int .u64 0, .int .u64 0, .int .u64 0, .int .u64 0, .int .u64 0, .int .u64 0, .int .u64 0, .int .u64 0, .int .u64 0, .int .u64 0, .int .u64 0, .int .u64 0, .int .u64 0, .int .u64 0, .int .u64 0, .int .u64 0, .int .u64 0, .int .u64 0, .int .u64 0, .int .u64 0, .int .u64 0, .int .u64 0, .int .u64 0, .int .u64 0, .int .u64 0, .int .u64 0, .int .u64 0, .int .u64 0, .int .u64 0, .int .u64 0, .int .u64 0, .int .u64 0, .int .u64 0, .int .u64 0, .int .u64 0, .int .u64 0, .int .u64 0, .int .u64 0, .int .u64 0, .int .u64 0, .int .u64 0, .int .u64 0, .int .u64 0, .int .u64 0, .int .u64 0, .int .u64 0, .int .u64 0, .int .u64 0, .int .u64 0, .int .u64 0, .int .u64 0, .int .u64 0, .int .u64 0, .int .u64 0, .int .u64 0, .int .u64 0, .int .u64 0, .int .u64 0, .int .u64 0, .int .u64 0, .int .u64 0, .int .u64 0, .int .u64 0] := by rfl

theorem two_pow_u64 {k : Nat} (h : k < 64) : IntKind.u64.wrap (2 ^ k) = ((2 ^ k : Nat) : Int) := by
  have h2 : (2 : Nat) ^ k < 2 ^ 64 := Nat.pow_lt_pow_right (by decide) h
  have e : ((2 : Int) ^ k) = ((2 ^ k : Nat) : Int) := (Int.natCast_pow 2 k).symm
  rw [e]
  generalize (2 : Nat) ^ k = m at *
  rw [IntWalk.u64_in]; omega

/-- The sum of two texts, of both sums: of integers. -/
def bothI (a b n : Int) : Int := ((Crc.tns (8 * n.toNat) a.toNat ^^^ b.toNat : Nat) : Int)

theorem and1_i64_yes {n : Nat} (h : n ≤ 9223372036854775807) (e : (bits .and .i64 (n : Int) 1 == 1) = true) : n % 2 = 1 := by
  rw [bits_and1_i64 (by omega)] at e; have := beq_iff_eq.1 e; omega
theorem and1_i64_no {n : Nat} (h : n ≤ 9223372036854775807) (e : (bits .and .i64 (n : Int) 1 == 1) = false) : n % 2 ≠ 1 := by
  rw [bits_and1_i64 (by omega)] at e; have := beq_eq_false_iff_ne.1 e; omega

/-- A round of the power by squares. -/
theorem both_round {p n a r : Nat} (h : Crc.tns (p * n) a = r) : Crc.tns (2 * p * (n / 2)) (if n % 2 = 1 then Crc.tns p a else a) = r := by
  split
  · rename_i h1
    rw [← Crc.tns_add, ← h]
    congr 1
    have e : n = 2 * (n / 2) + 1 := by omega
    generalize n / 2 = m at *
    subst e
    rw [Nat.mul_add, Nat.mul_one, Nat.add_comm, ← Nat.mul_assoc, Nat.mul_comm p 2]
  · rename_i h1
    rw [← h]
    congr 1
    have e : n = 2 * (n / 2) := by omega
    generalize n / 2 = m at *
    subst e
    rw [← Nat.mul_assoc, Nat.mul_comm p 2]

theorem PartAt.set {w : World} {B k : Nat} {f g : Nat → Nat} (h : PartAt w B f k) {cs : Array Value} (hs : cs.size = 64) (hz : ∀ i, i < 64 → ∃ z : Nat, z < 2 ^ 64 ∧ cs[i]? = some (.int .u64 (z : Int)))
    (hg : ∀ i, i < 64 → g (2 ^ i) < 2 ^ 64 ∧ cs[i]? = some (.int .u64 ((g (2 ^ i) : Nat) : Int))) : PartAt (w.setRow B cs) B g 64 := by
  obtain ⟨os, h1, h2, h3, h4⟩ := h
  exact ⟨cs, setRow_heap w B os cs _ _ h1, hs, hz, hg⟩

theorem below_setRow {B : Nat} {a w : World} (h : Below B a w) {g : Nat} (hg : B ≤ g) (cs : Array Value) : Below B a (w.setRow g cs) :=
  h.trans ⟨rfl, rfl, rfl, by simp, fun k hk => setRow_other w g k cs (by omega)⟩

set_option maxRecDepth 100000 in
set_option maxHeartbeats 1000000 in
theorem both_any (a b n : Int) (w : World) (ha : 0 ≤ a) (ha' : a ≤ 18446744073709551615) (hb : 0 ≤ b) (hb' : b ≤ 18446744073709551615) (hn : -9223372036854775808 ≤ n) (hn' : n ≤ 9223372036854775807) :
    Calls Try.prog 13 #[.int .u64 a, .int .u64 b, .int .i64 n] w fun e w' => e = .returned (.int .u64 (bothI a b n)) ∧ Below w.heap.size w w' := by
  obtain ⟨a, rfl⟩ := Int.eq_ofNat_of_zero_le ha
  obtain ⟨b, rfl⟩ := Int.eq_ofNat_of_zero_le hb
  go_enter Try.func13, Try.ntmps13
  go_wp2_with fail
  rw [← zero64_eq]
  have hP := PartAt.new w (Crc.tns 8)
  have hBel : Below w.heap.size w (w.alloc (.cells zero64 36)) := (Below.refl _ _).alloc (Nat.le_refl _) _
  generalize w.alloc (.cells zero64 36) = W at *
  go_loopw [12] (fun i wr => ∃ k : Nat, i = .int .i64 k ∧ k ≤ 64 ∧ Below w.heap.size w wr ∧ Hid (PartAt wr w.heap.size (Crc.tns 8) k)) (fun i _ => (64 - intOf i).toNat)
  case atStart => exact ⟨0, rfl, by omega, hBel, hP⟩
  case round =>
    clear hP hBel
    obtain ⟨k, rfl, hk, hbel, HP⟩ := hrel
    by_cases hlt : k < 64
    · have hk64 : decide ((k : Int) < 64) = true := by simp; omega
      obtain ⟨t, e1, HX⟩ : ∃ t : Nat, IntKind.u64.wrap (2 ^ k) = (t : Int) ∧ Hid (t < 2 ^ 64 ∧ t = 2 ^ k) := ⟨2 ^ k, two_pow_u64 hlt, Nat.pow_lt_pow_right (by decide) hlt, rfl⟩
      go_wp2_with fail
      clear e1
      obtain ⟨wo, rfl⟩ : ∃ wo : World, wo = wr := ⟨_, rfl⟩
      go_loop [9, 17] (fun x j => ∃ i v : Nat, j = .int .i64 i ∧ x = .int .u64 (v : Int) ∧ i ≤ 8 ∧ Hid (v < 2 ^ 64 ∧ v = Crc.tns i t)) (fun _ j => (8 - intOf j).toNat)
      case atStart => exact ⟨0, t, rfl, rfl, by omega, HX.out.1, rfl⟩
      case round =>
        obtain ⟨i, v, rfl, rfl, hi, HV⟩ := hrel
        by_cases hi8 : i < 8
        · have hv : (v : Int) ≤ 18446744073709551615 := by have := HV.out.1; omega
          go_wp2_with (go_at_call 16; refine (turned_any _ _ (by omega) (by omega)).mono ?_; rintro e w' ⟨rfl, rfl⟩)
          go_round
          case rel => exact ⟨i + 1, Crc.tn v, by go_num, by rw [tnI_nat], by omega, Crc.tn_lt HV.out.1, by rw [Crc.tns_succ, ← HV.out.2]⟩
          case measure => simp [intOf]; omega
        · obtain rfl : i = 8 := by omega
          obtain ⟨z, _, hcell, hfr⟩ := HP.out.cell hlt
          have HN : Hid (PartAt (wo.setCell ⟨w.heap.size, k, none⟩ (.int .u64 (v : Int))) w.heap.size (Crc.tns 8) (k + 1)) := by
            have ev : v = Crc.tns 8 (2 ^ k) := by rw [HV.out.2, HX.out.2]
            have := HP.out.next hlt (by rw [← ev]; exact HV.out.1)
            rw [← ev] at this
            exact this
          go_wp2_with fail
          go_roundw
          case rel => exact ⟨k + 1, by go_num, by omega, hbel.setCell (Nat.le_refl _) _, HN⟩
          case measure => simp [intOf]; omega
    · obtain rfl : k = 64 := by omega
      rw [show ((64 : Nat) : Int) = 64 from rfl]
      go_wp2_with fail
      have HA : Hid (a < 2 ^ 64 ∧ b < 2 ^ 64) := ⟨by omega, by omega⟩
      obtain ⟨wo, rfl⟩ : ∃ wo : World, wo = wr := ⟨_, rfl⟩
      go_loopw [0, 2] (fun a' n' wr => ∃ (x : Nat) (m : Int) (p : Nat), a' = .int .u64 (x : Int) ∧ n' = .int .i64 m ∧ m ≤ 9223372036854775807 ∧ -9223372036854775808 ≤ m ∧ Below w.heap.size w wr ∧ Hid (PartAt wr w.heap.size (Crc.tns p) 64) ∧ Hid (x < 2 ^ 64 ∧ Crc.tns (p * m.toNat) x = Crc.tns (8 * n.toNat) a)) (fun _ n' _ => (intOf n').toNat)
      case atStart => exact ⟨a, n, 8, rfl, rfl, hn', hn, hbel, HP, HA.out.1, rfl⟩
      case round =>
        clear hbel HP
        obtain ⟨x, m, p, rfl, rfl, hm, hm', hbel, HP, HX⟩ := hrel
        by_cases hm0 : 0 < m
        · obtain ⟨m, rfl⟩ := Int.eq_ofNat_of_zero_le (show 0 ≤ m by omega)
          have hm2 : m ≤ 9223372036854775807 := by omega
          have hX2 : Crc.tns (p * m) x = Crc.tns (8 * n.toNat) a := HX.out.2
          have HR := Lib.hid (both_round hX2)
          clear hX2
          by_cases hodd : (bits .and .i64 (m : Int) 1 == 1) = true
          · have ho := and1_i64_yes hm2 hodd
            rw [if_pos ho] at HR
            have HY : Hid (Crc.tns p x < 2 ^ 64 ∧ Crc.tns (2 * p * (m / 2)) (Crc.tns p x) = Crc.tns (8 * n.toNat) a) := ⟨Crc.tns_lt p HX.out.1, HR.out⟩
            have HRR0 := Lib.hid HP.out.row
            clear ho HR
            go_wp2_with (go_at_call 17; refine (times_any w.heap.size x _ (Crc.tns_lin p) _ HX.out.1 HRR0.out).mono ?_; rintro e w' ⟨rfl, rfl⟩)
            clear HRR0
            generalize Crc.tns p x = y at *
            rw [← zero64_eq]
            have hlt1 := HP.out.lt
            have HQ := Lib.hid (PartAt.new wr (Crc.tns (2 * p)))
            have HP2 := Lib.hid (HP.out.below (N := wr.heap.size) ((Below.refl _ _).alloc (Nat.le_refl _) (.cells zero64 36)) hlt1)
            have hbel2 : Below w.heap.size w (wr.alloc (.cells zero64 36)) := hbel.alloc hbel.size _
            have hne : w.heap.size ≠ wr.heap.size := by omega
            have HNE := Lib.hid hne
            clear hne HP hbel
            generalize wr.alloc (.cells zero64 36) = V at *
            generalize wr.heap.size = C at *
            go_loopw [35] (fun i wr => ∃ k : Nat, i = .int .i64 k ∧ k ≤ 64 ∧ Below w.heap.size w wr ∧ Hid (PartAt wr w.heap.size (Crc.tns p) 64) ∧ Hid (PartAt wr C (Crc.tns (2 * p)) k)) (fun i _ => (64 - intOf i).toNat)
            case atStart => exact ⟨0, rfl, by omega, hbel2, HP2, HQ⟩
            case round =>
              clear hbel2 HP2 HQ
              obtain ⟨k, rfl, hk, hbel, HP, HQ⟩ := hrel
              by_cases hk64 : k < 64
              · have hd64 : decide ((k : Int) < 64) = true := by simp; omega
                obtain ⟨hr, hcell⟩ := HP.out.row k hk64
                obtain ⟨z, _, hcell2, hfr⟩ := HQ.out.cell hk64
                have hsq : Crc.tns p (Crc.tns p (2 ^ k)) = Crc.tns (2 * p) (2 ^ k) := by rw [← Crc.tns_add, Nat.two_mul]
                have hb2 := Crc.tns_lt p hr
                have HS : Hid (Crc.tns (2 * p) (2 ^ k) < 2 ^ 64) := by rw [Hid, ← hsq]; exact hb2
                have HN := Lib.hid (HQ.out.next hk64 HS.out)
                rw [← hsq] at HN
                have HRR := Lib.hid HP.out.row
                have HR1 := Lib.hid hr
                clear hr hb2 hsq
                generalize Crc.tns p (2 ^ k) = u at *
                go_wp2_with (go_at_call 17; refine (times_any w.heap.size u _ (Crc.tns_lin p) _ HR1.out HRR.out).mono ?_; rintro e w' ⟨rfl, rfl⟩)
                go_roundw
                case rel => exact ⟨k + 1, by go_num, by omega, hbel.setCell (p := ⟨C, k, none⟩) (by show _ ≤ C; omega) _, HP.out.other HNE.out _ _, HN⟩
                case measure => simp [intOf]; omega
              · obtain rfl : k = 64 := by omega
                obtain ⟨cs, g1, g2, g3, g4⟩ := HQ.out
                obtain ⟨os, o1, o2, o3, o4⟩ := HP.out
                have HP3 := Lib.hid (PartAt.set HP.out g2 g3 g4)
                have h1c : cs.all (·.oneCell') = true := by
                  rw [Array.all_eq_true]
                  intro i hi
                  obtain ⟨z, _, hz⟩ := g3 i (by omega)
                  rw [Array.getElem?_eq_getElem hi] at hz
                  rw [Option.some.inj hz]; rfl
                have H1C := Lib.hid h1c
                have G2 := Lib.hid g2
                have O2 := Lib.hid o2
                clear g2 g3 g4 o2 o3 o4 h1c
                go_wp2_with (first
                  | (refine wpList_load_row rfl 36 _ rfl C rfl _ cs _ _ g1 Try.underlying36 rfl (by rw [G2.out]; kernel_rfl) ?_)
                  | (refine wpList_store_row rfl 36 _ _ rfl w.heap.size cs rfl rfl _ os o1 (by rw [G2.out]; kernel_rfl) (by rw [O2.out, G2.out]) H1C.out ?_))
                go_roundw
                case rel => exact ⟨y, (m : Int) / 2, 2 * p, rfl, by go_num, by omega, by omega, below_setRow hbel (Nat.le_refl _) cs, HP3, HY.out.1, by rw [show ((m : Int) / 2).toNat = m / 2 by omega]; exact HY.out.2⟩
                case measure => simp [intOf]; omega
          · have hodd : (bits .and .i64 (m : Int) 1 == 1) = false := by simpa using hodd
            have ho := and1_i64_no hm2 hodd
            rw [if_neg ho] at HR
            have HY : Hid (x < 2 ^ 64 ∧ Crc.tns (2 * p * (m / 2)) x = Crc.tns (8 * n.toNat) a) := ⟨HX.out.1, HR.out⟩
            clear ho HR
            have hd0 : decide (0 < m) = true := by simp; omega
            go_wp2_with fail
            rw [← zero64_eq]
            have hlt1 := HP.out.lt
            have HQ := Lib.hid (PartAt.new wr (Crc.tns (2 * p)))
            have HP2 := Lib.hid (HP.out.below (N := wr.heap.size) ((Below.refl _ _).alloc (Nat.le_refl _) (.cells zero64 36)) hlt1)
            have hbel2 : Below w.heap.size w (wr.alloc (.cells zero64 36)) := hbel.alloc hbel.size _
            have hne : w.heap.size ≠ wr.heap.size := by omega
            have HNE := Lib.hid hne
            clear hne HP hbel
            generalize wr.alloc (.cells zero64 36) = V at *
            generalize wr.heap.size = C at *
            go_loopw [35] (fun i wr => ∃ k : Nat, i = .int .i64 k ∧ k ≤ 64 ∧ Below w.heap.size w wr ∧ Hid (PartAt wr w.heap.size (Crc.tns p) 64) ∧ Hid (PartAt wr C (Crc.tns (2 * p)) k)) (fun i _ => (64 - intOf i).toNat)
            case atStart => exact ⟨0, rfl, by omega, hbel2, HP2, HQ⟩
            case round =>
              clear hbel2 HP2 HQ
              obtain ⟨k, rfl, hk, hbel, HP, HQ⟩ := hrel
              by_cases hk64 : k < 64
              · have hd64 : decide ((k : Int) < 64) = true := by simp; omega
                obtain ⟨hr, hcell⟩ := HP.out.row k hk64
                obtain ⟨z, _, hcell2, hfr⟩ := HQ.out.cell hk64
                have hsq : Crc.tns p (Crc.tns p (2 ^ k)) = Crc.tns (2 * p) (2 ^ k) := by rw [← Crc.tns_add, Nat.two_mul]
                have hb2 := Crc.tns_lt p hr
                have HS : Hid (Crc.tns (2 * p) (2 ^ k) < 2 ^ 64) := by rw [Hid, ← hsq]; exact hb2
                have HN := Lib.hid (HQ.out.next hk64 HS.out)
                rw [← hsq] at HN
                have HRR := Lib.hid HP.out.row
                have HR1 := Lib.hid hr
                clear hr hb2 hsq
                generalize Crc.tns p (2 ^ k) = u at *
                go_wp2_with (go_at_call 17; refine (times_any w.heap.size u _ (Crc.tns_lin p) _ HR1.out HRR.out).mono ?_; rintro e w' ⟨rfl, rfl⟩)
                go_roundw
                case rel => exact ⟨k + 1, by go_num, by omega, hbel.setCell (p := ⟨C, k, none⟩) (by show _ ≤ C; omega) _, HP.out.other HNE.out _ _, HN⟩
                case measure => simp [intOf]; omega
              · obtain rfl : k = 64 := by omega
                obtain ⟨cs, g1, g2, g3, g4⟩ := HQ.out
                obtain ⟨os, o1, o2, o3, o4⟩ := HP.out
                have HP3 := Lib.hid (PartAt.set HP.out g2 g3 g4)
                have h1c : cs.all (·.oneCell') = true := by
                  rw [Array.all_eq_true]
                  intro i hi
                  obtain ⟨z, _, hz⟩ := g3 i (by omega)
                  rw [Array.getElem?_eq_getElem hi] at hz
                  rw [Option.some.inj hz]; rfl
                have H1C := Lib.hid h1c
                have G2 := Lib.hid g2
                have O2 := Lib.hid o2
                clear g2 g3 g4 o2 o3 o4 h1c
                go_wp2_with (first
                  | (refine wpList_load_row rfl 36 _ rfl C rfl _ cs _ _ g1 Try.underlying36 rfl (by rw [G2.out]; kernel_rfl) ?_)
                  | (refine wpList_store_row rfl 36 _ _ rfl w.heap.size cs rfl rfl _ os o1 (by rw [G2.out]; kernel_rfl) (by rw [O2.out, G2.out]) H1C.out ?_))
                go_roundw
                case rel => exact ⟨x, (m : Int) / 2, 2 * p, rfl, by go_num, by omega, by omega, below_setRow hbel (Nat.le_refl _) cs, HP3, HY.out.1, by rw [show ((m : Int) / 2).toNat = m / 2 by omega]; exact HY.out.2⟩
                case measure => simp [intOf]; omega
        · have HB : Hid (x = Crc.tns (8 * n.toNat) a) := by
            have := HX.out.2
            rw [show m.toNat = 0 by omega, Nat.mul_zero] at this
            exact this
          have e1 := bits_xor_u64 HX.out.1 HA.out.2
          go_wp2_with fail
          go_ret
          exact ⟨ret_u64 (by rw [bothI, Int.toNat_natCast, Int.toNat_natCast, ← HB.out]), hbel⟩
end Go.Proofs.Ytoebgfacmblibaa
