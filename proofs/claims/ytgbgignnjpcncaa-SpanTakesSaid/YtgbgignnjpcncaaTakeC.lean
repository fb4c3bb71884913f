/- What parts take of texts: whether the parts may be; a copy of them. -/
import Derived.Test.YtgbgignnjpcncaaTake
namespace Go.Proofs.Ytgbgignnjpcncaa
open Go.ChangeShapes Go.WideShapes Go.ChangeAt Go.RowKit Go.Joins
set_option linter.unusedVariables false
set_option linter.unusedSimpArgs false

set_option maxRecDepth 100000 in
set_option maxHeartbeats 4000000 in
theorem refMay_any (va vb : Value) (L : List ByteArray) (x : List T3) (w : World) (ha : StrsIn w va L) (hb : ThreesIn w vb x) (hL : L.length ≤ 9000000000000000000) (hM : ∀ s ∈ L, s.size ≤ 4000) (hx : x.length ≤ 4000) :
    Calls Try.prog 18 #[va, vb] w fun e w' => e = .returned (.bool (allOk L x)) ∧ Below w.heap.size w w' := by
  have HA := Lib.hid ha
  have HB := Lib.hid hb
  obtain ⟨Aa, ka, rfl⟩ := ha.len
  obtain ⟨Ab, kb, rfl⟩ := hb.len
  clear ha hb hM
  go_enter Try.func18, Try.ntmps18
  go_wp2_with fail
  go_loopw [5] (fun i wr => ∃ (k : Nat), i = .int .i64 k ∧ k ≤ x.length ∧ Hid (allOk L (x.take k) = true) ∧ Below w.heap.size w wr) (fun i _ => x.length - (intOf i).toNat)
  case atStart => exact ⟨0, rfl, by omega, rfl, Below.refl _ _⟩
  case round =>
    obtain ⟨k, rfl, hk, HOK, hwr⟩ := hrel
    by_cases hlt : k < x.length
    · obtain ⟨bb, ob, cb, eb, p, hp, b0, b1, b2⟩ := (HB.out.below hwr).at_ hlt
      cases eb
      obtain ⟨px, py, pz⟩ := p
      simp only at b0 b1 b2
      have j0 : (0 : Int) ≤ (k : Int) := by omega
      have j1 : (k : Int) < (x.length : Int) := by omega
      have hw : IntKind.i64.wrap ((L.length : Int) - 1) = (L.length : Int) - 1 := by rw [IntKind.wrap_i64]; omega
      by_cases c1 : px < 0
      · have hbad : allOk L x = false := allOk_bad hp (by simp only [partOk, decide_eq_false_iff_not]; omega)
        have HBD := Lib.hid hbad
        clear hbad
        have d1 : decide (0 ≤ px) = false := by simp; omega
        go_wp2_with fail
        go_quiet (first | (go_at_call 11; exact quiet_left (refNum_any _ _ _)) | (go_at_call 23; exact quiet_left (refBetween_any _ _ _ _)))
        go_wp2_with fail
        go_ret
        exact ⟨by first | (rw [HBD.out]; done) | (rw [HBD.out]; rfl), below_drewN hwr _⟩
      obtain ⟨a, rfl⟩ : ∃ a : Nat, px = (a : Int) := ⟨px.toNat, by omega⟩
      by_cases c2 : L.length ≤ a
      · have hbad : allOk L x = false := allOk_bad hp (by simp only [partOk, decide_eq_false_iff_not]; omega)
        have HBD := Lib.hid hbad
        clear hbad
        have d1 : decide ((a : Int) ≤ (L.length : Int) - 1) = false := by simp; omega
        go_wp2_with fail
        go_quiet (first | (go_at_call 11; exact quiet_left (refNum_any _ _ _)) | (go_at_call 23; exact quiet_left (refBetween_any _ _ _ _)))
        go_wp2_with fail
        go_ret
        exact ⟨by first | (rw [HBD.out]; done) | (rw [HBD.out]; rfl), below_drewN hwr _⟩
      have d2 : decide ((a : Int) ≤ (L.length : Int) - 1) = true := by simp; omega
      have haL : a < L.length := by omega
      obtain ⟨ba, oa, ca, ea, s, hs, a0⟩ := (HA.out.below hwr).at_ haL
      cases ea
      have i0 : (0 : Int) ≤ (a : Int) := by omega
      have i1 : (a : Int) < (L.length : Int) := by omega
      have e : L.getD a ByteArray.empty = s := by rw [List.getD, hs]; rfl
      have HE := Lib.hid e
      clear e
      by_cases c3 : py < 0
      · have hbad : allOk L x = false := allOk_bad hp (by simp only [partOk, Int.toNat_natCast, HE.out, decide_eq_false_iff_not]; omega)
        have HBD := Lib.hid hbad
        clear hbad
        have d3 : decide (0 ≤ py) = false := by simp; omega
        go_wp2_with fail
        go_quiet (first | (go_at_call 11; exact quiet_left (refNum_any _ _ _)) | (go_at_call 23; exact quiet_left (refBetween_any _ _ _ _)))
        go_wp2_with fail
        go_ret
        exact ⟨by first | (rw [HBD.out]; done) | (rw [HBD.out]; rfl), below_drewN hwr _⟩
      obtain ⟨b, rfl⟩ : ∃ b : Nat, py = (b : Int) := ⟨py.toNat, by omega⟩
      by_cases c4 : s.size < b
      · have hbad : allOk L x = false := allOk_bad hp (by simp only [partOk, Int.toNat_natCast, HE.out, decide_eq_false_iff_not]; omega)
        have HBD := Lib.hid hbad
        clear hbad
        have d4 : decide (b ≤ s.size) = false := by simp; omega
        go_wp2_with fail
        go_quiet (first | (go_at_call 11; exact quiet_left (refNum_any _ _ _)) | (go_at_call 23; exact quiet_left (refBetween_any _ _ _ _)))
        go_wp2_with fail
        go_ret
        exact ⟨by first | (rw [HBD.out]; done) | (rw [HBD.out]; rfl), below_drewN hwr _⟩
      have d4 : decide (b ≤ s.size) = true := by simp; omega
      by_cases c5 : pz < (b : Int)
      · have hbad : allOk L x = false := allOk_bad hp (by simp only [partOk, Int.toNat_natCast, HE.out, decide_eq_false_iff_not]; omega)
        have HBD := Lib.hid hbad
        clear hbad
        have d5 : decide ((b : Int) ≤ pz) = false := by simp; omega
        go_wp2_with fail
        go_quiet (first | (go_at_call 11; exact quiet_left (refNum_any _ _ _)) | (go_at_call 23; exact quiet_left (refBetween_any _ _ _ _)))
        go_wp2_with fail
        go_ret
        exact ⟨by first | (rw [HBD.out]; done) | (rw [HBD.out]; rfl), below_drewN hwr _⟩
      obtain ⟨c, rfl⟩ : ∃ c : Nat, pz = (c : Int) := ⟨pz.toNat, by omega⟩
      have d5 : decide (b ≤ c) = true := by simp; omega
      by_cases c6 : s.size < c
      · have hbad : allOk L x = false := allOk_bad hp (by simp only [partOk, Int.toNat_natCast, HE.out, decide_eq_false_iff_not]; omega)
        have HBD := Lib.hid hbad
        clear hbad
        have d6 : decide (c ≤ s.size) = false := by simp; omega
        go_wp2_with fail
        go_quiet (first | (go_at_call 11; exact quiet_left (refNum_any _ _ _)) | (go_at_call 23; exact quiet_left (refBetween_any _ _ _ _)))
        go_wp2_with fail
        go_ret
        exact ⟨by first | (rw [HBD.out]; done) | (rw [HBD.out]; rfl), below_drewN hwr _⟩
      have d6 : decide (c ≤ s.size) = true := by simp; omega
      have hgood : partOk L ((a : Int), (b : Int), (c : Int)) = true := by
        simp only [partOk, Int.toNat_natCast, HE.out, decide_eq_true_eq]; omega
      have HG := Lib.hid hgood
      clear hgood
      go_wp2_with fail
      go_quiet (first | (go_at_call 11; exact quiet_left (refNum_any _ _ _)) | (go_at_call 23; exact quiet_left (refBetween_any _ _ _ _)))
      go_wp2_with fail
      go_roundw
      case rel => exact ⟨k + 1, by go_num, by omega, by rw [Hid, allOk_take hp, HOK.out, HG.out]; rfl, below_drewN hwr _⟩
      case measure => simp [intOf]; omega
    · have hok := HOK.out
      rw [List.take_of_length_le (by omega)] at hok
      have HOK2 := Lib.hid hok
      clear hok
      go_wp2_with fail
      go_ret
      exact ⟨by first | (rw [HOK2.out]; done) | (rw [HOK2.out]; rfl), hwr⟩

set_option maxRecDepth 100000 in
set_option maxHeartbeats 2000000 in
theorem copyParts_any (vb : Value) (x : List T3) (w : World) (hb : ThreesIn w vb x) (hx : x.length ≤ 4000) :
    Calls Try.prog 16 #[vb] w fun e w' => ∃ v, e = .returned v ∧ ThreesIn w' v x ∧ Below w.heap.size w w' := by
  obtain ⟨i0, hi, hz0, hz1, hz2⟩ := info_parts infoPart
  have HB := Lib.hid hb
  obtain ⟨Ab, kb, rfl⟩ := hb.len
  clear hb
  go_enter Try.func16, Try.ntmps16
  go_wp2_with fail
  go_loopw [3, 4] (fun v i wr => ∃ (k : Nat), i = .int .i64 k ∧ k ≤ x.length ∧ wr.ownsRow w.heap.size 54 3 v k (rows3 (x.take k)) ∧ Below w.heap.size w wr) (fun _ i _ => x.length - (intOf i).toNat)
  case atStart => exact ⟨0, rfl, by omega, World.ownsRow_nil _ _ _ _, Below.refl _ _⟩
  case round =>
    obtain ⟨k, rfl, hk, hown, hwr⟩ := hrel
    by_cases hlt : k < x.length
    · obtain ⟨bb, ob, cb, eb, p, hp, b0, b1, b2⟩ := (HB.out.below hwr).at_ hlt
      cases eb
      obtain ⟨px, py, pz⟩ := p
      simp only at b0 b1 b2
      go_wp2_with (first
        | (at_builtin; refine wpList_append_own _ rfl _ _ 27 rfl w.heap.size 54 i0 (.agg #[.int .i64 0, .int .i64 0, .int .i64 0]) 3 24 Try.underlying27 hi hz0 hz1 hz2 rfl (by decide) _ _ _ rfl (hown.alloc _) ⟨wr.heap.size, 0, none⟩ 1 1 [.int .i64 px, .int .i64 py, .int .i64 pz] rfl rfl ?c1 ?c2 ?c3 ?c4 ?c5 ?_)
        | go_in)
      case c1 => exact cell_three_new _ _ _ _ _
      case c2 => intro u hu; simp at hu; rcases hu with rfl | rfl | rfl <;> rfl
      case c3 => unfold maxLen; omega
      case c4 => omega
      case c5 => have := hwr.size; simp; omega
      all_goals
        intro v' w1 hown' hgrow _
        have hbw := append_below hwr hown hgrow
        clear hown hgrow hwr b0 b1 b2
        go_wp2_with fail
        go_roundw
        case rel =>
          refine ⟨k + 1, by go_num, by omega, ?_, hbw⟩
          obtain ⟨hk', he⟩ := List.getElem?_eq_some_iff.1 hp
          rw [List.take_succ_eq_append_getElem hk', he, rows3_snoc]
          exact hown'
        case measure => simp [intOf]; omega
    · have hke : k = x.length := by omega
      subst hke
      go_wp2_with fail
      go_ret
      rw [List.take_length] at hown
      exact ⟨_, rfl, RowIs.of_own hown, hwr⟩
end Go.Proofs.Ytgbgignnjpcncaa
