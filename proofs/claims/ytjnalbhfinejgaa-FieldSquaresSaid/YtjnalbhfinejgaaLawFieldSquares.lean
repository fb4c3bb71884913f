/- Whatever bytes and numbers come in, FieldSquares answers true and changes nothing that was there. No condition. -/
import Derived.Test.YtjnalbhfinejgaaField
import Derived.Test.YtjnalbhfinejgaaAsk1
import Derived.BigQuiet
namespace Go.Proofs.Ytjnalbhfinejgaa
open Go.ChangeShapes Go.WideShapes Go.ChangeAt Go.RowKit Go.Joins
set_option linter.unusedVariables false
set_option linter.unusedSimpArgs false

theorem squares_fact (a b : Nat) (ha : a < 256) (hb : b < 256) :
    (gm (bits .xor .u8 (a : Int) (b : Int)) (bits .xor .u8 (a : Int) (b : Int)) != bits .xor .u8 (gm (a : Int) (a : Int)) (gm (b : Int) (b : Int))) = false := by
  rw [bits_xor_u8 ha hb, gm_nat, gm_nat, gm_nat, bits_xor_u8 (Gf.mul_lt _ ha) (Gf.mul_lt _ hb)]
  have h : Gf.mul (a ^^^ b) (a ^^^ b) = Gf.mul a a ^^^ Gf.mul b b := by
    have hx := Gf.xor_lt ha hb
    rw [Gf.mul_xor_left _ ha hb, Gf.mul_xor_right ha ha hb, Gf.mul_xor_right hb ha hb, Gf.mul_comm hb ha]
    rw [show Gf.mul a a ^^^ Gf.mul a b ^^^ (Gf.mul a b ^^^ Gf.mul b b) = Gf.mul a a ^^^ (Gf.mul a b ^^^ Gf.mul a b) ^^^ Gf.mul b b by ac_rfl]
    simp
  rw [h]; simp
theorem powers_fact (a k : Nat) (ha : a < 256) :
    (gm (gp (a : Int) (3 + (k : Int))) (gp (a : Int) 4) != gp (a : Int) (7 + (k : Int))) = false := by
  rw [show (3 + (k : Int)) = ((3 + k : Nat) : Int) by omega, show (7 + (k : Int)) = ((7 + k : Nat) : Int) by omega, show (4 : Int) = ((4 : Nat) : Int) from rfl, gp_nat, gp_nat, gp_nat, gm_nat, ← Gf.pow_add ha, show 3 + k + 4 = 7 + k by omega]
  simp

set_option maxRecDepth 100000 in
set_option maxHeartbeats 400000 in
theorem fieldSquares_walk (w : World) (vB vN : Value) (ns : List Nat) (hB : BytesIn w vB ns) :
    Calls Try.prog 4 #[.agg #[vB, vN]] w fun e w' => e = .returned (.bool true) ∧ Below w.heap.size w w' := by
  have hlt := hB.1
  obtain ⟨p, cap, rfl, hS⟩ := bytesIn_slice hB
  clear hB
  go_enter Try.func4, Try.ntmps4
  go_wp2_with fail
  have hF := box2_facts w (Value.slice p ns.length cap) vN 25
  have hS2 := Lib.hid (hS.below hF.1)
  have hm := hS.1
  clear hS
  generalize w.alloc (Obj.cells #[Value.slice p ns.length cap, vN] 25) = W at *
  obtain ⟨hbel, hc0, hc1, hsz⟩ := hF
  have HL := Lib.hid hlt
  clear hlt hsz
  go_loopw [3] (fun i wr => ∃ k n : Nat, i = .int .i64 k ∧ k ≤ 20 ∧ wr = W.drewN n) (fun i _ => (20 - intOf i).toNat)
  case atStart => exact ⟨0, 0, rfl, by omega, rfl⟩
  case round =>
    obtain ⟨k, n, rfl, h1, rfl⟩ := hrel
    by_cases h4 : k + 1 < ns.length ∧ k < 20
    · obtain ⟨h3, h4⟩ := h4
      obtain ⟨b, off, x, rfl, ha, _, hcell⟩ := byte_at hS2.out HL.out (i := k) (by omega)
      obtain ⟨y, hb, _, hcell'⟩ := byte_next hS2.out HL.out (i := k + 1) (by omega)
      have hk4 : decide ((k : Int) < 20) = true := by simp; omega
      have hk5 : decide ((k : Int) + 1 < ns.length) = true := by simp; omega
      have f1 := squares_fact x y ha hb
      have f2 := powers_fact x k ha
      have hs1 : 0 ≤ bits .xor .u8 (x : Int) (y : Int) ∧ bits .xor .u8 (x : Int) (y : Int) ≤ 255 := by rw [bits_xor_u8 ha hb]; have := Gf.xor_lt ha hb; omega
      have hp1 := gp_bd (x : Int) (3 + (k : Int))
      have hp2 := gp_bd (x : Int) 4
      go_wp2_with fail
      go_quiet (fail)
      go_wp2_with (first
      | (go_at_call 15; refine (num_any _ _).mono ?_; rintro e w' ⟨rfl, rfl⟩)
      | (go_at_call 13; refine (wakes_any _).mono ?_; rintro e w' ⟨rfl, rfl⟩)
      | (go_at_call 12; refine (fieldAdd_any _ _ _).mono ?_; rintro e w' ⟨rfl, rfl⟩)
      | (go_at_call 10; refine (fieldMul_any _ _ _ (by omega) (by omega) (by omega) (by omega)).mono ?_; rintro e w' ⟨rfl, rfl⟩)
      | (go_at_call 11; refine (refMul_any _ _ _ (by omega) (by omega) (by omega) (by omega)).mono ?_; rintro e w' ⟨rfl, rfl⟩)
      | (go_at_call 14; refine (fieldPow_yes _ _ _ (by omega) (by omega) (by omega) (by omega)).mono ?_; rintro e w' ⟨rfl, rfl⟩)
      | (go_at_call 18; refine (fieldInv_yes _ _ (by omega) (by omega)).mono ?_; rintro e w' ⟨rfl, rfl⟩)
      | (go_at_call 19; refine (refInv_any _ _ (by omega) (by omega)).mono ?_; rintro e w' ⟨rfl, rfl⟩))
      go_roundw
      case rel => exact ⟨k + 1, _, by go_num, by omega, rfl⟩
      case measure => simp [intOf]; omega
    · go_wp2_with (go_at_call 13; refine (wakes_any _).mono ?_; rintro e w' ⟨rfl, rfl⟩)
      all_goals
        go_ret
        exact ⟨rfl, below_drewN hbel _⟩

set_option maxRecDepth 100000 in
theorem fieldSquares_lifted (os : Os) (started : os.Started) (H : Type) (enc : TypeId × Value → H) :
    ReturnsInHanded {} Try.checked os 4 .any (Rows.fieldSquaresSpec.pre6 enc Try.prog Try.f4 Rows.fieldSquaresRow.domain false) (Rows.fieldSquaresSpec.post enc Try.prog Try.f4 false true false false) := by
  refine returnsInHanded_of_change_sized (C := Try.checked) ownKnobA started (by kernel_rfl) Try.func4
    (ChangeSpec.witness6 (enc := enc) (C := Try.checked) false ⟨#[], #[.agg #[.slice none 0 0, .slice none 0 0]], []⟩ 8 (by kernel_rfl) (by kernel_rfl) (by kernel_rfl) (by kernel_rfl)) ?_
  intro W base args ds gs before hval0 hW _ hsz _
  have hval : ∀ (j : Nat) t v, Try.f4.params[j]? = some t → args[j]? = some v → Value.okWide Try.prog W .any base t v := hval0
  have hW' := hW
  obtain ⟨p, q, hA0, hV, rfl, hfz, hnd⟩ := hW
  have hA : DataW.TrodAll enc Try.prog W 0 (fun _ => true) true Try.f4.params.toList args.toList ds p := hA0
  rw [Try.params4] at hA hval
  obtain ⟨v0, d0, rfl, rfl, h0⟩ := trodAll_one hA
  obtain ⟨rfl, rfl⟩ := trodVars_none hV
  simp only [List.append_nil] at hW'
  obtain ⟨vB, vN, ns, zs, rfl, hB, hN⟩ := ask1_open (hval 0 25 v0 rfl rfl) h0
  refine (fieldSquares_walk W vB vN ns hB).mono fun e W' ⟨he, hb⟩ => ?_
  subst he
  exact ⟨_, rfl, lawPost laidOutA (by kernel_rfl) (by decide +kernel) Try.params4 (by kernel_rfl) Try.underlying4 rfl rfl hW' h0 hb⟩

theorem fieldSquares_holds : Rows.FieldSquaresSaid :=
  OpenClaim.holds_of_wide 4 Try.f4 rfl rfl rfl rfl rfl rfl rfl ⟨rfl, rfl, rfl, rfl, rfl⟩ rfl rfl rfl rfl rfl (by kernel_rfl) Try.func4 (by kernel_rfl)
    (of_decide_eq_true (by kernel_rfl)) (by unfold Func.isWrapper; rw [if_neg (of_decide_eq_false (by kernel_rfl))]; exact ⟨rfl, rfl⟩)
    (fun os started H enc _ => fieldSquares_lifted os started H enc)
end Go.Proofs.Ytjnalbhfinejgaa
