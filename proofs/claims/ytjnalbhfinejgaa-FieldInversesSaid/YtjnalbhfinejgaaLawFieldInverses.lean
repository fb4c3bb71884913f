/- Whatever bytes and numbers come in, FieldInverses answers true and changes nothing that was there. No condition. -/
import Derived.Test.YtjnalbhfinejgaaField
import Derived.Test.YtjnalbhfinejgaaAsk1
import Derived.BigQuiet
namespace Go.Proofs.Ytjnalbhfinejgaa
open Go.ChangeShapes Go.WideShapes Go.ChangeAt Go.RowKit Go.Joins
set_option linter.unusedVariables false
set_option linter.unusedSimpArgs false

theorem inverse_one (a : Nat) (ha : a < 256) : gm 1 (gp (a : Int) 254) = gp (a : Int) 254 := by
  rw [show (254 : Int) = ((254 : Nat) : Int) from rfl, gp_nat, show (1 : Int) = ((1 : Nat) : Int) from rfl, gm_nat, Gf.one_mul _ (Gf.pow_lt _ _)]
theorem inverse_pos (a : Nat) (ha : a < 256) (h0 : 1 ≤ a) : 1 ≤ gp (a : Int) 254 ∧ gp (a : Int) 254 ≤ 255 := by
  rw [show (254 : Int) = ((254 : Nat) : Int) from rfl, gp_nat]
  have h1 := Gf.inv_ne ha (by omega)
  have h2 := Gf.inv_lt a
  unfold Gf.inv at h1 h2
  omega
theorem inverse_back (a : Nat) (ha : a < 256) (h0 : 1 ≤ a) : (gm 1 (gp (gp (a : Int) 254) 254) != (a : Int)) = false := by
  rw [show (254 : Int) = ((254 : Nat) : Int) from rfl, gp_nat, gp_nat, show (1 : Int) = ((1 : Nat) : Int) from rfl, gm_nat, Gf.one_mul _ (Gf.pow_lt _ _)]
  have := Gf.inv_inv ha (by omega)
  unfold Gf.inv at this
  rw [this]; simp

set_option maxRecDepth 100000 in
set_option maxHeartbeats 400000 in
theorem fieldInverses_walk (w : World) (vB vN : Value) (ns : List Nat) (hB : BytesIn w vB ns) :
    Calls Try.prog 6 #[.agg #[vB, vN]] w fun e w' => e = .returned (.bool true) ∧ Below w.heap.size w w' := by
  have hlt := hB.1
  obtain ⟨p, cap, rfl, hS⟩ := bytesIn_slice hB
  clear hB
  go_enter Try.func6, Try.ntmps6
  go_wp2_with fail
  have hF := box2_facts w (Value.slice p ns.length cap) vN 25
  have hS2 := Lib.hid (hS.below hF.1)
  have hm := hS.1
  clear hS
  generalize w.alloc (Obj.cells #[Value.slice p ns.length cap, vN] 25) = W at *
  obtain ⟨hbel, hc0, hc1, hsz⟩ := hF
  clear hlt hsz
  go_loopw [3] (fun i wr => ∃ k n : Nat, i = .int .i64 k ∧ 1 ≤ k ∧ k ≤ 256 ∧ wr = W.drewN n) (fun i _ => (256 - intOf i).toNat)
  case atStart => exact ⟨1, 0, rfl, by omega, by omega, rfl⟩
  case round =>
    obtain ⟨k, n, rfl, h0, h1, rfl⟩ := hrel
    by_cases h4 : k < 256
    · have hw8 : IntKind.u8.wrap (k : Int) = k := IntWalk.u8_in _ (by omega)
      have f1 := inverse_one k (by omega)
      have f2 := inverse_pos k (by omega) (by omega)
      have f3 := inverse_back k (by omega) (by omega)
      go_wp2_with (first
      | (go_at_call 15; refine (num_any _ _).mono ?_; rintro e w' ⟨rfl, rfl⟩)
      | (go_at_call 13; refine (wakes_any _).mono ?_; rintro e w' ⟨rfl, rfl⟩)
      | (go_at_call 12; refine (fieldAdd_any _ _ _).mono ?_; rintro e w' ⟨rfl, rfl⟩)
      | (go_at_call 10; refine (fieldMul_any _ _ _ (by omega) (by omega) (by omega) (by omega)).mono ?_; rintro e w' ⟨rfl, rfl⟩)
      | (go_at_call 11; refine (refMul_any _ _ _ (by omega) (by omega) (by omega) (by omega)).mono ?_; rintro e w' ⟨rfl, rfl⟩)
      | (go_at_call 14; refine (fieldPow_yes _ _ _ (by omega) (by omega) (by omega) (by omega)).mono ?_; rintro e w' ⟨rfl, rfl⟩)
      | (go_at_call 18; refine (fieldInv_yes _ _ (by omega) (by omega)).mono ?_; rintro e w' ⟨rfl, rfl⟩)
      | (go_at_call 19; refine (refInv_any _ _ (by omega) (by omega)).mono ?_; rintro e w' ⟨rfl, rfl⟩))
      go_roundw
      case rel => exact ⟨k + 1, _, by go_num, by omega, by omega, rfl⟩
      case measure => simp [intOf]; omega
    · have hge : decide ((0 : Int) ≤ ns.length) = true := by simp
      go_wp2_with (go_at_call 13; refine (wakes_any _).mono ?_; rintro e w' ⟨rfl, rfl⟩)
      all_goals
        go_ret
        exact ⟨rfl, below_drewN hbel _⟩

set_option maxRecDepth 100000 in
theorem fieldInverses_lifted (os : Os) (started : os.Started) (H : Type) (enc : TypeId × Value → H) :
    ReturnsInHanded {} Try.checked os 6 .any (Rows.fieldInversesSpec.pre6 enc Try.prog Try.f6 Rows.fieldInversesRow.domain false) (Rows.fieldInversesSpec.post enc Try.prog Try.f6 false true false false) := by
  refine returnsInHanded_of_change_sized (C := Try.checked) ownKnobA started (by kernel_rfl) Try.func6
    (ChangeSpec.witness6 (enc := enc) (C := Try.checked) false ⟨#[], #[.agg #[.slice none 0 0, .slice none 0 0]], []⟩ 8 (by kernel_rfl) (by kernel_rfl) (by kernel_rfl) (by kernel_rfl)) ?_
  intro W base args ds gs before hval0 hW _ hsz _
  have hval : ∀ (j : Nat) t v, Try.f6.params[j]? = some t → args[j]? = some v → Value.okWide Try.prog W .any base t v := hval0
  have hW' := hW
  obtain ⟨p, q, hA0, hV, rfl, hfz, hnd⟩ := hW
  have hA : DataW.TrodAll enc Try.prog W 0 (fun _ => true) true Try.f6.params.toList args.toList ds p := hA0
  rw [Try.params6] at hA hval
  obtain ⟨v0, d0, rfl, rfl, h0⟩ := trodAll_one hA
  obtain ⟨rfl, rfl⟩ := trodVars_none hV
  simp only [List.append_nil] at hW'
  obtain ⟨vB, vN, ns, zs, rfl, hB, hN⟩ := ask1_open (hval 0 25 v0 rfl rfl) h0
  refine (fieldInverses_walk W vB vN ns hB).mono fun e W' ⟨he, hb⟩ => ?_
  subst he
  exact ⟨_, rfl, lawPost laidOutA (by kernel_rfl) (by decide +kernel) Try.params6 (by kernel_rfl) Try.underlying4 rfl rfl hW' h0 hb⟩

theorem fieldInverses_holds : Rows.FieldInversesSaid :=
  OpenClaim.holds_of_wide 6 Try.f6 rfl rfl rfl rfl rfl rfl rfl ⟨rfl, rfl, rfl, rfl, rfl⟩ rfl rfl rfl rfl rfl (by kernel_rfl) Try.func6 (by kernel_rfl)
    (of_decide_eq_true (by kernel_rfl)) (by unfold Func.isWrapper; rw [if_neg (of_decide_eq_false (by kernel_rfl))]; exact ⟨rfl, rfl⟩)
    (fun os started H enc _ => fieldInverses_lifted os started H enc)
end Go.Proofs.Ytjnalbhfinejgaa
