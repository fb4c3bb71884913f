/- Whatever bytes and numbers come in, FieldMul answers true and changes nothing that was there. No condition. -/
import Derived.Test.YtjnalbhfinejgaaField
import Derived.Test.YtjnalbhfinejgaaAsk1
import Derived.BigQuiet
namespace Go.Proofs.Ytjnalbhfinejgaa
open Go.ChangeShapes Go.WideShapes Go.ChangeAt Go.RowKit Go.Joins
set_option linter.unusedVariables false
set_option linter.unusedSimpArgs false

set_option maxRecDepth 100000 in
set_option maxHeartbeats 400000 in
theorem fieldMul_walk (w : World) (vB vN : Value) (ns : List Nat) (hB : BytesIn w vB ns) :
    Calls Try.prog 3 #[.agg #[vB, vN]] w fun e w' => e = .returned (.bool true) ∧ Below w.heap.size w w' := by
  obtain ⟨hlt, ⟨rfl, p, cap, rfl⟩ | ⟨b, off, cap, rfl, hne, hm, hb, hc⟩⟩ := hB
  · go_enter Try.func3, Try.ntmps3
    go_wp2_with fail
    have hbel : Below w.heap.size w (w.alloc (Obj.cells #[Value.slice p 0 cap, vN] 25)) := (Below.refl _ _).alloc (Nat.le_refl _) _
    refine wp_loop_rounds 1 ?_
    rw [rounds_succ]
    go_wp2_with (go_at_call 13; refine (wakes_any _).mono ?_; rintro e w' ⟨rfl, rfl⟩)
    go_ret
    exact ⟨rfl, hbel⟩
  · go_enter Try.func3, Try.ntmps3
    go_wp2_with fail
    have hbel : Below w.heap.size w (w.alloc (Obj.cells #[Value.slice (some { block := b, off := off }) ns.length cap, vN] 25)) := (Below.refl _ _).alloc (Nat.le_refl _) _
    have hc0 : (w.alloc (Obj.cells #[Value.slice (some { block := b, off := off }) ns.length cap, vN] 25)).cell? ⟨w.heap.size, 0, none⟩ = some (Value.slice (some { block := b, off := off }) ns.length cap) := by
      simp [go_sem]
    have hcB : ∀ i, i < ns.length → (w.alloc (Obj.cells #[Value.slice (some { block := b, off := off }) ns.length cap, vN] 25)).cell? ⟨b, off + i, none⟩ = some (.int .u8 ((ns.getD i 0 : Nat) : Int)) := by
      intro i hi
      rw [hbel.cell (p := ⟨b, off + i, none⟩) hb]
      exact hc i hi
    generalize w.alloc (Obj.cells #[Value.slice (some { block := b, off := off }) ns.length cap, vN] 25) = W at *
    have HB := Lib.hid hcB
    clear hcB hc
    have hm' := hm
    unfold maxLen at hm'
    go_loopw [3, 4] (fun i j wr => ∃ k n : Nat, i = .int .i64 k ∧ k ≤ 4 ∧ k ≤ ns.length ∧ wr = W.drewN n) (fun i _ _ => (4 - intOf i).toNat)
    case atStart => exact ⟨0, 0, rfl, by omega, by omega, rfl⟩
    case round =>
      obtain ⟨k, n, rfl, h1, h2, rfl⟩ := hrel
      by_cases h4 : k < ns.length ∧ k < 4
      · obtain ⟨h3, h4⟩ := h4
        obtain ⟨m, hm256, hcell⟩ : ∃ m : Nat, m < 256 ∧ W.cell? ⟨b, off + k, none⟩ = some (.int .u8 (m : Int)) := ⟨_, hlt _ (by rw [← List.getElem_eq_getD (h := h3)]; exact List.getElem_mem h3), HB.out k h3⟩
        have hk4 : decide ((k : Int) < 4) = true := by simp; omega
        go_wp2_with fail
        obtain ⟨wo, rfl⟩ : ∃ wo : Nat, wo = n := ⟨_, rfl⟩
        go_loopw [4] (fun j wr => ∃ x n : Nat, j = .int .i64 x ∧ x ≤ 256 ∧ wr = W.drewN n) (fun j _ => (256 - intOf j).toNat)
        case atStart => exact ⟨0, _, rfl, by omega, rfl⟩
        case round =>
          obtain ⟨x, n, rfl, hx, rfl⟩ := hrel
          by_cases hx2 : x < 256
          · have hw8 : IntKind.u8.wrap (x : Int) = x := IntWalk.u8_in _ (by omega)
            go_wp2_with fail
            go_quiet (first
              | (go_at_call 10; exact quiet_add_left (fieldMul_any _ _ _ (by omega) (by omega) (by omega) (by omega)))
              | (go_at_call 11; exact quiet_add_left (refMul_any _ _ _ (by omega) (by omega) (by omega) (by omega)))
              | (go_at_call 12; exact quiet_add_left (fieldAdd_any _ _ _)))
            go_wp2_with fail
            go_roundw
            case rel => exact ⟨x + 1, _, by go_num, by omega, rfl⟩
            case measure => simp [intOf]; omega
          · go_wp2_with fail
            go_roundw
            case rel => exact ⟨k + 1, _, by go_num, by omega, by omega, rfl⟩
            case measure => simp [intOf]; omega
      · go_wp2_with (go_at_call 13; refine (wakes_any _).mono ?_; rintro e w' ⟨rfl, rfl⟩)
        all_goals
          go_ret
          exact ⟨rfl, below_drewN hbel _⟩

set_option maxRecDepth 100000 in
theorem fieldMul_lifted (os : Os) (started : os.Started) (H : Type) (enc : TypeId × Value → H) :
    ReturnsInHanded {} Try.checked os 3 .any (Rows.fieldMulSpec.pre6 enc Try.prog Try.f3 Rows.fieldMulRow.domain false) (Rows.fieldMulSpec.post enc Try.prog Try.f3 false true false false) := by
  refine returnsInHanded_of_change_sized (C := Try.checked) ownKnobA started (by kernel_rfl) Try.func3
    (ChangeSpec.witness6 (enc := enc) (C := Try.checked) false ⟨#[], #[.agg #[.slice none 0 0, .slice none 0 0]], []⟩ 8 (by kernel_rfl) (by kernel_rfl) (by kernel_rfl) (by kernel_rfl)) ?_
  intro W base args ds gs before hval0 hW _ hsz _
  have hval : ∀ (j : Nat) t v, Try.f3.params[j]? = some t → args[j]? = some v → Value.okWide Try.prog W .any base t v := hval0
  have hW' := hW
  obtain ⟨p, q, hA0, hV, rfl, hfz, hnd⟩ := hW
  have hA : DataW.TrodAll enc Try.prog W 0 (fun _ => true) true Try.f3.params.toList args.toList ds p := hA0
  rw [Try.params3] at hA hval
  obtain ⟨v0, d0, rfl, rfl, h0⟩ := trodAll_one hA
  obtain ⟨rfl, rfl⟩ := trodVars_none hV
  simp only [List.append_nil] at hW'
  obtain ⟨vB, vN, ns, zs, rfl, hB, hN⟩ := ask1_open (hval 0 25 v0 rfl rfl) h0
  refine (fieldMul_walk W vB vN ns hB).mono fun e W' ⟨he, hb⟩ => ?_
  subst he
  exact ⟨_, rfl, lawPost laidOutA (by kernel_rfl) (by decide +kernel) Try.params3 (by kernel_rfl) Try.underlying4 rfl rfl hW' h0 hb⟩

theorem fieldMul_holds : Rows.FieldMulSaid :=
  OpenClaim.holds_of_wide 3 Try.f3 rfl rfl rfl rfl rfl rfl rfl ⟨rfl, rfl, rfl, rfl, rfl⟩ rfl rfl rfl rfl rfl (by kernel_rfl) Try.func3 (by kernel_rfl)
    (of_decide_eq_true (by kernel_rfl)) (by unfold Func.isWrapper; rw [if_neg (of_decide_eq_false (by kernel_rfl))]; exact ⟨rfl, rfl⟩)
    (fun os started H enc _ => fieldMul_lifted os started H enc)
end Go.Proofs.Ytjnalbhfinejgaa
