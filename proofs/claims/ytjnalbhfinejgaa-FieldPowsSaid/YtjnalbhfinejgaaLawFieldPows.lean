/- Whatever bytes and numbers come in, FieldPows answers true and changes nothing that was there. No condition. -/
import Derived.Test.YtjnalbhfinejgaaField
import Derived.Test.YtjnalbhfinejgaaAsk1
import Derived.BigQuiet
namespace Go.Proofs.Ytjnalbhfinejgaa
open Go.ChangeShapes Go.WideShapes Go.ChangeAt Go.RowKit Go.Joins
set_option linter.unusedVariables false
set_option linter.unusedSimpArgs false

theorem row6_at (w : World) (a0 a1 a2 a3 a4 a5 : Int) (T : TypeId) (h0 : -9223372036854775808 ≤ a0 ∧ a0 ≤ 9223372036854775807) (h1 : -9223372036854775808 ≤ a1 ∧ a1 ≤ 9223372036854775807)
    (h2 : -9223372036854775808 ≤ a2 ∧ a2 ≤ 9223372036854775807) (h3 : -9223372036854775808 ≤ a3 ∧ a3 ≤ 9223372036854775807) (h4 : -9223372036854775808 ≤ a4 ∧ a4 ≤ 9223372036854775807) (h5 : -9223372036854775808 ≤ a5 ∧ a5 ≤ 9223372036854775807) :
    ∀ i : Nat, i < 6 → ∃ m : Int, -9223372036854775808 ≤ m ∧ m ≤ 9223372036854775807 ∧
      (w.alloc (Obj.cells #[Value.int IntKind.i64 a0, Value.int IntKind.i64 a1, Value.int IntKind.i64 a2, Value.int IntKind.i64 a3, Value.int IntKind.i64 a4, Value.int IntKind.i64 a5] T)).cell? ⟨w.heap.size, i, none⟩ = some (.int .i64 m) := by
  intro i hi
  rcases i with _ | _ | _ | _ | _ | _ | i
  · exact ⟨a0, h0.1, h0.2, by simp [go_sem]⟩
  · exact ⟨a1, h1.1, h1.2, by simp [go_sem]⟩
  · exact ⟨a2, h2.1, h2.2, by simp [go_sem]⟩
  · exact ⟨a3, h3.1, h3.2, by simp [go_sem]⟩
  · exact ⟨a4, h4.1, h4.2, by simp [go_sem]⟩
  · exact ⟨a5, h5.1, h5.2, by simp [go_sem]⟩
  · omega

set_option maxRecDepth 100000 in
set_option maxHeartbeats 1000000 in
theorem fieldPows_walk (w : World) (vB vN : Value) (ns : List Nat) (zs : List Int) (hB : BytesIn w vB ns) (hN : NumsIn w vN zs) :
    Calls Try.prog 5 #[.agg #[vB, vN]] w fun e w' => e = .returned (.bool true) ∧ Below w.heap.size w w' := by
  have hlt := hB.1
  have hbd := hN.1
  obtain ⟨p, cap, rfl, hS⟩ := bytesIn_slice hB
  obtain ⟨q, capN, rfl, hT⟩ := numsIn_slice hN
  clear hB hN
  go_enter Try.func5, Try.ntmps5
  go_wp2_with fail
  have hF := box2_facts w (Value.slice p ns.length cap) (Value.slice q zs.length capN) 25
  have hS2 := Lib.hid (hS.below hF.1)
  have hT2 := Lib.hid (hT.below hF.1)
  have hm := hS.1
  have hm2 := hT.1
  clear hS hT
  generalize w.alloc (Obj.cells #[Value.slice p ns.length cap, Value.slice q zs.length capN] 25) = W at *
  obtain ⟨hbel, hc0, hc1, hsz⟩ := hF
  have HL := Lib.hid hlt
  have HZ := Lib.hid hbd
  have HC0 := Lib.hid hc0
  have HC1 := Lib.hid hc1
  have HSZ := Lib.hid hsz
  clear hlt hbd hsz hc0 hc1
  go_loopw [3] (fun i wr => ∃ k : Nat, i = .int .i64 k ∧ k ≤ 8 ∧ Below W.heap.size W wr) (fun i _ => (8 - intOf i).toNat)
  case atStart => exact ⟨0, rfl, by omega, Below.refl _ _⟩
  case round =>
    obtain ⟨k, rfl, h1, hwr⟩ := hrel
    have hc0 : wr.cell? ⟨w.heap.size, 0, none⟩ = some (Value.slice p ns.length cap) := by rw [hwr.cell (p := ⟨w.heap.size, 0, none⟩) (by show w.heap.size < _; rw [HSZ.out]; omega)]; exact HC0.out
    have hc1 : wr.cell? ⟨w.heap.size, 1, none⟩ = some (Value.slice q zs.length capN) := by rw [hwr.cell (p := ⟨w.heap.size, 1, none⟩) (by show w.heap.size < _; rw [HSZ.out]; omega)]; exact HC1.out
    by_cases h4 : k < zs.length ∧ k < 8
    · obtain ⟨h3, h4⟩ := h4
      obtain ⟨b, off, x, rfl, ha, _, hcell⟩ := num_at (hT2.out.below hwr) HZ.out (i := k) (by omega)
      have hk4 : decide ((k : Int) < 8) = true := by simp; omega
      go_wp2_with fail
      have hR6 := row6_at wr x (k : Int) 255 254 0 (-1) 3 (by omega) (by omega) (by omega) (by omega) (by omega) (by omega)
      have hBV : Below wr.heap.size wr (wr.alloc (Obj.cells #[Value.int IntKind.i64 x, Value.int IntKind.i64 (k : Int), Value.int IntKind.i64 255, Value.int IntKind.i64 254, Value.int IntKind.i64 0, Value.int IntKind.i64 (-1)] 3)) := (Below.refl _ _).alloc (Nat.le_refl _) _
      generalize wr.alloc (Obj.cells #[Value.int IntKind.i64 x, Value.int IntKind.i64 (k : Int), Value.int IntKind.i64 255, Value.int IntKind.i64 254, Value.int IntKind.i64 0, Value.int IntKind.i64 (-1)] 3) = V at *
      have hBW : Below W.heap.size W V := hwr.trans (hBV.mono hwr.size)
      have hv0 : V.cell? ⟨w.heap.size, 0, none⟩ = some (Value.slice p ns.length cap) := by rw [hBW.cell (p := ⟨w.heap.size, 0, none⟩) (by show w.heap.size < _; rw [HSZ.out]; omega)]; exact HC0.out
      have HSV := Lib.hid (hS2.out.below hBW)
      have HR6 := Lib.hid hR6
      clear hc0 hc1 hcell hR6 hBV hwr
      go_loopw [5] (fun i wr => ∃ y n : Nat, i = .int .i64 y ∧ y ≤ 6 ∧ wr = V.drewN n) (fun i _ => (6 - intOf i).toNat)
      case atStart => exact ⟨0, 0, rfl, by omega, rfl⟩
      case round =>
        obtain ⟨y, n, rfl, h5, rfl⟩ := hrel
        by_cases h6 : y < 6
        · obtain ⟨m, hm1, hm2, hcellm⟩ := HR6.out y h6
          by_cases hneg : m < 0
          · go_wp2_with (first
              | (go_at_call 16; refine (fieldExp_no _ _ (by omega)).mono ?_; rintro e w' ⟨rfl, rfl⟩)
              | (go_at_call 15; refine (num_any _ _).mono ?_; rintro e w' ⟨rfl, rfl⟩))
            go_loopw [10] (fun j wr => ∃ z n : Nat, j = .int .i64 z ∧ z ≤ 6 ∧ wr = V.drewN n) (fun j _ => (6 - intOf j).toNat)
            case atStart => exact ⟨0, _, rfl, by omega, rfl⟩
            case round =>
              obtain ⟨z, n2, rfl, h7, rfl⟩ := hrel
              by_cases h8 : z < ns.length ∧ z < 6
              · obtain ⟨h8, h9⟩ := h8
                obtain ⟨b3, off3, c, rfl, hcl, _, hcellc⟩ := byte_at HSV.out HL.out (i := z) (by omega)
                have hz6 : decide ((z : Int) < 6) = true := by simp; omega
                go_wp2_with fail
                go_quiet (first
                  | (go_at_call 14; exact quiet_add_left (fieldPow_no _ _ _ (by omega)))
                  | (go_at_call 14; exact quiet_left (fieldPow_no _ _ _ (by omega))))
                go_wp2_with (go_at_call 15; refine (num_any _ _).mono ?_; rintro e w' ⟨rfl, rfl⟩)
                go_roundw
                case rel => exact ⟨z + 1, _, by go_num, by omega, rfl⟩
                case measure => simp [intOf]; omega
              · go_wp2_with fail
                all_goals
                  go_roundw
                  case rel => exact ⟨y + 1, _, by go_num, by omega, rfl⟩
                  case measure => simp [intOf]; omega
          · go_wp2_with (first
              | (go_at_call 16; refine (fieldExp_yes _ _ (by omega) (by omega)).mono ?_; rintro e w' ⟨rfl, rfl⟩)
              | (go_at_call 17; refine (refPow_any _ _ _ (by omega) (by omega) (by omega) (by omega)).mono ?_; rintro e w' ⟨rfl, rfl⟩)
              | (go_at_call 15; refine (num_any _ _).mono ?_; rintro e w' ⟨rfl, rfl⟩))
            go_loopw [10] (fun j wr => ∃ z n : Nat, j = .int .i64 z ∧ z ≤ 6 ∧ wr = V.drewN n) (fun j _ => (6 - intOf j).toNat)
            case atStart => exact ⟨0, _, rfl, by omega, rfl⟩
            case round =>
              obtain ⟨z, n2, rfl, h7, rfl⟩ := hrel
              by_cases h8 : z < ns.length ∧ z < 6
              · obtain ⟨h8, h9⟩ := h8
                obtain ⟨b3, off3, c, rfl, hcl, _, hcellc⟩ := byte_at HSV.out HL.out (i := z) (by omega)
                have hz6 : decide ((z : Int) < 6) = true := by simp; omega
                go_wp2_with fail
                go_quiet (first
                  | (go_at_call 14; exact quiet_add_left (fieldPow_yes _ _ _ (by omega) (by omega) (by omega) (by omega)))
                  | (go_at_call 14; exact quiet_left (fieldPow_yes _ _ _ (by omega) (by omega) (by omega) (by omega))))
                go_wp2_with (go_at_call 15; refine (num_any _ _).mono ?_; rintro e w' ⟨rfl, rfl⟩)
                go_quiet (first
                  | (go_at_call 17; exact quiet_add_left (refPow_any _ _ _ (by omega) (by omega) (by omega) (by omega)))
                  | (go_at_call 17; exact quiet_left (refPow_any _ _ _ (by omega) (by omega) (by omega) (by omega))))
                go_wp2_with (go_at_call 15; refine (num_any _ _).mono ?_; rintro e w' ⟨rfl, rfl⟩)
                go_roundw
                case rel => exact ⟨z + 1, _, by go_num, by omega, rfl⟩
                case measure => simp [intOf]; omega
              · go_wp2_with fail
                all_goals
                  go_roundw
                  case rel => exact ⟨y + 1, _, by go_num, by omega, rfl⟩
                  case measure => simp [intOf]; omega
        · go_wp2_with fail
          go_roundw
          case rel => exact ⟨k + 1, by go_num, by omega, below_drewN hBW _⟩
          case measure => simp [intOf]; omega
    · go_wp2_with (go_at_call 13; refine (wakes_any _).mono ?_; rintro e w' ⟨rfl, rfl⟩)
      all_goals
        go_ret
        exact ⟨rfl, hbel.trans (hwr.mono hbel.size)⟩

set_option maxRecDepth 100000 in
theorem fieldPows_lifted (os : Os) (started : os.Started) (H : Type) (enc : TypeId × Value → H) :
    ReturnsInHanded {} Try.checked os 5 .any (Rows.fieldPowsSpec.pre6 enc Try.prog Try.f5 Rows.fieldPowsRow.domain false) (Rows.fieldPowsSpec.post enc Try.prog Try.f5 false true false false) := by
  refine returnsInHanded_of_change_sized (C := Try.checked) ownKnobA started (by kernel_rfl) Try.func5
    (ChangeSpec.witness6 (enc := enc) (C := Try.checked) false ⟨#[], #[.agg #[.slice none 0 0, .slice none 0 0]], []⟩ 8 (by kernel_rfl) (by kernel_rfl) (by kernel_rfl) (by kernel_rfl)) ?_
  intro W base args ds gs before hval0 hW _ hsz _
  have hval : ∀ (j : Nat) t v, Try.f5.params[j]? = some t → args[j]? = some v → Value.okWide Try.prog W .any base t v := hval0
  have hW' := hW
  obtain ⟨p, q, hA0, hV, rfl, hfz, hnd⟩ := hW
  have hA : DataW.TrodAll enc Try.prog W 0 (fun _ => true) true Try.f5.params.toList args.toList ds p := hA0
  rw [Try.params5] at hA hval
  obtain ⟨v0, d0, rfl, rfl, h0⟩ := trodAll_one hA
  obtain ⟨rfl, rfl⟩ := trodVars_none hV
  simp only [List.append_nil] at hW'
  obtain ⟨vB, vN, ns, zs, rfl, hB, hN⟩ := ask1_open (hval 0 25 v0 rfl rfl) h0
  refine (fieldPows_walk W vB vN ns zs hB hN).mono fun e W' ⟨he, hb⟩ => ?_
  subst he
  exact ⟨_, rfl, lawPost laidOutA (by kernel_rfl) (by decide +kernel) Try.params5 (by kernel_rfl) Try.underlying4 rfl rfl hW' h0 hb⟩

theorem fieldPows_holds : Rows.FieldPowsSaid :=
  OpenClaim.holds_of_wide 5 Try.f5 rfl rfl rfl rfl rfl rfl rfl ⟨rfl, rfl, rfl, rfl, rfl⟩ rfl rfl rfl rfl rfl (by kernel_rfl) Try.func5 (by kernel_rfl)
    (of_decide_eq_true (by kernel_rfl)) (by unfold Func.isWrapper; rw [if_neg (of_decide_eq_false (by kernel_rfl))]; exact ⟨rfl, rfl⟩)
    (fun os started H enc _ => fieldPows_lifted os started H enc)
end Go.Proofs.Ytjnalbhfinejgaa
