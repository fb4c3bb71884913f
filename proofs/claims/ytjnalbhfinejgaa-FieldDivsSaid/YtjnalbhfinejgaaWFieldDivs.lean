/- FieldDivs, walked. -/
import Derived.Test.YtjnalbhfinejgaaField
import Derived.Test.YtjnalbhfinejgaaFieldLog
import Derived.Test.YtjnalbhfinejgaaAsk1
import Derived.BigQuiet
namespace Go.Proofs.Ytjnalbhfinejgaa
open Go.ChangeShapes Go.WideShapes Go.ChangeAt Go.RowKit Go.Joins
set_option linter.unusedVariables false
set_option linter.unusedSimpArgs false

theorem invs_fact (k : Nat) : gm 1 (gp (k : Int) 254) = gp (k : Int) 254 := by
  rw [show (254 : Int) = ((254 : Nat) : Int) from rfl, gp_nat, show (1 : Int) = ((1 : Nat) : Int) from rfl, gm_nat, Gf.one_mul _ (Gf.pow_lt _ _)]

set_option maxRecDepth 100000 in
set_option maxHeartbeats 1000000 in
theorem fieldDivs_walk (w : World) (vB vN : Value) (ns : List Nat) (hB : BytesIn w vB ns) :
    Calls Try.prog 8 #[.agg #[vB, vN]] w fun e w' => e = .returned (.bool true) ∧ Below w.heap.size w w' := by
  have hlt := hB.1
  obtain ⟨p, cap, rfl, hS⟩ := bytesIn_slice hB
  clear hB
  go_enter Try.func8, Try.ntmps8
  go_wp2_with fail
  have hF := box2_facts w (Value.slice p ns.length cap) vN 25
  have hS2 := Lib.hid (hS.below hF.1)
  have hm := hS.1
  clear hS
  generalize w.alloc (Obj.cells #[Value.slice p ns.length cap, vN] 25) = W at *
  obtain ⟨hbel, hc0, hc1, hsz⟩ := hF
  have HL := Lib.hid hlt
  have HC0 := Lib.hid hc0
  have HSZ := Lib.hid hsz
  clear hlt hsz hc0 hc1

  go_loopw [3] (fun i wr => ∃ k : Nat, i = .int .i64 k ∧ k ≤ 4 ∧ Below W.heap.size W wr) (fun i _ => (4 - intOf i).toNat)
  case atStart => exact ⟨0, rfl, by omega, Below.refl _ _⟩
  case round =>
    obtain ⟨k, rfl, h1, hwo⟩ := hrel
    have hc0 := below_box HC0 HSZ hwo
    by_cases h4 : k < ns.length ∧ k < 4
    · obtain ⟨h3, h4⟩ := h4
      have hk4 : decide ((k : Int) < 4) = true := by simp; omega
      go_wp2_with fail
      clear hc0
      obtain ⟨wo, rfl⟩ : ∃ wo : World, wo = wr := ⟨_, rfl⟩
      go_loopw [4] (fun j wr => ∃ x : Nat, j = .int .i64 x ∧ x ≤ 256 ∧ Below W.heap.size W wr) (fun j _ => (256 - intOf j).toNat)
      case atStart => exact ⟨0, rfl, by omega, hwo⟩
      case round =>
        clear hwo
        obtain ⟨x, rfl, hx, hwr⟩ := hrel
        have hc0 := below_box HC0 HSZ hwr
        by_cases hx2 : x < 256
        · obtain ⟨b, off, c, rfl, hcl, _, hcell⟩ := byte_at (hS2.out.below hwr) HL.out (i := k) (by omega)
          have hw8 : IntKind.u8.wrap (x : Int) = x := IntWalk.u8_in _ (by omega)
          by_cases hx0 : x = 0
          · subst hx0
            have hw0 : IntKind.u8.wrap 0 = 0 := by decide
            go_wp2_with (first
              | (go_at_call 21; refine (fieldDiv_no _ _).mono ?_; rintro e w' ⟨rfl, rfl⟩)
              | (go_at_call 18; refine (fieldInv_no _).mono ?_; rintro e w' ⟨rfl, rfl⟩)
              | (go_at_call 15; refine (num_any _ _).mono ?_; rintro e w' ⟨rfl, rfl⟩))
            refine (fieldLog_no _).mono ?_
            rintro e w1 ⟨rfl, hb1⟩
            go_wp2_with (first
              | (go_at_call 15; refine (num_any _ _).mono ?_; rintro e w' ⟨rfl, rfl⟩))
            go_roundw
            case rel => exact ⟨0 + 1, by go_num, by omega, hwr.trans (hb1.mono hwr.size)⟩
            case measure => simp [intOf]
          · have hxe : ((x : Int) == 0) = false := by rw [beq_eq_false_iff_ne]; omega
            have hin := invs_fact x
            have hp1 := gp_bd (x : Int) 254
            go_wp2_with (first
              | (go_at_call 21; refine (fieldDiv_yes _ _ _ (by omega) (by omega) (by omega) (by omega)).mono ?_; rintro e w' ⟨rfl, rfl⟩)
              | (go_at_call 18; refine (fieldInv_yes _ _ (by omega) (by omega)).mono ?_; rintro e w' ⟨rfl, rfl⟩)
              | (go_at_call 15; refine (num_any _ _).mono ?_; rintro e w' ⟨rfl, rfl⟩))
            refine (fieldLog_yes _ _ (by omega) (by omega)).mono ?_
            rintro e w1 ⟨rfl, hb1⟩
            have hb2 := hwr.trans (hb1.mono hwr.size)
            have hc1 := below_box HC0 HSZ hb2
            have hcell1 : w1.cell? ⟨b, off + k, none⟩ = some (.int .u8 (c : Int)) := by
              rw [hb1.cell (p := ⟨b, off + k, none⟩) (cell_block hcell)]; exact hcell
            clear hc0 hcell
            go_wp2_with fail
            go_quiet (first
              | (go_at_call 15; exact quiet_left (num_any _ _))
              | (go_at_call 19; exact quiet_left (refInv_any _ _ (by omega) (by omega)))
              | (go_at_call 11; exact quiet_left (refMul_any _ _ _ (by omega) (by omega) (by omega) (by omega)))
              | (go_at_call 22; exact quiet_left (refLog_any _ _ (by omega) (by omega))))
            go_wp2_with fail
            go_roundw
            case rel => exact ⟨x + 1, by go_num, by omega, below_drewN hb2 _⟩
            case measure => simp [intOf]; omega
        · go_wp2_with fail
          go_roundw
          case rel => exact ⟨k + 1, by go_num, by omega, hwr⟩
          case measure => simp [intOf]; omega
    · go_wp2_with (go_at_call 13; refine (wakes_any _).mono ?_; rintro e w' ⟨rfl, rfl⟩)
      all_goals
        go_ret
        exact ⟨rfl, hbel.trans (hwo.mono hbel.size)⟩
end Go.Proofs.Ytjnalbhfinejgaa
