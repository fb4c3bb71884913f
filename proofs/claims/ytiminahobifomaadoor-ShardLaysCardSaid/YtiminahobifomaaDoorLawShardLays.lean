/- Whatever comes in, ShardLays answers true and changes nothing that was there. No condition. -/
import Derived.Test.YtiminahobifomaaDoorWShardLays
import Derived.Test.YtiminahobifomaaDoorTied
namespace Go.Proofs.YtiminahobifomaaDoor
open Go.ChangeShapes Go.WideShapes Go.ChangeAt Go.RowKit Go.Joins
set_option linter.unusedVariables false
set_option linter.unusedSimpArgs false

set_option maxRecDepth 100000 in
theorem shardLays_lifted (os : Os) (started : os.Started) (H : Type) (enc : TypeId × Value → H) :
    ReturnsInHanded {} Tryd.checked os 4 .any (fun w args => (Rows.shardLaysSpec.pre enc Tryd.prog Tryd.f4 Rows.shardLaysRow.domain false w args ∧ laidMetH Tryd.prog Rows.shardLaysRow.laid w) ∧ sizedMet enc Tryd.prog Tryd.f4 (OpenSpec.ofChange Rows.shardLaysSpec) false w args)
      (Rows.shardLaysSpec.post enc Tryd.prog Tryd.f4 false true false false) := by
  refine tiedReturns (C := Tryd.checked) (X := fun w _ => laidMetH Tryd.prog Rows.shardLaysRow.laid w) ownKnobA started (by kernel_rfl) Tryd.func4
    (ChangeSpec.witness_shaped (enc := enc) (C := Tryd.checked) (os := os) (X := fun w _ => laidMetH Tryd.prog Rows.shardLaysRow.laid w) false (World.laidAll Tryd.prog os Rows.shardLaysRow.laid) #[.agg #[.slice none 0 0, .slice none 0 0]] 8 (World.laidAll_os _ _ _)
      (World.shaped_of_ZipB (by kernel_rfl) (by kernel_rfl)) (by kernel_rfl) (by kernel_rfl) (by kernel_rfl)
      (by rw [MakeChecks.laidMetH_plain _ _ _ (by kernel_rfl)]; exact laidMet_laidAll _ (by kernel_rfl) (by kernel_rfl))) ?_
  intro W base args ds gs before hval0 hW hsz hsh
  have hval : ∀ (j : Nat) t v, Tryd.f4.params[j]? = some t → args[j]? = some v → Value.okWide Tryd.prog W .any base t v := hval0
  have hW' := hW
  obtain ⟨p, q, hA0, hV, rfl, hfz, hnd⟩ := hW
  have hA : DataW.TrodAll enc Tryd.prog W 0 (fun _ => true) true Tryd.f4.params.toList args.toList ds p := hA0
  rw [Tryd.params4] at hA hval
  obtain ⟨v0, d0, rfl, rfl, h0⟩ := trodAll_one hA
  obtain ⟨rfl, rfl⟩ := trodVars_none hV
  simp only [List.append_nil] at hW'
  obtain ⟨vS, vL, S, ss, rfl, hS, hL⟩ := ask12_open (hval 0 25 v0 rfl rfl) h0 (fits_one hsz)
  refine (shardLays_walk W vS vL S ss hS hL).mono fun e W' ⟨he, hb⟩ => ?_
  subst he
  exact ⟨_, rfl, lawPost laidOutA (by kernel_rfl) (by decide +kernel) Tryd.params4 (by kernel_rfl) Tryd.underlying4 rfl rfl hW' h0 hb⟩

theorem shardLays_row : Rows.ShardLaysSaid :=
  OpenClaim.holds_of_wide 4 Tryd.f4 rfl rfl rfl rfl rfl rfl rfl ⟨rfl, rfl, rfl, rfl, rfl⟩ rfl rfl rfl rfl rfl (by kernel_rfl) Tryd.func4 (by kernel_rfl)
    (of_decide_eq_true (by kernel_rfl)) (by unfold Func.isWrapper; first | (rw [if_neg (of_decide_eq_false (by kernel_rfl))]; exact ⟨rfl, rfl⟩) | (rw [if_pos (by decide +kernel)]; kernel_rfl))
    (fun os started H enc _ => shardLays_lifted os started H enc)

theorem shardLays_holds : Rows.ShardLaysCardSaid :=
  Claim7.holds_tied_plain_at .later [] Rows.shardLaysCard.laidKinds true Rows.shardLaysCard.stood.harness false shardLays_row (fun _ h => by cases h) (by kernel_rfl) (fun _ h => by cases h) shardLays_row_tie rfl ⟨rfl, rfl⟩ (by kernel_rfl) rfl
    (fun f fn hf hfn => by
      obtain rfl : f = 4 := Option.some.inj ((show Tryd.prog.funcNamed "silo/silolaw12.ShardLays" = some 4 by kernel_rfl).symm.trans hf) |>.symm
      obtain rfl : fn = Tryd.f4 := (Option.some.inj (Tryd.func4.symm.trans hfn)).symm
      exact ⟨by kernel_rfl, fun j t ht => by
        rw [Tryd.params4] at ht
        have hm : t ∈ [25] := by simpa using Array.mem_of_getElem? ht
        have hall : ([25].all fun u => !Tryd.prog.wantsStandIn u) = true := by kernel_rfl
        exact (show Tryd.prog.wantsStandIn t = false by simpa using List.all_eq_true.1 hall t hm)⟩)
    (by kernel_rfl)
end Go.Proofs.YtiminahobifomaaDoor
