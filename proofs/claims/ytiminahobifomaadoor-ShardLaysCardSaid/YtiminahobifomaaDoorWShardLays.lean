/- ShardLays, walked. -/
import Derived.Test.YtiminahobifomaaDoorShR
import Derived.Test.YtiminahobifomaaDoorStrs
import Derived.BigQuiet
import Derived.BigRegion
import Derived.StillTailTactics
namespace Go.Proofs.YtiminahobifomaaDoor
open Go.ChangeShapes Go.WideShapes Go.ChangeAt Go.RowKit Go.Joins Go.Shelf
set_option linter.unusedVariables false
set_option linter.unusedSimpArgs false

theorem lit_belowS {W V : World} {b : Nat} {x : Value} (h : ∀ j u, [x][j]? = some u → W.cell? ((⟨b, 0, none⟩ : Addr).add j) = some u) (hb : Below W.heap.size W V) (hlt : b < W.heap.size) :
    ∀ j u, [x][j]? = some u → V.cell? ((⟨b, 0, none⟩ : Addr).add j) = some u := by
  intro j u hu
  cases j with
  | zero => rw [hb.cell (p := (⟨b, 0, none⟩ : Addr).add 0) (by simp [Addr.add]; exact hlt)]; exact h 0 u hu
  | succ j => simp at hu
def z64 : List Nat := List.replicate 64 0
theorem z64_len : z64.length = 64 := by simp [z64]
theorem hmk_64 : ∀ w, (Instr.makeSlice 37 (.int .i64 64) (.int .i64 64)).run Tryd.prog w = .ok (.slice (some ⟨w.heap.size, 0, none⟩) 64 64) (w.alloc (.cells (cellsOf8 z64) 5)) := hmk8 (n := 64) (by omega)

set_option maxRecDepth 100000 in
set_option maxHeartbeats 8000000 in
theorem shardLays_walk (w : World) (vS vL : Value) (S : List S4) (ss : List ByteArray) (hS : ShardsIn w vS S) (hL : TextsIn w vL ss) :
    Calls Tryd.prog 4 #[.agg #[vS, vL]] w fun e w' => e = .returned (.bool true) ∧ Below w.heap.size w w' := by
  obtain ⟨j0, hj, hy0, hy1, hy2⟩ := info_parts infoStr6
  obtain ⟨hbe, a0, a1, _⟩ := box2_facts w vS vL 25
  have hltb : w.heap.size < (w.alloc (.cells #[vS, vL] 25)).heap.size := by simp
  have HBE := Lib.hid hbe
  have HS := Lib.hid (hS.below hbe)
  have HT := Lib.hid (textsIn_below12 hL hbe)
  have HSS0 := Lib.hid (HT.out.row)
  have HX : Hid (∀ W', Below (w.alloc (.cells #[vS, vL] 25)).heap.size (w.alloc (.cells #[vS, vL] 25)) W' → W'.cell? ⟨w.heap.size, 0, none⟩ = some vS ∧ W'.cell? ⟨w.heap.size, 1, none⟩ = some vL) := fun W' hW =>
    ⟨(hW.cell (p := ⟨w.heap.size, 0, none⟩) hltb).trans a0, (hW.cell (p := ⟨w.heap.size, 1, none⟩) hltb).trans a1⟩
  obtain ⟨A0, c0, rfl, hll, _⟩ := hS
  obtain ⟨pL, kL, rfl, _⟩ := hL
  clear hbe hltb
  go_enter Tryd.func4, Tryd.ntmps4
  go_wp2_with fail
  clear a0 a1
  generalize w.alloc (.cells #[.slice A0 S.length c0, .slice pL ss.length kL] 25) = W0 at *
  refine (heavy12_any (.slice A0 S.length c0) (.slice pL ss.length kL) S ss W0 HS.out HT.out).mono ?_
  rintro e w1 ⟨hv, rfl, hfew, hb1⟩
  cases hv with
  | true =>
    have HBF := Lib.hid (HBE.out.trans (hb1.mono HBE.out.size))
    clear hb1 hfew
    go_wp2_with fail
    go_ret
    exact ⟨rfl, HBF.out⟩
  | false =>
    have HB1 := Lib.hid hb1
    have htot := hfew rfl
    have hjt := join_total ss
    have HSN : Hid (ss.length ≤ 6000) := by rw [Hid]; omega
    have HSJ : Hid ((joinB ss).length ≤ 10000000) := by rw [Hid]; omega
    clear hb1 hfew htot hjt
    go_wp2_with fail
    go_loopw [3] (fun iv wr => ∃ i : Nat, iv = .int .i64 (i : Int) ∧ i ≤ 6 ∧ Hid (Below W0.heap.size W0 wr)) (fun iv _ => 6 - (intOf iv).toNat)
    case atStart => exact ⟨0, rfl, by omega, HB1⟩
    case round =>
      clear HB1
      obtain ⟨i, rfl, hi2, HWR⟩ := hrel
      have HSS := Lib.hid (HSS0.out.below HWR.out)
      by_cases hgo : i < S.length ∧ i < 6
      · obtain ⟨hlt, hi⟩ := hgo
        obtain ⟨_, _, e, _, hs⟩ := HS.out
        cases e
        obtain ⟨bb, oo, rfl, hbb, hsh, _⟩ := hs i hlt
        obtain ⟨⟨st, ix, gn, tx⟩, hq⟩ : ∃ q : S4, q = S.getD i Go.Proofs.YtiminahobifomaaDoor.s0 := ⟨_, rfl⟩
        rw [← hq] at hsh
        have HLD : Hid (∀ W', Below wr.heap.size wr W' → W'.cell? ⟨w.heap.size, 0, none⟩ = some (.slice (some ⟨bb, oo, none⟩) S.length c0) ∧ W'.cell? ⟨w.heap.size, 1, none⟩ = some (.slice pL ss.length kL) ∧ W'.cell? ⟨bb, oo + i * 4, none⟩ = some (.int .i64 st) ∧ W'.cell? ⟨bb, oo + i * 4 + 1, none⟩ = some (.int .i64 ix) ∧ W'.cell? ⟨bb, oo + i * 4 + 2, none⟩ = some (.int .i64 gn) ∧ W'.cell? ⟨bb, oo + i * 4 + 3, none⟩ = some (.string tx)) := fun W' hW => by
          obtain ⟨p0, p1⟩ := HX.out W' (HWR.out.trans (hW.mono HWR.out.size))
          obtain ⟨s0, s1, s2, s3⟩ := hsh.below hbb (HWR.out.trans (hW.mono HWR.out.size))
          exact ⟨p0, p1, s0, s1, s2, s3⟩
        have d1 : decide ((i : Int) < (S.length : Int)) = true := decide_eq_true (by omega)
        have d2 : decide ((i : Int) < 6) = true := decide_eq_true (by omega)
        have i0 : (0 : Int) ≤ (i : Int) := by omega
        have i1 : (i : Int) < (S.length : Int) := by omega
        have wi : IntKind.i64.wrap ((i : Int) + 1) = (i : Int) + 1 := IntWalk.i64_in _ (by omega)
        clear hs hsh hq hbb
        obtain ⟨p0, p1, s0, s1, s2, s3⟩ := HLD.out wr (Below.refl _ _)
        obtain ⟨mb, hmb⟩ : ∃ q, shardB st ix gn tx = q := ⟨_, rfl⟩
        go_wp2_with fail
        clear d1 d2 p0 p1 s0 s1 s2 s3
        cases mb with
        | false =>
          refine (sectors_no st ix gn tx hmb wr).mono ?_
          rintro e w3 ⟨rfl, hb3⟩
          obtain ⟨p0, p1, s0, s1, s2, s3⟩ := HLD.out w3 hb3
          have HC3 := Lib.hid hb3
          clear hb3
          go_wp2_with fail
          clear p0 p1 s0 s1 s2 s3
          refine (refShard_any st ix gn tx false hmb w3).mono ?_
          rintro e w5 ⟨rfl, hb5⟩
          have HC5 := Lib.hid (HC3.out.trans (hb5.mono HC3.out.size))
          clear hb5 hmb
          have HLD5 : Hid (∀ W', Below w5.heap.size w5 W' → W'.cell? ⟨w.heap.size, 0, none⟩ = some (.slice (some ⟨bb, oo, none⟩) S.length c0) ∧ W'.cell? ⟨w.heap.size, 1, none⟩ = some (.slice pL ss.length kL) ∧ W'.cell? ⟨bb, oo + i * 4, none⟩ = some (.int .i64 st) ∧ W'.cell? ⟨bb, oo + i * 4 + 1, none⟩ = some (.int .i64 ix) ∧ W'.cell? ⟨bb, oo + i * 4 + 2, none⟩ = some (.int .i64 gn) ∧ W'.cell? ⟨bb, oo + i * 4 + 3, none⟩ = some (.string tx)) := fun W' hW => HLD.out W' (HC5.out.trans (hW.mono HC5.out.size))
          have HSS5 := Lib.hid (HSS.out.below HC5.out)
          have HSL5 : Hid (Strs6 w5 (.slice none 0 0) []) := RowIs.nil _ _ _ _
          have HSW5 := HSL5
          have HLN9 : Hid (([] : List ByteArray).length ≤ 9000000000000000000) := by simp [Hid]
          have HLN6 : Hid (([] : List ByteArray).length ≤ 6000) := by simp [Hid]
          have HLJ : Hid ((joinB []).length ≤ 10000000) := by rw [Hid, joinB_nil]; simp
          go_upto_region 11 with fail
          refine wp_region_held (S := fun W' => Below w5.heap.size w5 W') (by kernel_rfl) ?_
          change wpAnyH _ _ _ _ _ 31 _ _ w5.drew
          have hcum := (Below.refl w5.heap.size w5).drew
          generalize w5.drew = V0 at *
          refine wpAnyH_take (i := 0) (oi := { dst := some 50, op := Op.move (Operand.tmp 5), type := 29, pos := "law.go:73", after := #[], guard := none }) (v := ?_) rfl (by kernel_rfl) (by kernel_rfl) (by kernel_rfl) (fun _ _ _ h => h) (Or.inl ⟨by rfl, fun W' hW' => ?_⟩) hcum ?_
          rotate_left 1
          · go_simp
            try rfl
          try simp only [Act.put, List.setIfInBounds_toArray, List.set_cons_zero, List.set_cons_succ]
          refine wpAnyH_take (i := 2) (oi := { dst := some 52, op := Op.move (Operand.tmp 6), type := 3, pos := "law.go:73", after := #[], guard := none }) (v := ?_) rfl (by kernel_rfl) (by kernel_rfl) (by kernel_rfl) (fun _ _ _ h => h) (Or.inl ⟨by rfl, fun W' hW' => ?_⟩) hcum ?_
          rotate_left 1
          · go_simp
            try rfl
          try simp only [Act.put, List.setIfInBounds_toArray, List.set_cons_zero, List.set_cons_succ]
          refine wpAnyH_ready (rs := [1]) (by kernel_rfl) (by simp) ?_
          refine AllReadyH.cons (o := { dst := some 51, op := Op.call { callee := Callee.value (Operand.func 7), args := #[Operand.tmp 50], argTypes := #[29] }, type := 3, pos := "law.go:73", after := #[{ on := 0, ground := Ground.data }], guard := none }) rfl (fun KK hK => ?_) AllReadyH.nil
          rw [if_pos (by rfl)]
          go_simp
          refine (num12_any _ V0).mono ?_
          rintro e V1 ⟨rfl, hVW⟩
          replace hVW := hVW.symm
          subst hVW
          have hbe := Below.refl V1.heap.size V1
          have hcum := hcum.trans (hbe.mono hcum.size)
          refine hK.out _ _ hcum (fun _ => ?_)
          clear hK hbe
          try simp only [Act.put, List.setIfInBounds_toArray, List.set_cons_zero, List.set_cons_succ]
          refine wpAnyH_take (i := 3) (oi := { dst := some 53, op := Op.binOp BinOp.neq 3 (Operand.tmp 51) (Operand.tmp 52) 3, type := 4, pos := "law.go:73", after := #[{ on := 1, ground := Ground.data }, { on := 2, ground := Ground.data }], guard := none }) (v := ?_) rfl (by kernel_rfl) (by kernel_rfl) (by kernel_rfl) (fun _ _ _ h => h) (Or.inl ⟨by rfl, fun W' hW' => ?_⟩) hcum ?_
          rotate_left 1
          · go_simp
            try rfl
          try simp only [Act.put, List.setIfInBounds_toArray, List.set_cons_zero, List.set_cons_succ]
          refine wpAnyH_take (i := 4) (oi := { dst := some 54, op := Op.move (Operand.tmp 53), type := 4, pos := "law.go:73", after := #[{ on := 3, ground := Ground.data }, { on := 1, ground := Ground.chain }], guard := none }) (v := ?_) rfl (by kernel_rfl) (by kernel_rfl) (by kernel_rfl) (fun _ _ _ h => h) (Or.inl ⟨by rfl, fun W' hW' => ?_⟩) hcum ?_
          rotate_left 1
          · go_simp
            try rfl
          try simp only [Act.put, List.setIfInBounds_toArray, List.set_cons_zero, List.set_cons_succ]
          refine wpAnyH_take (i := 5) (oi := { dst := some 55, op := Op.move (Operand.tmp 4), type := 23, pos := "law.go:73", after := #[{ on := 4, ground := Ground.guard }], guard := some (4, false) }) (v := ?_) rfl (by kernel_rfl) (by kernel_rfl) (by kernel_rfl) (fun _ _ _ h => h) (Or.inl ⟨by rfl, fun W' hW' => ?_⟩) hcum ?_
          rotate_left 1
          · go_simp
            try rfl
          try simp only [Act.put, List.setIfInBounds_toArray, List.set_cons_zero, List.set_cons_succ]
          refine wpAnyH_take (i := 6) (oi := { dst := some 56, op := Op.move (Operand.tmp 7), type := 23, pos := "law.go:73", after := #[{ on := 4, ground := Ground.guard }], guard := some (4, false) }) (v := ?_) rfl (by kernel_rfl) (by kernel_rfl) (by kernel_rfl) (fun _ _ _ h => h) (Or.inl ⟨by rfl, fun W' hW' => ?_⟩) hcum ?_
          rotate_left 1
          · go_simp
            try rfl
          try simp only [Act.put, List.setIfInBounds_toArray, List.set_cons_zero, List.set_cons_succ]
          refine wpAnyH_ready (rs := [7]) (by kernel_rfl) (by simp) ?_
          refine AllReadyH.cons (o := { dst := some 57, op := Op.call { callee := Callee.value (Operand.func 14), args := #[Operand.tmp 55, Operand.tmp 56], argTypes := #[23, 23] }, type := 4, pos := "law.go:73", after := #[{ on := 5, ground := Ground.data }, { on := 6, ground := Ground.data }, { on := 4, ground := Ground.chain }, { on := 4, ground := Ground.guard }], guard := some (4, false) }) rfl (fun KK hK => ?_) AllReadyH.nil
          rw [if_pos (by rfl)]
          go_simp
          have hEQ := eqStrs6_dec (.slice none 0 0) (.slice none 0 0) ([] : List ByteArray) ([] : List ByteArray) V1 (HSL5.out.below hcum) (HSW5.out.below hcum) HLN9.out HLN9.out
          rw [decide_eq_true (rfl : ([] : List ByteArray) = ([] : List ByteArray))] at hEQ
          refine hEQ.mono ?_
          clear hEQ
          rintro e V2 ⟨rfl, hbe⟩
          have hcum := hcum.trans (hbe.mono hcum.size)
          refine hK.out _ _ hcum (fun _ => ?_)
          clear hK hbe
          try simp only [Act.put, List.setIfInBounds_toArray, List.set_cons_zero, List.set_cons_succ]
          refine wpAnyH_take (i := 8) (oi := { dst := some 58, op := Op.unOp UnOp.not 4 (Operand.tmp 57), type := 4, pos := "law.go:73", after := #[{ on := 7, ground := Ground.data }, { on := 4, ground := Ground.guard }], guard := some (4, false) }) (v := ?_) rfl (by kernel_rfl) (by kernel_rfl) (by kernel_rfl) (fun _ _ _ h => h) (Or.inl ⟨by rfl, fun W' hW' => ?_⟩) hcum ?_
          rotate_left 1
          · go_simp
            try rfl
          try simp only [Act.put, List.setIfInBounds_toArray, List.set_cons_zero, List.set_cons_succ]
          refine wpAnyH_take (i := 9) (oi := { dst := some 59, op := Op.pick (Operand.tmp 54) (Operand.const (Value.bool true)) (Operand.tmp 58), type := 4, pos := "law.go:73", after := #[{ on := 4, ground := Ground.data }, { on := 8, ground := Ground.data }], guard := none }) (v := ?_) rfl (by kernel_rfl) (by kernel_rfl) (by kernel_rfl) (fun _ _ _ h => h) (Or.inl ⟨by rfl, fun W' hW' => ?_⟩) hcum ?_
          rotate_left 1
          · go_simp
            try rfl
          try simp only [Act.put, List.setIfInBounds_toArray, List.set_cons_zero, List.set_cons_succ]
          refine wpAnyH_take (i := 10) (oi := { dst := some 60, op := Op.move (Operand.tmp 59), type := 4, pos := "law.go:73", after := #[{ on := 9, ground := Ground.data }, { on := 7, ground := Ground.chain }], guard := none }) (v := ?_) rfl (by kernel_rfl) (by kernel_rfl) (by kernel_rfl) (fun _ _ _ h => h) (Or.inl ⟨by rfl, fun W' hW' => ?_⟩) hcum ?_
          rotate_left 1
          · go_simp
            try rfl
          try simp only [Act.put, List.setIfInBounds_toArray, List.set_cons_zero, List.set_cons_succ]
          refine wpAnyH_take (i := 11) (oi := { dst := some 61, op := Op.move (Operand.tmp 7), type := 23, pos := "law.go:73", after := #[{ on := 10, ground := Ground.guard }], guard := some (10, false) }) (v := ?_) rfl (by kernel_rfl) (by kernel_rfl) (by kernel_rfl) (fun _ _ _ h => h) (Or.inl ⟨by rfl, fun W' hW' => ?_⟩) hcum ?_
          rotate_left 1
          · go_simp
            try rfl
          try simp only [Act.put, List.setIfInBounds_toArray, List.set_cons_zero, List.set_cons_succ]
          refine wpAnyH_take (i := 12) (oi := { dst := some 62, op := Op.fieldAddr 25 (Operand.tmp 1) 0, type := 0, pos := "law.go:73", after := #[{ on := 10, ground := Ground.guard }], guard := some (10, false) }) (v := ?_) rfl (by kernel_rfl) (by kernel_rfl) (by kernel_rfl) (fun _ _ _ h => h) (Or.inl ⟨by rfl, fun W' hW' => ?_⟩) hcum ?_
          rotate_left 1
          · go_simp
            try rfl
          try simp only [Act.put, List.setIfInBounds_toArray, List.set_cons_zero, List.set_cons_succ]
          refine wpAnyH_take (i := 13) (oi := { dst := some 63, op := Op.load 22 (Operand.tmp 62), type := 22, pos := "law.go:73", after := #[{ on := 12, ground := Ground.data }, { on := 10, ground := Ground.guard }], guard := some (10, false) }) (v := ?_) rfl (by kernel_rfl) (by kernel_rfl) (by kernel_rfl) (fun _ _ _ h => h) (Or.inl ⟨by rfl, fun W' hW' => ?_⟩) hcum ?_
          rotate_left 1
          · (obtain ⟨p0, p1, s0, s1, s2, s3⟩ := HLD5.out _ hW'; go_simp)
            try rfl
          try simp only [Act.put, List.setIfInBounds_toArray, List.set_cons_zero, List.set_cons_succ]
          refine wpAnyH_take (i := 14) (oi := { dst := some 64, op := Op.move (Operand.tmp 3), type := 3, pos := "law.go:73", after := #[{ on := 10, ground := Ground.guard }], guard := some (10, false) }) (v := ?_) rfl (by kernel_rfl) (by kernel_rfl) (by kernel_rfl) (fun _ _ _ h => h) (Or.inl ⟨by rfl, fun W' hW' => ?_⟩) hcum ?_
          rotate_left 1
          · go_simp
            try rfl
          try simp only [Act.put, List.setIfInBounds_toArray, List.set_cons_zero, List.set_cons_succ]
          refine wpAnyH_take (i := 15) (oi := { dst := some 65, op := Op.indexAddr 22 (Operand.tmp 63) (Operand.tmp 64), type := 0, pos := "law.go:73", after := #[{ on := 13, ground := Ground.data }, { on := 14, ground := Ground.data }, { on := 10, ground := Ground.guard }], guard := some (10, false) }) (v := ?_) rfl (by kernel_rfl) (by kernel_rfl) (by kernel_rfl) (fun _ _ _ h => h) (Or.inl ⟨by rfl, fun W' hW' => ?_⟩) hcum ?_
          rotate_left 1
          · go_simp
            try rfl
          try simp only [Act.put, List.setIfInBounds_toArray, List.set_cons_zero, List.set_cons_succ]
          refine wpAnyH_take (i := 16) (oi := { dst := some 66, op := Op.load 28 (Operand.tmp 65), type := 28, pos := "law.go:73", after := #[{ on := 15, ground := Ground.data }, { on := 10, ground := Ground.guard }], guard := some (10, false) }) (v := ?_) rfl (by kernel_rfl) (by kernel_rfl) (by kernel_rfl) (fun _ _ _ h => h) (Or.inl ⟨by rfl, fun W' hW' => ?_⟩) hcum ?_
          rotate_left 1
          · (obtain ⟨p0, p1, s0, s1, s2, s3⟩ := HLD5.out _ hW'; go_simp)
            try rfl
          try simp only [Act.put, List.setIfInBounds_toArray, List.set_cons_zero, List.set_cons_succ]
          refine wpAnyH_ready (rs := [17]) (by kernel_rfl) (by simp) ?_
          refine AllReadyH.cons (o := { dst := some 67, op := Op.call { callee := Callee.value (Operand.func 15), args := #[Operand.tmp 61, Operand.tmp 66], argTypes := #[23, 28] }, type := 4, pos := "law.go:73", after := #[{ on := 11, ground := Ground.data }, { on := 16, ground := Ground.data }, { on := 10, ground := Ground.chain }, { on := 10, ground := Ground.guard }], guard := some (10, false) }) rfl (fun KK hK => ?_) AllReadyH.nil
          rw [if_pos (by rfl)]
          go_simp
          refine (taken_any (.slice none 0 0) ([] : List ByteArray) st ix gn tx V2 (HSW5.out.below hcum) HLN6.out HLJ.out).mono ?_
          rintro e V3 ⟨rfl, hbe⟩
          have hcum := hcum.trans (hbe.mono hcum.size)
          refine hK.out _ _ hcum (fun _ => ?_)
          clear hK hbe
          try simp only [Act.put, List.setIfInBounds_toArray, List.set_cons_zero, List.set_cons_succ]
          refine wpAnyH_take (i := 18) (oi := { dst := some 68, op := Op.unOp UnOp.not 4 (Operand.tmp 67), type := 4, pos := "law.go:73", after := #[{ on := 17, ground := Ground.data }, { on := 10, ground := Ground.guard }], guard := some (10, false) }) (v := ?_) rfl (by kernel_rfl) (by kernel_rfl) (by kernel_rfl) (fun _ _ _ h => h) (Or.inl ⟨by rfl, fun W' hW' => ?_⟩) hcum ?_
          rotate_left 1
          · go_simp
            try rfl
          try simp only [Act.put, List.setIfInBounds_toArray, List.set_cons_zero, List.set_cons_succ]
          refine wpAnyH_take (i := 19) (oi := { dst := some 69, op := Op.pick (Operand.tmp 60) (Operand.const (Value.bool true)) (Operand.tmp 68), type := 4, pos := "law.go:73", after := #[{ on := 10, ground := Ground.data }, { on := 18, ground := Ground.data }], guard := none }) (v := ?_) rfl (by kernel_rfl) (by kernel_rfl) (by kernel_rfl) (fun _ _ _ h => h) (Or.inl ⟨by rfl, fun W' hW' => ?_⟩) hcum ?_
          rotate_left 1
          · go_simp
            try rfl
          try simp only [Act.put, List.setIfInBounds_toArray, List.set_cons_zero, List.set_cons_succ]
          refine wpAnyH_take (i := 20) (oi := { dst := some 70, op := Op.move (Operand.tmp 69), type := 4, pos := "law.go:73", after := #[{ on := 19, ground := Ground.data }, { on := 17, ground := Ground.chain }], guard := none }) (v := ?_) rfl (by kernel_rfl) (by kernel_rfl) (by kernel_rfl) (fun _ _ _ h => h) (Or.inl ⟨by rfl, fun W' hW' => ?_⟩) hcum ?_
          rotate_left 1
          · go_simp
            try rfl
          try simp only [Act.put, List.setIfInBounds_toArray, List.set_cons_zero, List.set_cons_succ]
          refine wpAnyH_take (i := 21) (oi := { dst := some 71, op := Op.fieldAddr 25 (Operand.tmp 1) 1, type := 0, pos := "law.go:73", after := #[{ on := 20, ground := Ground.guard }], guard := some (20, false) }) (v := ?_) rfl (by kernel_rfl) (by kernel_rfl) (by kernel_rfl) (fun _ _ _ h => h) (Or.inl ⟨by rfl, fun W' hW' => ?_⟩) hcum ?_
          rotate_left 1
          · go_simp
            try rfl
          try simp only [Act.put, List.setIfInBounds_toArray, List.set_cons_zero, List.set_cons_succ]
          refine wpAnyH_take (i := 22) (oi := { dst := some 72, op := Op.load 23 (Operand.tmp 71), type := 23, pos := "law.go:73", after := #[{ on := 21, ground := Ground.data }, { on := 20, ground := Ground.guard }], guard := some (20, false) }) (v := ?_) rfl (by kernel_rfl) (by kernel_rfl) (by kernel_rfl) (fun _ _ _ h => h) (Or.inl ⟨by rfl, fun W' hW' => ?_⟩) hcum ?_
          rotate_left 1
          · (obtain ⟨p0, p1, s0, s1, s2, s3⟩ := HLD5.out _ hW'; go_simp)
            try rfl
          try simp only [Act.put, List.setIfInBounds_toArray, List.set_cons_zero, List.set_cons_succ]
          refine wpAnyH_take (i := 23) (oi := { dst := some 73, op := Op.fieldAddr 25 (Operand.tmp 1) 0, type := 0, pos := "law.go:73", after := #[{ on := 20, ground := Ground.guard }], guard := some (20, false) }) (v := ?_) rfl (by kernel_rfl) (by kernel_rfl) (by kernel_rfl) (fun _ _ _ h => h) (Or.inl ⟨by rfl, fun W' hW' => ?_⟩) hcum ?_
          rotate_left 1
          · go_simp
            try rfl
          try simp only [Act.put, List.setIfInBounds_toArray, List.set_cons_zero, List.set_cons_succ]
          refine wpAnyH_take (i := 24) (oi := { dst := some 74, op := Op.load 22 (Operand.tmp 73), type := 22, pos := "law.go:73", after := #[{ on := 23, ground := Ground.data }, { on := 20, ground := Ground.guard }], guard := some (20, false) }) (v := ?_) rfl (by kernel_rfl) (by kernel_rfl) (by kernel_rfl) (fun _ _ _ h => h) (Or.inl ⟨by rfl, fun W' hW' => ?_⟩) hcum ?_
          rotate_left 1
          · (obtain ⟨p0, p1, s0, s1, s2, s3⟩ := HLD5.out _ hW'; go_simp)
            try rfl
          try simp only [Act.put, List.setIfInBounds_toArray, List.set_cons_zero, List.set_cons_succ]
          refine wpAnyH_take (i := 25) (oi := { dst := some 75, op := Op.move (Operand.tmp 3), type := 3, pos := "law.go:73", after := #[{ on := 20, ground := Ground.guard }], guard := some (20, false) }) (v := ?_) rfl (by kernel_rfl) (by kernel_rfl) (by kernel_rfl) (fun _ _ _ h => h) (Or.inl ⟨by rfl, fun W' hW' => ?_⟩) hcum ?_
          rotate_left 1
          · go_simp
            try rfl
          try simp only [Act.put, List.setIfInBounds_toArray, List.set_cons_zero, List.set_cons_succ]
          refine wpAnyH_take (i := 26) (oi := { dst := some 76, op := Op.indexAddr 22 (Operand.tmp 74) (Operand.tmp 75), type := 0, pos := "law.go:73", after := #[{ on := 24, ground := Ground.data }, { on := 25, ground := Ground.data }, { on := 20, ground := Ground.guard }], guard := some (20, false) }) (v := ?_) rfl (by kernel_rfl) (by kernel_rfl) (by kernel_rfl) (fun _ _ _ h => h) (Or.inl ⟨by rfl, fun W' hW' => ?_⟩) hcum ?_
          rotate_left 1
          · go_simp
            try rfl
          try simp only [Act.put, List.setIfInBounds_toArray, List.set_cons_zero, List.set_cons_succ]
          refine wpAnyH_take (i := 27) (oi := { dst := some 77, op := Op.load 28 (Operand.tmp 76), type := 28, pos := "law.go:73", after := #[{ on := 26, ground := Ground.data }, { on := 20, ground := Ground.guard }], guard := some (20, false) }) (v := ?_) rfl (by kernel_rfl) (by kernel_rfl) (by kernel_rfl) (fun _ _ _ h => h) (Or.inl ⟨by rfl, fun W' hW' => ?_⟩) hcum ?_
          rotate_left 1
          · (obtain ⟨p0, p1, s0, s1, s2, s3⟩ := HLD5.out _ hW'; go_simp)
            try rfl
          try simp only [Act.put, List.setIfInBounds_toArray, List.set_cons_zero, List.set_cons_succ]
          refine wpAnyH_ready (rs := [28]) (by kernel_rfl) (by simp) ?_
          refine AllReadyH.cons (o := { dst := some 78, op := Op.call { callee := Callee.value (Operand.func 15), args := #[Operand.tmp 72, Operand.tmp 77], argTypes := #[23, 28] }, type := 4, pos := "law.go:73", after := #[{ on := 22, ground := Ground.data }, { on := 27, ground := Ground.data }, { on := 20, ground := Ground.chain }, { on := 20, ground := Ground.guard }], guard := some (20, false) }) rfl (fun KK hK => ?_) AllReadyH.nil
          rw [if_pos (by rfl)]
          go_simp
          refine (taken_any (.slice pL ss.length kL) ss st ix gn tx V3 (HSS5.out.below hcum) HSN.out HSJ.out).mono ?_
          rintro e V4 ⟨rfl, hbe⟩
          have hcum := hcum.trans (hbe.mono hcum.size)
          refine hK.out _ _ hcum (fun _ => ?_)
          clear hK hbe
          try simp only [Act.put, List.setIfInBounds_toArray, List.set_cons_zero, List.set_cons_succ]
          refine wpAnyH_take (i := 29) (oi := { dst := some 79, op := Op.unOp UnOp.not 4 (Operand.tmp 78), type := 4, pos := "law.go:73", after := #[{ on := 28, ground := Ground.data }, { on := 20, ground := Ground.guard }], guard := some (20, false) }) (v := ?_) rfl (by kernel_rfl) (by kernel_rfl) (by kernel_rfl) (fun _ _ _ h => h) (Or.inl ⟨by rfl, fun W' hW' => ?_⟩) hcum ?_
          rotate_left 1
          · go_simp
            try rfl
          try simp only [Act.put, List.setIfInBounds_toArray, List.set_cons_zero, List.set_cons_succ]
          refine wpAnyH_take (i := 30) (oi := { dst := some 80, op := Op.pick (Operand.tmp 70) (Operand.const (Value.bool true)) (Operand.tmp 79), type := 4, pos := "law.go:73", after := #[{ on := 20, ground := Ground.data }, { on := 29, ground := Ground.data }], guard := none }) (v := ?_) rfl (by kernel_rfl) (by kernel_rfl) (by kernel_rfl) (fun _ _ _ h => h) (Or.inl ⟨by rfl, fun W' hW' => ?_⟩) hcum ?_
          rotate_left 1
          · go_simp
            try rfl
          try simp only [Act.put, List.setIfInBounds_toArray, List.set_cons_zero, List.set_cons_succ]
          refine wpAnyH_done (by kernel_rfl) ?_ _
          have HWF := Lib.hid (HWR.out.trans ((HC5.out.trans (hcum.mono HC5.out.size)).mono HWR.out.size))
          clear hcum
          go_wp2_with fail
          go_roundw
          case rel => exact ⟨i + 1, by go_num, by omega, HWF⟩
          case measure => simp [intOf]; omega
        | true =>
          have hfac := of_decide_eq_true hmb
          obtain ⟨a, rfl⟩ := Int.eq_ofNat_of_zero_le (a := st) (by omega)
          obtain ⟨b, rfl⟩ := Int.eq_ofNat_of_zero_le (a := ix) (by omega)
          obtain ⟨d, rfl⟩ := Int.eq_ofNat_of_zero_le (a := gn) (by omega)
          clear hfac
          have HMAY : Hid ((⟨a, b, d, tx⟩ : Sh).may = true) := hmb
          refine (sectors_yes a b d tx HMAY.out wr).mono ?_
          rintro e w3 ⟨r, rfl, hown, hb3⟩
          obtain ⟨l, hl⟩ : ∃ l, l = layS ⟨a, b, d, tx⟩ := ⟨_, rfl⟩
          have HLAY : Hid (layS ⟨a, b, d, tx⟩ = l) := hl.symm
          have HSZ : Hid (∀ x ∈ l, x.size = 64) := by rw [hl]; exact lay_size _
          have hl1 : 1 ≤ l.length := by rw [hl, layS_len]; exact secN_pos _
          have hl3 : l.length ≤ 3 := by rw [hl, layS_len]; exact secN_small (Sh.facts HMAY.out).2.2.2.2
          rw [← hl] at hown
          obtain ⟨A, c, rfl⟩ := own_shape hown
          have HSL3 : Hid (Strs6 w3 (.slice A l.length c) l) := RowIs.of_own hown
          obtain ⟨p0, p1, s0, s1, s2, s3⟩ := HLD.out w3 hb3
          have HC3 := Lib.hid hb3
          clear hb3 hown hl
          go_wp2_with fail
          clear p0 p1 s0 s1 s2 s3
          refine (refShard_any (a : Int) (b : Int) (d : Int) tx true hmb w3).mono ?_
          rintro e w4 ⟨rfl, hb4⟩
          have HSL4 := Lib.hid (HSL3.out.below hb4)
          have HC4 := Lib.hid (HC3.out.trans (hb4.mono HC3.out.size))
          clear hb4 hmb
          obtain ⟨p0, p1, s0, s1, s2, s3⟩ := HLD.out w4 HC4.out
          go_wp2_with fail
          clear p0 p1 s0 s1 s2 s3
          refine (layRef_any a b d tx HMAY.out w4).mono ?_
          rintro e w5 ⟨r, rfl, hown, hb5⟩
          rw [HLAY.out] at hown
          have HOW5 : Hid (OwnS w5 r l) := ⟨_, hown⟩
          obtain ⟨Aw, cw, rfl⟩ := own_shape hown
          obtain ⟨gw, rfl, hgw, hcw, hcs⟩ := HOW5.out.at_ hl1
          obtain ⟨sf, hsf⟩ : ∃ sf, l[0]? = some sf := ⟨l[0], List.getElem?_eq_getElem hl1⟩
          have hcw0 := hcs 0 sf hsf
          have HSF : Hid (sf ∈ l) := List.mem_of_getElem? hsf
          have HC5 := Lib.hid (HC4.out.trans (hb5.mono HC4.out.size))
          have HSL5 := Lib.hid (HSL4.out.below hb5)
          have HSW5 := Lib.hid HOW5.out.strs
          have HCW0 := Lib.hid hcw0
          have HGW := Lib.hid hgw
          have HLN9 : Hid (l.length ≤ 9000000000000000000) := by rw [Hid]; omega
          have HLN6 : Hid (l.length ≤ 6000) := by rw [Hid]; omega
          have HLJ : Hid ((joinB l).length ≤ 10000000) := by rw [Hid, joinB_len HSZ.out]; omega
          clear hb5 hown hcs hsf hcw0 hgw
          have HLD5 : Hid (∀ W', Below w5.heap.size w5 W' → W'.cell? ⟨w.heap.size, 0, none⟩ = some (.slice (some ⟨bb, oo, none⟩) S.length c0) ∧ W'.cell? ⟨w.heap.size, 1, none⟩ = some (.slice pL ss.length kL) ∧ W'.cell? ⟨bb, oo + i * 4, none⟩ = some (.int .i64 (a : Int)) ∧ W'.cell? ⟨bb, oo + i * 4 + 1, none⟩ = some (.int .i64 (b : Int)) ∧ W'.cell? ⟨bb, oo + i * 4 + 2, none⟩ = some (.int .i64 (d : Int)) ∧ W'.cell? ⟨bb, oo + i * 4 + 3, none⟩ = some (.string tx)) := fun W' hW => HLD.out W' (HC5.out.trans (hW.mono HC5.out.size))
          have HSS5 := Lib.hid (HSS.out.below HC5.out)
          go_upto_region 11 with fail
          refine wp_region_held (S := fun W' => Below w5.heap.size w5 W') (by kernel_rfl) ?_
          change wpAnyH _ _ _ _ _ 31 _ _ w5.drew
          have hcum := (Below.refl w5.heap.size w5).drew
          generalize w5.drew = V0 at *
          refine wpAnyH_take (i := 0) (oi := { dst := some 50, op := Op.move (Operand.tmp 5), type := 29, pos := "law.go:73", after := #[], guard := none }) (v := ?_) rfl (by kernel_rfl) (by kernel_rfl) (by kernel_rfl) (fun _ _ _ h => h) (Or.inl ⟨by rfl, fun W' hW' => ?_⟩) hcum ?_
          rotate_left 1
          · go_simp
            try rfl
          try simp only [Act.put, List.setIfInBounds_toArray, List.set_cons_zero, List.set_cons_succ]
          refine wpAnyH_take (i := 2) (oi := { dst := some 52, op := Op.move (Operand.tmp 6), type := 3, pos := "law.go:73", after := #[], guard := none }) (v := ?_) rfl (by kernel_rfl) (by kernel_rfl) (by kernel_rfl) (fun _ _ _ h => h) (Or.inl ⟨by rfl, fun W' hW' => ?_⟩) hcum ?_
          rotate_left 1
          · go_simp
            try rfl
          try simp only [Act.put, List.setIfInBounds_toArray, List.set_cons_zero, List.set_cons_succ]
          refine wpAnyH_ready (rs := [1]) (by kernel_rfl) (by simp) ?_
          refine AllReadyH.cons (o := { dst := some 51, op := Op.call { callee := Callee.value (Operand.func 7), args := #[Operand.tmp 50], argTypes := #[29] }, type := 3, pos := "law.go:73", after := #[{ on := 0, ground := Ground.data }], guard := none }) rfl (fun KK hK => ?_) AllReadyH.nil
          rw [if_pos (by rfl)]
          go_simp
          refine (num12_any _ V0).mono ?_
          rintro e V1 ⟨rfl, hVW⟩
          replace hVW := hVW.symm
          subst hVW
          have hbe := Below.refl V1.heap.size V1
          have hcum := hcum.trans (hbe.mono hcum.size)
          refine hK.out _ _ hcum (fun _ => ?_)
          clear hK hbe
          try simp only [Act.put, List.setIfInBounds_toArray, List.set_cons_zero, List.set_cons_succ]
          refine wpAnyH_take (i := 3) (oi := { dst := some 53, op := Op.binOp BinOp.neq 3 (Operand.tmp 51) (Operand.tmp 52) 3, type := 4, pos := "law.go:73", after := #[{ on := 1, ground := Ground.data }, { on := 2, ground := Ground.data }], guard := none }) (v := ?_) rfl (by kernel_rfl) (by kernel_rfl) (by kernel_rfl) (fun _ _ _ h => h) (Or.inl ⟨by rfl, fun W' hW' => ?_⟩) hcum ?_
          rotate_left 1
          · go_simp
            try rfl
          try simp only [Act.put, List.setIfInBounds_toArray, List.set_cons_zero, List.set_cons_succ]
          refine wpAnyH_take (i := 4) (oi := { dst := some 54, op := Op.move (Operand.tmp 53), type := 4, pos := "law.go:73", after := #[{ on := 3, ground := Ground.data }, { on := 1, ground := Ground.chain }], guard := none }) (v := ?_) rfl (by kernel_rfl) (by kernel_rfl) (by kernel_rfl) (fun _ _ _ h => h) (Or.inl ⟨by rfl, fun W' hW' => ?_⟩) hcum ?_
          rotate_left 1
          · go_simp
            try rfl
          try simp only [Act.put, List.setIfInBounds_toArray, List.set_cons_zero, List.set_cons_succ]
          refine wpAnyH_take (i := 5) (oi := { dst := some 55, op := Op.move (Operand.tmp 4), type := 23, pos := "law.go:73", after := #[{ on := 4, ground := Ground.guard }], guard := some (4, false) }) (v := ?_) rfl (by kernel_rfl) (by kernel_rfl) (by kernel_rfl) (fun _ _ _ h => h) (Or.inl ⟨by rfl, fun W' hW' => ?_⟩) hcum ?_
          rotate_left 1
          · go_simp
            try rfl
          try simp only [Act.put, List.setIfInBounds_toArray, List.set_cons_zero, List.set_cons_succ]
          refine wpAnyH_take (i := 6) (oi := { dst := some 56, op := Op.move (Operand.tmp 7), type := 23, pos := "law.go:73", after := #[{ on := 4, ground := Ground.guard }], guard := some (4, false) }) (v := ?_) rfl (by kernel_rfl) (by kernel_rfl) (by kernel_rfl) (fun _ _ _ h => h) (Or.inl ⟨by rfl, fun W' hW' => ?_⟩) hcum ?_
          rotate_left 1
          · go_simp
            try rfl
          try simp only [Act.put, List.setIfInBounds_toArray, List.set_cons_zero, List.set_cons_succ]
          refine wpAnyH_ready (rs := [7]) (by kernel_rfl) (by simp) ?_
          refine AllReadyH.cons (o := { dst := some 57, op := Op.call { callee := Callee.value (Operand.func 14), args := #[Operand.tmp 55, Operand.tmp 56], argTypes := #[23, 23] }, type := 4, pos := "law.go:73", after := #[{ on := 5, ground := Ground.data }, { on := 6, ground := Ground.data }, { on := 4, ground := Ground.chain }, { on := 4, ground := Ground.guard }], guard := some (4, false) }) rfl (fun KK hK => ?_) AllReadyH.nil
          rw [if_pos (by rfl)]
          go_simp
          have hEQ := eqStrs6_dec (.slice A l.length c) (.slice (some ⟨gw, 0, none⟩) l.length cw) l l V1 (HSL5.out.below hcum) (HSW5.out.below hcum) HLN9.out HLN9.out
          rw [decide_eq_true (rfl : l = l)] at hEQ
          refine hEQ.mono ?_
          clear hEQ
          rintro e V2 ⟨rfl, hbe⟩
          have hcum := hcum.trans (hbe.mono hcum.size)
          refine hK.out _ _ hcum (fun _ => ?_)
          clear hK hbe
          try simp only [Act.put, List.setIfInBounds_toArray, List.set_cons_zero, List.set_cons_succ]
          refine wpAnyH_take (i := 8) (oi := { dst := some 58, op := Op.unOp UnOp.not 4 (Operand.tmp 57), type := 4, pos := "law.go:73", after := #[{ on := 7, ground := Ground.data }, { on := 4, ground := Ground.guard }], guard := some (4, false) }) (v := ?_) rfl (by kernel_rfl) (by kernel_rfl) (by kernel_rfl) (fun _ _ _ h => h) (Or.inl ⟨by rfl, fun W' hW' => ?_⟩) hcum ?_
          rotate_left 1
          · go_simp
            try rfl
          try simp only [Act.put, List.setIfInBounds_toArray, List.set_cons_zero, List.set_cons_succ]
          refine wpAnyH_take (i := 9) (oi := { dst := some 59, op := Op.pick (Operand.tmp 54) (Operand.const (Value.bool true)) (Operand.tmp 58), type := 4, pos := "law.go:73", after := #[{ on := 4, ground := Ground.data }, { on := 8, ground := Ground.data }], guard := none }) (v := ?_) rfl (by kernel_rfl) (by kernel_rfl) (by kernel_rfl) (fun _ _ _ h => h) (Or.inl ⟨by rfl, fun W' hW' => ?_⟩) hcum ?_
          rotate_left 1
          · go_simp
            try rfl
          try simp only [Act.put, List.setIfInBounds_toArray, List.set_cons_zero, List.set_cons_succ]
          refine wpAnyH_take (i := 10) (oi := { dst := some 60, op := Op.move (Operand.tmp 59), type := 4, pos := "law.go:73", after := #[{ on := 9, ground := Ground.data }, { on := 7, ground := Ground.chain }], guard := none }) (v := ?_) rfl (by kernel_rfl) (by kernel_rfl) (by kernel_rfl) (fun _ _ _ h => h) (Or.inl ⟨by rfl, fun W' hW' => ?_⟩) hcum ?_
          rotate_left 1
          · go_simp
            try rfl
          try simp only [Act.put, List.setIfInBounds_toArray, List.set_cons_zero, List.set_cons_succ]
          refine wpAnyH_take (i := 11) (oi := { dst := some 61, op := Op.move (Operand.tmp 7), type := 23, pos := "law.go:73", after := #[{ on := 10, ground := Ground.guard }], guard := some (10, false) }) (v := ?_) rfl (by kernel_rfl) (by kernel_rfl) (by kernel_rfl) (fun _ _ _ h => h) (Or.inl ⟨by rfl, fun W' hW' => ?_⟩) hcum ?_
          rotate_left 1
          · go_simp
            try rfl
          try simp only [Act.put, List.setIfInBounds_toArray, List.set_cons_zero, List.set_cons_succ]
          refine wpAnyH_take (i := 12) (oi := { dst := some 62, op := Op.fieldAddr 25 (Operand.tmp 1) 0, type := 0, pos := "law.go:73", after := #[{ on := 10, ground := Ground.guard }], guard := some (10, false) }) (v := ?_) rfl (by kernel_rfl) (by kernel_rfl) (by kernel_rfl) (fun _ _ _ h => h) (Or.inl ⟨by rfl, fun W' hW' => ?_⟩) hcum ?_
          rotate_left 1
          · go_simp
            try rfl
          try simp only [Act.put, List.setIfInBounds_toArray, List.set_cons_zero, List.set_cons_succ]
          refine wpAnyH_take (i := 13) (oi := { dst := some 63, op := Op.load 22 (Operand.tmp 62), type := 22, pos := "law.go:73", after := #[{ on := 12, ground := Ground.data }, { on := 10, ground := Ground.guard }], guard := some (10, false) }) (v := ?_) rfl (by kernel_rfl) (by kernel_rfl) (by kernel_rfl) (fun _ _ _ h => h) (Or.inl ⟨by rfl, fun W' hW' => ?_⟩) hcum ?_
          rotate_left 1
          · (obtain ⟨p0, p1, s0, s1, s2, s3⟩ := HLD5.out _ hW'; go_simp)
            try rfl
          try simp only [Act.put, List.setIfInBounds_toArray, List.set_cons_zero, List.set_cons_succ]
          refine wpAnyH_take (i := 14) (oi := { dst := some 64, op := Op.move (Operand.tmp 3), type := 3, pos := "law.go:73", after := #[{ on := 10, ground := Ground.guard }], guard := some (10, false) }) (v := ?_) rfl (by kernel_rfl) (by kernel_rfl) (by kernel_rfl) (fun _ _ _ h => h) (Or.inl ⟨by rfl, fun W' hW' => ?_⟩) hcum ?_
          rotate_left 1
          · go_simp
            try rfl
          try simp only [Act.put, List.setIfInBounds_toArray, List.set_cons_zero, List.set_cons_succ]
          refine wpAnyH_take (i := 15) (oi := { dst := some 65, op := Op.indexAddr 22 (Operand.tmp 63) (Operand.tmp 64), type := 0, pos := "law.go:73", after := #[{ on := 13, ground := Ground.data }, { on := 14, ground := Ground.data }, { on := 10, ground := Ground.guard }], guard := some (10, false) }) (v := ?_) rfl (by kernel_rfl) (by kernel_rfl) (by kernel_rfl) (fun _ _ _ h => h) (Or.inl ⟨by rfl, fun W' hW' => ?_⟩) hcum ?_
          rotate_left 1
          · go_simp
            try rfl
          try simp only [Act.put, List.setIfInBounds_toArray, List.set_cons_zero, List.set_cons_succ]
          refine wpAnyH_take (i := 16) (oi := { dst := some 66, op := Op.load 28 (Operand.tmp 65), type := 28, pos := "law.go:73", after := #[{ on := 15, ground := Ground.data }, { on := 10, ground := Ground.guard }], guard := some (10, false) }) (v := ?_) rfl (by kernel_rfl) (by kernel_rfl) (by kernel_rfl) (fun _ _ _ h => h) (Or.inl ⟨by rfl, fun W' hW' => ?_⟩) hcum ?_
          rotate_left 1
          · (obtain ⟨p0, p1, s0, s1, s2, s3⟩ := HLD5.out _ hW'; go_simp)
            try rfl
          try simp only [Act.put, List.setIfInBounds_toArray, List.set_cons_zero, List.set_cons_succ]
          refine wpAnyH_ready (rs := [17]) (by kernel_rfl) (by simp) ?_
          refine AllReadyH.cons (o := { dst := some 67, op := Op.call { callee := Callee.value (Operand.func 15), args := #[Operand.tmp 61, Operand.tmp 66], argTypes := #[23, 28] }, type := 4, pos := "law.go:73", after := #[{ on := 11, ground := Ground.data }, { on := 16, ground := Ground.data }, { on := 10, ground := Ground.chain }, { on := 10, ground := Ground.guard }], guard := some (10, false) }) rfl (fun KK hK => ?_) AllReadyH.nil
          rw [if_pos (by rfl)]
          go_simp
          refine (taken_any (.slice (some ⟨gw, 0, none⟩) l.length cw) l (a : Int) (b : Int) (d : Int) tx V2 (HSW5.out.below hcum) HLN6.out HLJ.out).mono ?_
          rintro e V3 ⟨rfl, hbe⟩
          have hcum := hcum.trans (hbe.mono hcum.size)
          refine hK.out _ _ hcum (fun _ => ?_)
          clear hK hbe
          try simp only [Act.put, List.setIfInBounds_toArray, List.set_cons_zero, List.set_cons_succ]
          refine wpAnyH_take (i := 18) (oi := { dst := some 68, op := Op.unOp UnOp.not 4 (Operand.tmp 67), type := 4, pos := "law.go:73", after := #[{ on := 17, ground := Ground.data }, { on := 10, ground := Ground.guard }], guard := some (10, false) }) (v := ?_) rfl (by kernel_rfl) (by kernel_rfl) (by kernel_rfl) (fun _ _ _ h => h) (Or.inl ⟨by rfl, fun W' hW' => ?_⟩) hcum ?_
          rotate_left 1
          · go_simp
            try rfl
          try simp only [Act.put, List.setIfInBounds_toArray, List.set_cons_zero, List.set_cons_succ]
          refine wpAnyH_take (i := 19) (oi := { dst := some 69, op := Op.pick (Operand.tmp 60) (Operand.const (Value.bool true)) (Operand.tmp 68), type := 4, pos := "law.go:73", after := #[{ on := 10, ground := Ground.data }, { on := 18, ground := Ground.data }], guard := none }) (v := ?_) rfl (by kernel_rfl) (by kernel_rfl) (by kernel_rfl) (fun _ _ _ h => h) (Or.inl ⟨by rfl, fun W' hW' => ?_⟩) hcum ?_
          rotate_left 1
          · go_simp
            try rfl
          try simp only [Act.put, List.setIfInBounds_toArray, List.set_cons_zero, List.set_cons_succ]
          refine wpAnyH_take (i := 20) (oi := { dst := some 70, op := Op.move (Operand.tmp 69), type := 4, pos := "law.go:73", after := #[{ on := 19, ground := Ground.data }, { on := 17, ground := Ground.chain }], guard := none }) (v := ?_) rfl (by kernel_rfl) (by kernel_rfl) (by kernel_rfl) (fun _ _ _ h => h) (Or.inl ⟨by rfl, fun W' hW' => ?_⟩) hcum ?_
          rotate_left 1
          · go_simp
            try rfl
          try simp only [Act.put, List.setIfInBounds_toArray, List.set_cons_zero, List.set_cons_succ]
          refine wpAnyH_take (i := 21) (oi := { dst := some 71, op := Op.fieldAddr 25 (Operand.tmp 1) 1, type := 0, pos := "law.go:73", after := #[{ on := 20, ground := Ground.guard }], guard := some (20, false) }) (v := ?_) rfl (by kernel_rfl) (by kernel_rfl) (by kernel_rfl) (fun _ _ _ h => h) (Or.inl ⟨by rfl, fun W' hW' => ?_⟩) hcum ?_
          rotate_left 1
          · go_simp
            try rfl
          try simp only [Act.put, List.setIfInBounds_toArray, List.set_cons_zero, List.set_cons_succ]
          refine wpAnyH_take (i := 22) (oi := { dst := some 72, op := Op.load 23 (Operand.tmp 71), type := 23, pos := "law.go:73", after := #[{ on := 21, ground := Ground.data }, { on := 20, ground := Ground.guard }], guard := some (20, false) }) (v := ?_) rfl (by kernel_rfl) (by kernel_rfl) (by kernel_rfl) (fun _ _ _ h => h) (Or.inl ⟨by rfl, fun W' hW' => ?_⟩) hcum ?_
          rotate_left 1
          · (obtain ⟨p0, p1, s0, s1, s2, s3⟩ := HLD5.out _ hW'; go_simp)
            try rfl
          try simp only [Act.put, List.setIfInBounds_toArray, List.set_cons_zero, List.set_cons_succ]
          refine wpAnyH_take (i := 23) (oi := { dst := some 73, op := Op.fieldAddr 25 (Operand.tmp 1) 0, type := 0, pos := "law.go:73", after := #[{ on := 20, ground := Ground.guard }], guard := some (20, false) }) (v := ?_) rfl (by kernel_rfl) (by kernel_rfl) (by kernel_rfl) (fun _ _ _ h => h) (Or.inl ⟨by rfl, fun W' hW' => ?_⟩) hcum ?_
          rotate_left 1
          · go_simp
            try rfl
          try simp only [Act.put, List.setIfInBounds_toArray, List.set_cons_zero, List.set_cons_succ]
          refine wpAnyH_take (i := 24) (oi := { dst := some 74, op := Op.load 22 (Operand.tmp 73), type := 22, pos := "law.go:73", after := #[{ on := 23, ground := Ground.data }, { on := 20, ground := Ground.guard }], guard := some (20, false) }) (v := ?_) rfl (by kernel_rfl) (by kernel_rfl) (by kernel_rfl) (fun _ _ _ h => h) (Or.inl ⟨by rfl, fun W' hW' => ?_⟩) hcum ?_
          rotate_left 1
          · (obtain ⟨p0, p1, s0, s1, s2, s3⟩ := HLD5.out _ hW'; go_simp)
            try rfl
          try simp only [Act.put, List.setIfInBounds_toArray, List.set_cons_zero, List.set_cons_succ]
          refine wpAnyH_take (i := 25) (oi := { dst := some 75, op := Op.move (Operand.tmp 3), type := 3, pos := "law.go:73", after := #[{ on := 20, ground := Ground.guard }], guard := some (20, false) }) (v := ?_) rfl (by kernel_rfl) (by kernel_rfl) (by kernel_rfl) (fun _ _ _ h => h) (Or.inl ⟨by rfl, fun W' hW' => ?_⟩) hcum ?_
          rotate_left 1
          · go_simp
            try rfl
          try simp only [Act.put, List.setIfInBounds_toArray, List.set_cons_zero, List.set_cons_succ]
          refine wpAnyH_take (i := 26) (oi := { dst := some 76, op := Op.indexAddr 22 (Operand.tmp 74) (Operand.tmp 75), type := 0, pos := "law.go:73", after := #[{ on := 24, ground := Ground.data }, { on := 25, ground := Ground.data }, { on := 20, ground := Ground.guard }], guard := some (20, false) }) (v := ?_) rfl (by kernel_rfl) (by kernel_rfl) (by kernel_rfl) (fun _ _ _ h => h) (Or.inl ⟨by rfl, fun W' hW' => ?_⟩) hcum ?_
          rotate_left 1
          · go_simp
            try rfl
          try simp only [Act.put, List.setIfInBounds_toArray, List.set_cons_zero, List.set_cons_succ]
          refine wpAnyH_take (i := 27) (oi := { dst := some 77, op := Op.load 28 (Operand.tmp 76), type := 28, pos := "law.go:73", after := #[{ on := 26, ground := Ground.data }, { on := 20, ground := Ground.guard }], guard := some (20, false) }) (v := ?_) rfl (by kernel_rfl) (by kernel_rfl) (by kernel_rfl) (fun _ _ _ h => h) (Or.inl ⟨by rfl, fun W' hW' => ?_⟩) hcum ?_
          rotate_left 1
          · (obtain ⟨p0, p1, s0, s1, s2, s3⟩ := HLD5.out _ hW'; go_simp)
            try rfl
          try simp only [Act.put, List.setIfInBounds_toArray, List.set_cons_zero, List.set_cons_succ]
          refine wpAnyH_ready (rs := [28]) (by kernel_rfl) (by simp) ?_
          refine AllReadyH.cons (o := { dst := some 78, op := Op.call { callee := Callee.value (Operand.func 15), args := #[Operand.tmp 72, Operand.tmp 77], argTypes := #[23, 28] }, type := 4, pos := "law.go:73", after := #[{ on := 22, ground := Ground.data }, { on := 27, ground := Ground.data }, { on := 20, ground := Ground.chain }, { on := 20, ground := Ground.guard }], guard := some (20, false) }) rfl (fun KK hK => ?_) AllReadyH.nil
          rw [if_pos (by rfl)]
          go_simp
          refine (taken_any (.slice pL ss.length kL) ss (a : Int) (b : Int) (d : Int) tx V3 (HSS5.out.below hcum) HSN.out HSJ.out).mono ?_
          rintro e V4 ⟨rfl, hbe⟩
          have hcum := hcum.trans (hbe.mono hcum.size)
          refine hK.out _ _ hcum (fun _ => ?_)
          clear hK hbe
          try simp only [Act.put, List.setIfInBounds_toArray, List.set_cons_zero, List.set_cons_succ]
          refine wpAnyH_take (i := 29) (oi := { dst := some 79, op := Op.unOp UnOp.not 4 (Operand.tmp 78), type := 4, pos := "law.go:73", after := #[{ on := 28, ground := Ground.data }, { on := 20, ground := Ground.guard }], guard := some (20, false) }) (v := ?_) rfl (by kernel_rfl) (by kernel_rfl) (by kernel_rfl) (fun _ _ _ h => h) (Or.inl ⟨by rfl, fun W' hW' => ?_⟩) hcum ?_
          rotate_left 1
          · go_simp
            try rfl
          try simp only [Act.put, List.setIfInBounds_toArray, List.set_cons_zero, List.set_cons_succ]
          refine wpAnyH_take (i := 30) (oi := { dst := some 80, op := Op.pick (Operand.tmp 70) (Operand.const (Value.bool true)) (Operand.tmp 79), type := 4, pos := "law.go:73", after := #[{ on := 20, ground := Ground.data }, { on := 29, ground := Ground.data }], guard := none }) (v := ?_) rfl (by kernel_rfl) (by kernel_rfl) (by kernel_rfl) (fun _ _ _ h => h) (Or.inl ⟨by rfl, fun W' hW' => ?_⟩) hcum ?_
          rotate_left 1
          · go_simp
            try rfl
          try simp only [Act.put, List.setIfInBounds_toArray, List.set_cons_zero, List.set_cons_succ]
          refine wpAnyH_done (by kernel_rfl) ?_ _
          obtain ⟨w6, rfl⟩ : ∃ x : World, x = V4 := ⟨_, rfl⟩
          have HC6 := Lib.hid (HC5.out.trans (hcum.mono HC5.out.size))
          have HSW6 := Lib.hid (HSW5.out.below hcum)
          have HLD6 : Hid (∀ W', Below w6.heap.size w6 W' → W'.cell? ⟨w.heap.size, 0, none⟩ = some (.slice (some ⟨bb, oo, none⟩) S.length c0) ∧ W'.cell? ⟨w.heap.size, 1, none⟩ = some (.slice pL ss.length kL) ∧ W'.cell? ⟨bb, oo + i * 4, none⟩ = some (.int .i64 (a : Int)) ∧ W'.cell? ⟨bb, oo + i * 4 + 1, none⟩ = some (.int .i64 (b : Int)) ∧ W'.cell? ⟨bb, oo + i * 4 + 2, none⟩ = some (.int .i64 (d : Int)) ∧ W'.cell? ⟨bb, oo + i * 4 + 3, none⟩ = some (.string tx)) := fun W' hW => HLD.out W' (HC6.out.trans (hW.mono HC6.out.size))
          have HW0 : Hid (∀ W', Below w6.heap.size w6 W' → W'.cell? ⟨gw, 0, none⟩ = some (.string sf)) := fun W' hW => by
            have h5 := hcum.trans (hW.mono hcum.size)
            exact (h5.cell (p := ⟨gw, 0, none⟩) HGW.out).trans HCW0.out
          have HLA : Hid ((l ++ [sf]).length ≤ 6000) := by rw [Hid, List.length_append]; simp; omega
          have HJA : Hid ((joinB (l ++ [sf])).length ≤ 10000000) := by rw [Hid, joinB_snoc, List.length_append, joinB_len HSZ.out, bytesOf_length, HSZ.out _ HSF.out]; omega
          have HLB : Hid ((l.take (l.length - 1)).length ≤ 6000) := by rw [Hid, List.length_take]; omega
          have HJB : Hid ((joinB (l.take (l.length - 1))).length ≤ 10000000) := by rw [Hid, joinB_len (fun x hx => HSZ.out x (List.mem_of_mem_take hx)), List.length_take]; omega
          have wl1 : IntKind.i64.wrap ((l.length : Int) - 1) = ((l.length - 1 : Nat) : Int) := by rw [IntWalk.i64_in _ (by omega)]; omega
          have ql1 : l.length - 1 ≤ cw := by omega
          have ql2 : ((l.length - 1 : Nat) : Int) ≤ (cw : Int) := by omega
          have ql3 : (0 : Int) ≤ ((l.length - 1 : Nat) : Int) := by omega
          have k00 : (0 : Int) < (l.length : Int) := by omega
          have k01 : 0 < l.length := hl1
          clear hcum HC5 HSL5 HSW5 HLD5 HSS5
          go_upto_region 14 with fail
          go_cut [110] from 83 to 109 (fun tv wx => tv = .bool false ∧ Hid (Below w6.heap.size w6 wx))
          case first =>
            refine wp_region_held (S := fun W' => Below w6.heap.size w6 W') (by kernel_rfl) ?_
            change wpAnyH _ _ _ _ _ 28 _ _ w6.drew
            have hcum := (Below.refl w6.heap.size w6).drew
            generalize w6.drew = V0 at *
            refine wpAnyH_take (i := 0) (oi := { dst := some 83, op := Op.move (Operand.tmp 7), type := 23, pos := "law.go:79", after := #[], guard := none }) (v := ?_) rfl (by kernel_rfl) (by kernel_rfl) (by kernel_rfl) (fun _ _ _ h => h) (Or.inl ⟨by rfl, fun W' hW' => ?_⟩) hcum ?_
            rotate_left 1
            · go_simp
              try rfl
            try simp only [Act.put, List.setIfInBounds_toArray, List.set_cons_zero, List.set_cons_succ]
            refine wpAnyH_take (i := 2) (oi := { dst := some 85, op := Op.move (Operand.tmp 7), type := 23, pos := "law.go:79", after := #[], guard := none }) (v := ?_) rfl (by kernel_rfl) (by kernel_rfl) (by kernel_rfl) (fun _ _ _ h => h) (Or.inl ⟨by rfl, fun W' hW' => ?_⟩) hcum ?_
            rotate_left 1
            · go_simp
              try rfl
            try simp only [Act.put, List.setIfInBounds_toArray, List.set_cons_zero, List.set_cons_succ]
            refine wpAnyH_take (i := 3) (oi := { dst := some 86, op := Op.indexAddr 23 (Operand.tmp 85) (Operand.const (Value.int IntKind.i64 0)), type := 0, pos := "law.go:79", after := #[{ on := 2, ground := Ground.data }], guard := none }) (v := ?_) rfl (by kernel_rfl) (by kernel_rfl) (by kernel_rfl) (fun _ _ _ h => h) (Or.inl ⟨by rfl, fun W' hW' => ?_⟩) hcum ?_
            rotate_left 1
            · go_simp
              try rfl
            try simp only [Act.put, List.setIfInBounds_toArray, List.set_cons_zero, List.set_cons_succ]
            refine wpAnyH_take (i := 4) (oi := { dst := some 87, op := Op.load 9 (Operand.tmp 86), type := 9, pos := "law.go:79", after := #[{ on := 3, ground := Ground.data }], guard := none }) (v := ?_) rfl (by kernel_rfl) (by kernel_rfl) (by kernel_rfl) (fun _ _ _ h => h) (Or.inl ⟨by rfl, fun W' hW' => ?_⟩) hcum ?_
            rotate_left 1
            · (obtain ⟨p0, p1, s0, s1, s2, s3⟩ := HLD6.out _ hW'; have cw0 := HW0.out _ hW'; go_simp)
              try rfl
            try simp only [Act.put, List.setIfInBounds_toArray, List.set_cons_zero, List.set_cons_succ]
            refine wpAnyH_take (i := 7) (oi := { dst := some 90, op := Op.fieldAddr 25 (Operand.tmp 1) 0, type := 0, pos := "law.go:79", after := #[], guard := none }) (v := ?_) rfl (by kernel_rfl) (by kernel_rfl) (by kernel_rfl) (fun _ _ _ h => h) (Or.inl ⟨by rfl, fun W' hW' => ?_⟩) hcum ?_
            rotate_left 1
            · go_simp
              try rfl
            try simp only [Act.put, List.setIfInBounds_toArray, List.set_cons_zero, List.set_cons_succ]
            refine wpAnyH_take (i := 8) (oi := { dst := some 91, op := Op.load 22 (Operand.tmp 90), type := 22, pos := "law.go:79", after := #[{ on := 7, ground := Ground.data }], guard := none }) (v := ?_) rfl (by kernel_rfl) (by kernel_rfl) (by kernel_rfl) (fun _ _ _ h => h) (Or.inl ⟨by rfl, fun W' hW' => ?_⟩) hcum ?_
            rotate_left 1
            · (obtain ⟨p0, p1, s0, s1, s2, s3⟩ := HLD6.out _ hW'; have cw0 := HW0.out _ hW'; go_simp)
              try rfl
            try simp only [Act.put, List.setIfInBounds_toArray, List.set_cons_zero, List.set_cons_succ]
            refine wpAnyH_take (i := 9) (oi := { dst := some 92, op := Op.move (Operand.tmp 3), type := 3, pos := "law.go:79", after := #[], guard := none }) (v := ?_) rfl (by kernel_rfl) (by kernel_rfl) (by kernel_rfl) (fun _ _ _ h => h) (Or.inl ⟨by rfl, fun W' hW' => ?_⟩) hcum ?_
            rotate_left 1
            · go_simp
              try rfl
            try simp only [Act.put, List.setIfInBounds_toArray, List.set_cons_zero, List.set_cons_succ]
            refine wpAnyH_take (i := 10) (oi := { dst := some 93, op := Op.indexAddr 22 (Operand.tmp 91) (Operand.tmp 92), type := 0, pos := "law.go:79", after := #[{ on := 8, ground := Ground.data }, { on := 9, ground := Ground.data }], guard := none }) (v := ?_) rfl (by kernel_rfl) (by kernel_rfl) (by kernel_rfl) (fun _ _ _ h => h) (Or.inl ⟨by rfl, fun W' hW' => ?_⟩) hcum ?_
            rotate_left 1
            · go_simp
              try rfl
            try simp only [Act.put, List.setIfInBounds_toArray, List.set_cons_zero, List.set_cons_succ]
            refine wpAnyH_take (i := 11) (oi := { dst := some 94, op := Op.load 28 (Operand.tmp 93), type := 28, pos := "law.go:79", after := #[{ on := 10, ground := Ground.data }], guard := none }) (v := ?_) rfl (by kernel_rfl) (by kernel_rfl) (by kernel_rfl) (fun _ _ _ h => h) (Or.inl ⟨by rfl, fun W' hW' => ?_⟩) hcum ?_
            rotate_left 1
            · (obtain ⟨p0, p1, s0, s1, s2, s3⟩ := HLD6.out _ hW'; have cw0 := HW0.out _ hW'; go_simp)
              try rfl
            try simp only [Act.put, List.setIfInBounds_toArray, List.set_cons_zero, List.set_cons_succ]
            refine wpAnyH_ready (rs := [1, 5]) (by kernel_rfl) (by simp) ?_
            refine AllReadyH.cons (o := { dst := some 84, op := Op.call { callee := Callee.value (Operand.func 10), args := #[Operand.tmp 83], argTypes := #[23] }, type := 23, pos := "law.go:79", after := #[{ on := 0, ground := Ground.data }], guard := none }) rfl (fun KK hK => ?_) (AllReadyH.cons (o := { dst := some 88, op := Op.buildSlice 23 1 #[(0, Operand.tmp 87)], type := 23, pos := "law.go:79", after := #[{ on := 4, ground := Ground.data }], guard := none }) rfl (fun KK hK => ?_) AllReadyH.nil)
            · rw [if_pos (by rfl)]
              go_simp
              refine (copyStrs6_any (.slice (some ⟨gw, 0, none⟩) l.length cw) l V0 (HSW6.out.below hcum) (by omega)).mono ?_
              rintro e V1 ⟨r, rfl, hown0, hbe⟩
              have hown := own_base hown0 hcum.size
              clear hown0
              obtain ⟨Ar, cr, rfl⟩ := own_shape hown
              try (replace hl1 := lit_belowS hl1 hbe hbl1)
              try (replace hbl1 := Nat.lt_of_lt_of_le hbl1 hbe.size)
              have hcum := hcum.trans (hbe.mono hcum.size)
              refine hK.out _ _ hcum (fun _ => ?_)
              clear hK hbe
              try simp only [Act.put, List.setIfInBounds_toArray, List.set_cons_zero, List.set_cons_succ]
              refine wpAnyH_ready (rs := [5]) (by kernel_rfl) (by simp) ?_
              refine AllReadyH.cons (o := { dst := some 88, op := Op.buildSlice 23 1 #[(0, Operand.tmp 87)], type := 23, pos := "law.go:79", after := #[{ on := 4, ground := Ground.data }], guard := none }) rfl (fun KK hK => ?_) AllReadyH.nil
              rw [if_pos (by rfl)]
              go_simp
              have hbe := (Below.refl V1.heap.size V1).alloc (Nat.le_refl _) (.cells #[.string sf] 9)
              have hl1 := cell_one_new' V1 (.string sf) 9
              have hbl1 : V1.heap.size < (V1.alloc (.cells #[.string sf] 9)).heap.size := by simp
              try (replace hown := hown.alloc (.cells #[.string sf] 9))
              replace hcum := hcum.trans (hbe.mono hcum.size)
              refine hK.out _ _ hcum (fun _ => ?_)
              clear hK hbe
              generalize V1.alloc (.cells #[.string sf] 9) = V2 at *
              generalize V1.heap.size = bl at *
              try simp only [Act.put, List.setIfInBounds_toArray, List.set_cons_zero, List.set_cons_succ]
              refine wpAnyH_ready (rs := [6]) (by kernel_rfl) (by simp) ?_
              refine AllReadyH.cons (o := { dst := some 89, op := Op.call { callee := Callee.builtin Builtin.append, args := #[Operand.tmp 84, Operand.tmp 88], argTypes := #[23, 23] }, type := 23, pos := "law.go:79", after := #[{ on := 1, ground := Ground.data }, { on := 5, ground := Ground.data }, { on := 1, ground := Ground.chain }], guard := none }) rfl (fun KK hK => ?_) AllReadyH.nil
              have hB0w := hcum.size
              refine step_append_lies _ (by rfl) _ _ _ (by rfl) w6.heap.size 9 j0 _ 1 16 Tryd.underlying23 hj hy0 hy1 hy2 rfl (by decide) _ _ _ (by rfl) hown ⟨bl, 0, none⟩ 1 1 [.string sf] (by simp [Act.eval]) (by rfl) hl1 (by intro u hu; simp at hu; subst hu; rfl) (by omega) (by unfold maxLen; omega) (by omega) (by omega) V2.heap.size rfl ?_
              intro g6 cap6 V3 hown' hgrow hat hltg
              have hbg : Below w6.heap.size V2 V3 := (Below.refl w6.heap.size V2).grown hgrow hcum.size (fun k hk => (hown.lt k hk).1)
              replace hcum := hcum.trans hbg
              have HAP : Hid (Strs6 V3 (.slice (some ⟨g6, 0, none⟩) (l.length + 1) cap6) (l ++ [sf])) := by
                have h := RowIs.of_own hown'
                rw [Hid, Strs6, List.length_append, List.map_append]
                exact h
              clear hown hgrow hat hltg hB0w hl1 hown'
              refine hK.out _ _ hcum (fun _ => ?_)
              clear hK hbg
              try simp only [Act.put, List.setIfInBounds_toArray, List.set_cons_zero, List.set_cons_succ]
              refine wpAnyH_ready (rs := [12]) (by kernel_rfl) (by simp) ?_
              refine AllReadyH.cons (o := { dst := some 95, op := Op.call { callee := Callee.value (Operand.func 15), args := #[Operand.tmp 89, Operand.tmp 94], argTypes := #[23, 28] }, type := 4, pos := "law.go:79", after := #[{ on := 6, ground := Ground.data }, { on := 11, ground := Ground.data }, { on := 6, ground := Ground.chain }], guard := none }) rfl (fun KK hK => ?_) AllReadyH.nil
              rw [if_pos (by rfl)]
              go_simp
              refine (taken_any (.slice (some ⟨g6, 0, none⟩) (l.length + 1) cap6) (l ++ [sf]) (a : Int) (b : Int) (d : Int) tx V3 HAP.out HLA.out HJA.out).mono ?_
              rintro e V4 ⟨rfl, hbe⟩
              have hcum := hcum.trans (hbe.mono hcum.size)
              refine hK.out _ _ hcum (fun _ => ?_)
              clear hK hbe
              try simp only [Act.put, List.setIfInBounds_toArray, List.set_cons_zero, List.set_cons_succ]
              refine wpAnyH_take (i := 13) (oi := { dst := some 96, op := Op.unOp UnOp.not 4 (Operand.tmp 95), type := 4, pos := "law.go:79", after := #[{ on := 12, ground := Ground.data }], guard := none }) (v := ?_) rfl (by kernel_rfl) (by kernel_rfl) (by kernel_rfl) (fun _ _ _ h => h) (Or.inl ⟨by rfl, fun W' hW' => ?_⟩) hcum ?_
              rotate_left 1
              · go_simp
                try rfl
              try simp only [Act.put, List.setIfInBounds_toArray, List.set_cons_zero, List.set_cons_succ]
              refine wpAnyH_take (i := 14) (oi := { dst := some 97, op := Op.move (Operand.tmp 96), type := 4, pos := "law.go:79", after := #[{ on := 13, ground := Ground.data }, { on := 12, ground := Ground.chain }], guard := none }) (v := ?_) rfl (by kernel_rfl) (by kernel_rfl) (by kernel_rfl) (fun _ _ _ h => h) (Or.inl ⟨by rfl, fun W' hW' => ?_⟩) hcum ?_
              rotate_left 1
              · go_simp
                try rfl
              try simp only [Act.put, List.setIfInBounds_toArray, List.set_cons_zero, List.set_cons_succ]
              refine wpAnyH_take (i := 15) (oi := { dst := some 98, op := Op.move (Operand.tmp 7), type := 23, pos := "law.go:79", after := #[{ on := 14, ground := Ground.guard }], guard := some (14, false) }) (v := ?_) rfl (by kernel_rfl) (by kernel_rfl) (by kernel_rfl) (fun _ _ _ h => h) (Or.inl ⟨by rfl, fun W' hW' => ?_⟩) hcum ?_
              rotate_left 1
              · go_simp
                try rfl
              try simp only [Act.put, List.setIfInBounds_toArray, List.set_cons_zero, List.set_cons_succ]
              refine wpAnyH_take (i := 16) (oi := { dst := some 99, op := Op.move (Operand.tmp 7), type := 23, pos := "law.go:79", after := #[{ on := 14, ground := Ground.guard }], guard := some (14, false) }) (v := ?_) rfl (by kernel_rfl) (by kernel_rfl) (by kernel_rfl) (fun _ _ _ h => h) (Or.inl ⟨by rfl, fun W' hW' => ?_⟩) hcum ?_
              rotate_left 1
              · go_simp
                try rfl
              try simp only [Act.put, List.setIfInBounds_toArray, List.set_cons_zero, List.set_cons_succ]
              refine wpAnyH_take (i := 17) (oi := { dst := some 100, op := Op.call { callee := Callee.builtin Builtin.len, args := #[Operand.tmp 99], argTypes := #[23] }, type := 3, pos := "law.go:79", after := #[{ on := 16, ground := Ground.data }, { on := 14, ground := Ground.guard }], guard := some (14, false) }) (v := ?_) rfl (by kernel_rfl) (by kernel_rfl) (by kernel_rfl) (fun _ _ _ h => h) (Or.inl ⟨by rfl, fun W' hW' => ?_⟩) hcum ?_
              rotate_left 1
              · go_simp
                try rfl
              try simp only [Act.put, List.setIfInBounds_toArray, List.set_cons_zero, List.set_cons_succ]
              refine wpAnyH_take (i := 18) (oi := { dst := some 101, op := Op.binOp BinOp.sub 3 (Operand.tmp 100) (Operand.const (Value.int IntKind.i64 1)) 3, type := 3, pos := "law.go:79", after := #[{ on := 17, ground := Ground.data }, { on := 14, ground := Ground.guard }], guard := some (14, false) }) (v := ?_) rfl (by kernel_rfl) (by kernel_rfl) (by kernel_rfl) (fun _ _ _ h => h) (Or.inl ⟨by rfl, fun W' hW' => ?_⟩) hcum ?_
              rotate_left 1
              · go_simp
                try rfl
              try simp only [Act.put, List.setIfInBounds_toArray, List.set_cons_zero, List.set_cons_succ]
              refine wpAnyH_take (i := 19) (oi := { dst := some 102, op := Op.slice 23 (Operand.tmp 98) none (some (Operand.tmp 101)) none, type := 23, pos := "law.go:79", after := #[{ on := 15, ground := Ground.data }, { on := 18, ground := Ground.data }, { on := 14, ground := Ground.guard }], guard := some (14, false) }) (v := ?_) rfl (by kernel_rfl) (by kernel_rfl) (by kernel_rfl) (fun _ _ _ h => h) (Or.inl ⟨by rfl, fun W' hW' => ?_⟩) hcum ?_
              rotate_left 1
              · go_simp
                try rfl
              try simp only [Act.put, List.setIfInBounds_toArray, List.set_cons_zero, List.set_cons_succ]
              refine wpAnyH_take (i := 20) (oi := { dst := some 103, op := Op.fieldAddr 25 (Operand.tmp 1) 0, type := 0, pos := "law.go:79", after := #[{ on := 14, ground := Ground.guard }], guard := some (14, false) }) (v := ?_) rfl (by kernel_rfl) (by kernel_rfl) (by kernel_rfl) (fun _ _ _ h => h) (Or.inl ⟨by rfl, fun W' hW' => ?_⟩) hcum ?_
              rotate_left 1
              · go_simp
                try rfl
              try simp only [Act.put, List.setIfInBounds_toArray, List.set_cons_zero, List.set_cons_succ]
              refine wpAnyH_take (i := 21) (oi := { dst := some 104, op := Op.load 22 (Operand.tmp 103), type := 22, pos := "law.go:79", after := #[{ on := 20, ground := Ground.data }, { on := 14, ground := Ground.guard }], guard := some (14, false) }) (v := ?_) rfl (by kernel_rfl) (by kernel_rfl) (by kernel_rfl) (fun _ _ _ h => h) (Or.inl ⟨by rfl, fun W' hW' => ?_⟩) hcum ?_
              rotate_left 1
              · (obtain ⟨p0, p1, s0, s1, s2, s3⟩ := HLD6.out _ hW'; have cw0 := HW0.out _ hW'; go_simp)
                try rfl
              try simp only [Act.put, List.setIfInBounds_toArray, List.set_cons_zero, List.set_cons_succ]
              refine wpAnyH_take (i := 22) (oi := { dst := some 105, op := Op.move (Operand.tmp 3), type := 3, pos := "law.go:79", after := #[{ on := 14, ground := Ground.guard }], guard := some (14, false) }) (v := ?_) rfl (by kernel_rfl) (by kernel_rfl) (by kernel_rfl) (fun _ _ _ h => h) (Or.inl ⟨by rfl, fun W' hW' => ?_⟩) hcum ?_
              rotate_left 1
              · go_simp
                try rfl
              try simp only [Act.put, List.setIfInBounds_toArray, List.set_cons_zero, List.set_cons_succ]
              refine wpAnyH_take (i := 23) (oi := { dst := some 106, op := Op.indexAddr 22 (Operand.tmp 104) (Operand.tmp 105), type := 0, pos := "law.go:79", after := #[{ on := 21, ground := Ground.data }, { on := 22, ground := Ground.data }, { on := 14, ground := Ground.guard }], guard := some (14, false) }) (v := ?_) rfl (by kernel_rfl) (by kernel_rfl) (by kernel_rfl) (fun _ _ _ h => h) (Or.inl ⟨by rfl, fun W' hW' => ?_⟩) hcum ?_
              rotate_left 1
              · go_simp
                try rfl
              try simp only [Act.put, List.setIfInBounds_toArray, List.set_cons_zero, List.set_cons_succ]
              refine wpAnyH_take (i := 24) (oi := { dst := some 107, op := Op.load 28 (Operand.tmp 106), type := 28, pos := "law.go:79", after := #[{ on := 23, ground := Ground.data }, { on := 14, ground := Ground.guard }], guard := some (14, false) }) (v := ?_) rfl (by kernel_rfl) (by kernel_rfl) (by kernel_rfl) (fun _ _ _ h => h) (Or.inl ⟨by rfl, fun W' hW' => ?_⟩) hcum ?_
              rotate_left 1
              · (obtain ⟨p0, p1, s0, s1, s2, s3⟩ := HLD6.out _ hW'; have cw0 := HW0.out _ hW'; go_simp)
                try rfl
              try simp only [Act.put, List.setIfInBounds_toArray, List.set_cons_zero, List.set_cons_succ]
              refine wpAnyH_ready (rs := [25]) (by kernel_rfl) (by simp) ?_
              refine AllReadyH.cons (o := { dst := some 108, op := Op.call { callee := Callee.value (Operand.func 15), args := #[Operand.tmp 102, Operand.tmp 107], argTypes := #[23, 28] }, type := 4, pos := "law.go:79", after := #[{ on := 19, ground := Ground.data }, { on := 24, ground := Ground.data }, { on := 14, ground := Ground.chain }, { on := 14, ground := Ground.guard }], guard := some (14, false) }) rfl (fun KK hK => ?_) AllReadyH.nil
              rw [if_pos (by rfl)]
              go_simp
              refine (taken_any (.slice (some ⟨gw, 0, none⟩) (l.length - 1) cw) (l.take (l.length - 1)) (a : Int) (b : Int) (d : Int) tx V4 ((HSW6.out.below hcum).take (by omega)) HLB.out HJB.out).mono ?_
              rintro e V5 ⟨rfl, hbe⟩
              have hcum := hcum.trans (hbe.mono hcum.size)
              refine hK.out _ _ hcum (fun _ => ?_)
              clear hK hbe
              try simp only [Act.put, List.setIfInBounds_toArray, List.set_cons_zero, List.set_cons_succ]
              refine wpAnyH_take (i := 26) (oi := { dst := some 109, op := Op.unOp UnOp.not 4 (Operand.tmp 108), type := 4, pos := "law.go:79", after := #[{ on := 25, ground := Ground.data }, { on := 14, ground := Ground.guard }], guard := some (14, false) }) (v := ?_) rfl (by kernel_rfl) (by kernel_rfl) (by kernel_rfl) (fun _ _ _ h => h) (Or.inl ⟨by rfl, fun W' hW' => ?_⟩) hcum ?_
              rotate_left 1
              · go_simp
                try rfl
              try simp only [Act.put, List.setIfInBounds_toArray, List.set_cons_zero, List.set_cons_succ]
              refine wpAnyH_take (i := 27) (oi := { dst := some 110, op := Op.pick (Operand.tmp 97) (Operand.const (Value.bool true)) (Operand.tmp 109), type := 4, pos := "law.go:79", after := #[{ on := 14, ground := Ground.data }, { on := 26, ground := Ground.data }], guard := none }) (v := ?_) rfl (by kernel_rfl) (by kernel_rfl) (by kernel_rfl) (fun _ _ _ h => h) (Or.inl ⟨by rfl, fun W' hW' => ?_⟩) hcum ?_
              rotate_left 1
              · go_simp
                try rfl
              try simp only [Act.put, List.setIfInBounds_toArray, List.set_cons_zero, List.set_cons_succ]
              refine wpAnyH_done (by kernel_rfl) ?_ _
              go_wp2_with fail
              go_meet
              exact ⟨rfl, Lib.hid hcum⟩
            · rw [if_pos (by rfl)]
              go_simp
              have hbe := (Below.refl V0.heap.size V0).alloc (Nat.le_refl _) (.cells #[.string sf] 9)
              have hl1 := cell_one_new' V0 (.string sf) 9
              have hbl1 : V0.heap.size < (V0.alloc (.cells #[.string sf] 9)).heap.size := by simp
              try (replace hown := hown.alloc (.cells #[.string sf] 9))
              replace hcum := hcum.trans (hbe.mono hcum.size)
              refine hK.out _ _ hcum (fun _ => ?_)
              clear hK hbe
              generalize V0.alloc (.cells #[.string sf] 9) = V1 at *
              generalize V0.heap.size = bl at *
              try simp only [Act.put, List.setIfInBounds_toArray, List.set_cons_zero, List.set_cons_succ]
              refine wpAnyH_ready (rs := [1]) (by kernel_rfl) (by simp) ?_
              refine AllReadyH.cons (o := { dst := some 84, op := Op.call { callee := Callee.value (Operand.func 10), args := #[Operand.tmp 83], argTypes := #[23] }, type := 23, pos := "law.go:79", after := #[{ on := 0, ground := Ground.data }], guard := none }) rfl (fun KK hK => ?_) AllReadyH.nil
              rw [if_pos (by rfl)]
              go_simp
              refine (copyStrs6_any (.slice (some ⟨gw, 0, none⟩) l.length cw) l V1 (HSW6.out.below hcum) (by omega)).mono ?_
              rintro e V2 ⟨r, rfl, hown0, hbe⟩
              have hown := own_base hown0 hcum.size
              clear hown0
              obtain ⟨Ar, cr, rfl⟩ := own_shape hown
              try (replace hl1 := lit_belowS hl1 hbe hbl1)
              try (replace hbl1 := Nat.lt_of_lt_of_le hbl1 hbe.size)
              have hcum := hcum.trans (hbe.mono hcum.size)
              refine hK.out _ _ hcum (fun _ => ?_)
              clear hK hbe
              try simp only [Act.put, List.setIfInBounds_toArray, List.set_cons_zero, List.set_cons_succ]
              refine wpAnyH_ready (rs := [6]) (by kernel_rfl) (by simp) ?_
              refine AllReadyH.cons (o := { dst := some 89, op := Op.call { callee := Callee.builtin Builtin.append, args := #[Operand.tmp 84, Operand.tmp 88], argTypes := #[23, 23] }, type := 23, pos := "law.go:79", after := #[{ on := 1, ground := Ground.data }, { on := 5, ground := Ground.data }, { on := 1, ground := Ground.chain }], guard := none }) rfl (fun KK hK => ?_) AllReadyH.nil
              have hB0w := hcum.size
              refine step_append_lies _ (by rfl) _ _ _ (by rfl) w6.heap.size 9 j0 _ 1 16 Tryd.underlying23 hj hy0 hy1 hy2 rfl (by decide) _ _ _ (by rfl) hown ⟨bl, 0, none⟩ 1 1 [.string sf] (by simp [Act.eval]) (by rfl) hl1 (by intro u hu; simp at hu; subst hu; rfl) (by omega) (by unfold maxLen; omega) (by omega) (by omega) V2.heap.size rfl ?_
              intro g6 cap6 V3 hown' hgrow hat hltg
              have hbg : Below w6.heap.size V2 V3 := (Below.refl w6.heap.size V2).grown hgrow hcum.size (fun k hk => (hown.lt k hk).1)
              replace hcum := hcum.trans hbg
              have HAP : Hid (Strs6 V3 (.slice (some ⟨g6, 0, none⟩) (l.length + 1) cap6) (l ++ [sf])) := by
                have h := RowIs.of_own hown'
                rw [Hid, Strs6, List.length_append, List.map_append]
                exact h
              clear hown hgrow hat hltg hB0w hl1 hown'
              refine hK.out _ _ hcum (fun _ => ?_)
              clear hK hbg
              try simp only [Act.put, List.setIfInBounds_toArray, List.set_cons_zero, List.set_cons_succ]
              refine wpAnyH_ready (rs := [12]) (by kernel_rfl) (by simp) ?_
              refine AllReadyH.cons (o := { dst := some 95, op := Op.call { callee := Callee.value (Operand.func 15), args := #[Operand.tmp 89, Operand.tmp 94], argTypes := #[23, 28] }, type := 4, pos := "law.go:79", after := #[{ on := 6, ground := Ground.data }, { on := 11, ground := Ground.data }, { on := 6, ground := Ground.chain }], guard := none }) rfl (fun KK hK => ?_) AllReadyH.nil
              rw [if_pos (by rfl)]
              go_simp
              refine (taken_any (.slice (some ⟨g6, 0, none⟩) (l.length + 1) cap6) (l ++ [sf]) (a : Int) (b : Int) (d : Int) tx V3 HAP.out HLA.out HJA.out).mono ?_
              rintro e V4 ⟨rfl, hbe⟩
              have hcum := hcum.trans (hbe.mono hcum.size)
              refine hK.out _ _ hcum (fun _ => ?_)
              clear hK hbe
              try simp only [Act.put, List.setIfInBounds_toArray, List.set_cons_zero, List.set_cons_succ]
              refine wpAnyH_take (i := 13) (oi := { dst := some 96, op := Op.unOp UnOp.not 4 (Operand.tmp 95), type := 4, pos := "law.go:79", after := #[{ on := 12, ground := Ground.data }], guard := none }) (v := ?_) rfl (by kernel_rfl) (by kernel_rfl) (by kernel_rfl) (fun _ _ _ h => h) (Or.inl ⟨by rfl, fun W' hW' => ?_⟩) hcum ?_
              rotate_left 1
              · go_simp
                try rfl
              try simp only [Act.put, List.setIfInBounds_toArray, List.set_cons_zero, List.set_cons_succ]
              refine wpAnyH_take (i := 14) (oi := { dst := some 97, op := Op.move (Operand.tmp 96), type := 4, pos := "law.go:79", after := #[{ on := 13, ground := Ground.data }, { on := 12, ground := Ground.chain }], guard := none }) (v := ?_) rfl (by kernel_rfl) (by kernel_rfl) (by kernel_rfl) (fun _ _ _ h => h) (Or.inl ⟨by rfl, fun W' hW' => ?_⟩) hcum ?_
              rotate_left 1
              · go_simp
                try rfl
              try simp only [Act.put, List.setIfInBounds_toArray, List.set_cons_zero, List.set_cons_succ]
              refine wpAnyH_take (i := 15) (oi := { dst := some 98, op := Op.move (Operand.tmp 7), type := 23, pos := "law.go:79", after := #[{ on := 14, ground := Ground.guard }], guard := some (14, false) }) (v := ?_) rfl (by kernel_rfl) (by kernel_rfl) (by kernel_rfl) (fun _ _ _ h => h) (Or.inl ⟨by rfl, fun W' hW' => ?_⟩) hcum ?_
              rotate_left 1
              · go_simp
                try rfl
              try simp only [Act.put, List.setIfInBounds_toArray, List.set_cons_zero, List.set_cons_succ]
              refine wpAnyH_take (i := 16) (oi := { dst := some 99, op := Op.move (Operand.tmp 7), type := 23, pos := "law.go:79", after := #[{ on := 14, ground := Ground.guard }], guard := some (14, false) }) (v := ?_) rfl (by kernel_rfl) (by kernel_rfl) (by kernel_rfl) (fun _ _ _ h => h) (Or.inl ⟨by rfl, fun W' hW' => ?_⟩) hcum ?_
              rotate_left 1
              · go_simp
                try rfl
              try simp only [Act.put, List.setIfInBounds_toArray, List.set_cons_zero, List.set_cons_succ]
              refine wpAnyH_take (i := 17) (oi := { dst := some 100, op := Op.call { callee := Callee.builtin Builtin.len, args := #[Operand.tmp 99], argTypes := #[23] }, type := 3, pos := "law.go:79", after := #[{ on := 16, ground := Ground.data }, { on := 14, ground := Ground.guard }], guard := some (14, false) }) (v := ?_) rfl (by kernel_rfl) (by kernel_rfl) (by kernel_rfl) (fun _ _ _ h => h) (Or.inl ⟨by rfl, fun W' hW' => ?_⟩) hcum ?_
              rotate_left 1
              · go_simp
                try rfl
              try simp only [Act.put, List.setIfInBounds_toArray, List.set_cons_zero, List.set_cons_succ]
              refine wpAnyH_take (i := 18) (oi := { dst := some 101, op := Op.binOp BinOp.sub 3 (Operand.tmp 100) (Operand.const (Value.int IntKind.i64 1)) 3, type := 3, pos := "law.go:79", after := #[{ on := 17, ground := Ground.data }, { on := 14, ground := Ground.guard }], guard := some (14, false) }) (v := ?_) rfl (by kernel_rfl) (by kernel_rfl) (by kernel_rfl) (fun _ _ _ h => h) (Or.inl ⟨by rfl, fun W' hW' => ?_⟩) hcum ?_
              rotate_left 1
              · go_simp
                try rfl
              try simp only [Act.put, List.setIfInBounds_toArray, List.set_cons_zero, List.set_cons_succ]
              refine wpAnyH_take (i := 19) (oi := { dst := some 102, op := Op.slice 23 (Operand.tmp 98) none (some (Operand.tmp 101)) none, type := 23, pos := "law.go:79", after := #[{ on := 15, ground := Ground.data }, { on := 18, ground := Ground.data }, { on := 14, ground := Ground.guard }], guard := some (14, false) }) (v := ?_) rfl (by kernel_rfl) (by kernel_rfl) (by kernel_rfl) (fun _ _ _ h => h) (Or.inl ⟨by rfl, fun W' hW' => ?_⟩) hcum ?_
              rotate_left 1
              · go_simp
                try rfl
              try simp only [Act.put, List.setIfInBounds_toArray, List.set_cons_zero, List.set_cons_succ]
              refine wpAnyH_take (i := 20) (oi := { dst := some 103, op := Op.fieldAddr 25 (Operand.tmp 1) 0, type := 0, pos := "law.go:79", after := #[{ on := 14, ground := Ground.guard }], guard := some (14, false) }) (v := ?_) rfl (by kernel_rfl) (by kernel_rfl) (by kernel_rfl) (fun _ _ _ h => h) (Or.inl ⟨by rfl, fun W' hW' => ?_⟩) hcum ?_
              rotate_left 1
              · go_simp
                try rfl
              try simp only [Act.put, List.setIfInBounds_toArray, List.set_cons_zero, List.set_cons_succ]
              refine wpAnyH_take (i := 21) (oi := { dst := some 104, op := Op.load 22 (Operand.tmp 103), type := 22, pos := "law.go:79", after := #[{ on := 20, ground := Ground.data }, { on := 14, ground := Ground.guard }], guard := some (14, false) }) (v := ?_) rfl (by kernel_rfl) (by kernel_rfl) (by kernel_rfl) (fun _ _ _ h => h) (Or.inl ⟨by rfl, fun W' hW' => ?_⟩) hcum ?_
              rotate_left 1
              · (obtain ⟨p0, p1, s0, s1, s2, s3⟩ := HLD6.out _ hW'; have cw0 := HW0.out _ hW'; go_simp)
                try rfl
              try simp only [Act.put, List.setIfInBounds_toArray, List.set_cons_zero, List.set_cons_succ]
              refine wpAnyH_take (i := 22) (oi := { dst := some 105, op := Op.move (Operand.tmp 3), type := 3, pos := "law.go:79", after := #[{ on := 14, ground := Ground.guard }], guard := some (14, false) }) (v := ?_) rfl (by kernel_rfl) (by kernel_rfl) (by kernel_rfl) (fun _ _ _ h => h) (Or.inl ⟨by rfl, fun W' hW' => ?_⟩) hcum ?_
              rotate_left 1
              · go_simp
                try rfl
              try simp only [Act.put, List.setIfInBounds_toArray, List.set_cons_zero, List.set_cons_succ]
              refine wpAnyH_take (i := 23) (oi := { dst := some 106, op := Op.indexAddr 22 (Operand.tmp 104) (Operand.tmp 105), type := 0, pos := "law.go:79", after := #[{ on := 21, ground := Ground.data }, { on := 22, ground := Ground.data }, { on := 14, ground := Ground.guard }], guard := some (14, false) }) (v := ?_) rfl (by kernel_rfl) (by kernel_rfl) (by kernel_rfl) (fun _ _ _ h => h) (Or.inl ⟨by rfl, fun W' hW' => ?_⟩) hcum ?_
              rotate_left 1
              · go_simp
                try rfl
              try simp only [Act.put, List.setIfInBounds_toArray, List.set_cons_zero, List.set_cons_succ]
              refine wpAnyH_take (i := 24) (oi := { dst := some 107, op := Op.load 28 (Operand.tmp 106), type := 28, pos := "law.go:79", after := #[{ on := 23, ground := Ground.data }, { on := 14, ground := Ground.guard }], guard := some (14, false) }) (v := ?_) rfl (by kernel_rfl) (by kernel_rfl) (by kernel_rfl) (fun _ _ _ h => h) (Or.inl ⟨by rfl, fun W' hW' => ?_⟩) hcum ?_
              rotate_left 1
              · (obtain ⟨p0, p1, s0, s1, s2, s3⟩ := HLD6.out _ hW'; have cw0 := HW0.out _ hW'; go_simp)
                try rfl
              try simp only [Act.put, List.setIfInBounds_toArray, List.set_cons_zero, List.set_cons_succ]
              refine wpAnyH_ready (rs := [25]) (by kernel_rfl) (by simp) ?_
              refine AllReadyH.cons (o := { dst := some 108, op := Op.call { callee := Callee.value (Operand.func 15), args := #[Operand.tmp 102, Operand.tmp 107], argTypes := #[23, 28] }, type := 4, pos := "law.go:79", after := #[{ on := 19, ground := Ground.data }, { on := 24, ground := Ground.data }, { on := 14, ground := Ground.chain }, { on := 14, ground := Ground.guard }], guard := some (14, false) }) rfl (fun KK hK => ?_) AllReadyH.nil
              rw [if_pos (by rfl)]
              go_simp
              refine (taken_any (.slice (some ⟨gw, 0, none⟩) (l.length - 1) cw) (l.take (l.length - 1)) (a : Int) (b : Int) (d : Int) tx V4 ((HSW6.out.below hcum).take (by omega)) HLB.out HJB.out).mono ?_
              rintro e V5 ⟨rfl, hbe⟩
              have hcum := hcum.trans (hbe.mono hcum.size)
              refine hK.out _ _ hcum (fun _ => ?_)
              clear hK hbe
              try simp only [Act.put, List.setIfInBounds_toArray, List.set_cons_zero, List.set_cons_succ]
              refine wpAnyH_take (i := 26) (oi := { dst := some 109, op := Op.unOp UnOp.not 4 (Operand.tmp 108), type := 4, pos := "law.go:79", after := #[{ on := 25, ground := Ground.data }, { on := 14, ground := Ground.guard }], guard := some (14, false) }) (v := ?_) rfl (by kernel_rfl) (by kernel_rfl) (by kernel_rfl) (fun _ _ _ h => h) (Or.inl ⟨by rfl, fun W' hW' => ?_⟩) hcum ?_
              rotate_left 1
              · go_simp
                try rfl
              try simp only [Act.put, List.setIfInBounds_toArray, List.set_cons_zero, List.set_cons_succ]
              refine wpAnyH_take (i := 27) (oi := { dst := some 110, op := Op.pick (Operand.tmp 97) (Operand.const (Value.bool true)) (Operand.tmp 109), type := 4, pos := "law.go:79", after := #[{ on := 14, ground := Ground.data }, { on := 26, ground := Ground.data }], guard := none }) (v := ?_) rfl (by kernel_rfl) (by kernel_rfl) (by kernel_rfl) (fun _ _ _ h => h) (Or.inl ⟨by rfl, fun W' hW' => ?_⟩) hcum ?_
              rotate_left 1
              · go_simp
                try rfl
              try simp only [Act.put, List.setIfInBounds_toArray, List.set_cons_zero, List.set_cons_succ]
              refine wpAnyH_done (by kernel_rfl) ?_ _
              go_wp2_with fail
              go_meet
              exact ⟨rfl, Lib.hid hcum⟩
          case rest =>
            obtain ⟨rfl, HC7⟩ := hcut
            obtain ⟨w8, rfl⟩ : ∃ x : World, x = wc := ⟨_, rfl⟩
            have HSW8 := Lib.hid (HSW6.out.below HC7.out)
            have HC8 := Lib.hid (HC6.out.trans (HC7.out.mono HC6.out.size))
            have HLD8 : Hid (∀ W', Below w8.heap.size w8 W' → W'.cell? ⟨w.heap.size, 0, none⟩ = some (.slice (some ⟨bb, oo, none⟩) S.length c0) ∧ W'.cell? ⟨w.heap.size, 1, none⟩ = some (.slice pL ss.length kL) ∧ W'.cell? ⟨bb, oo + i * 4, none⟩ = some (.int .i64 (a : Int)) ∧ W'.cell? ⟨bb, oo + i * 4 + 1, none⟩ = some (.int .i64 (b : Int)) ∧ W'.cell? ⟨bb, oo + i * 4 + 2, none⟩ = some (.int .i64 (d : Int)) ∧ W'.cell? ⟨bb, oo + i * 4 + 3, none⟩ = some (.string tx)) := fun W' hW => HLD.out W' (HC8.out.trans (hW.mono HC8.out.size))
            clear wl1 ql1 ql2 ql3 k00 k01 HLA HJA HLB HJB HW0 HLD6 HC7 HC6 HSW6
            go_wp2_with fail
            go_loopw [8] (fun xv wr => ∃ x : Nat, xv = .int .i64 (x : Int) ∧ x ≤ 516 * l.length + 1 ∧ Hid (Below w8.heap.size w8 wr)) (fun xv _ => 512 * l.length - (intOf xv).toNat)
            case atStart => exact ⟨0, rfl, by omega, Below.refl _ _⟩
            case round =>
              obtain ⟨x, rfl, hx, HWX⟩ := hrel
              have HSr := Lib.hid (HSW8.out.below HWX.out)
              have hwl1 : IntKind.i64.wrap ((l.length : Int) * 64) = (l.length : Int) * 64 := IntWalk.i64_in _ (by omega)
              have hwl2 : IntKind.i64.wrap ((l.length : Int) * 64 * 8) = (l.length : Int) * 64 * 8 := IntWalk.i64_in _ (by omega)
              by_cases hlt : x < 512 * l.length
              · have d1 : decide ((x : Int) < (l.length : Int) * 64 * 8) = true := decide_eq_true (by omega)
                go_wp2_with fail
                clear d1 hwl1 hwl2
                refine (copyStrs6_any (.slice (some ⟨gw, 0, none⟩) l.length cw) l wr HSr.out (by omega)).mono ?_
                rintro e w1 ⟨r, rfl, hown, hb1⟩
                obtain ⟨g1, c1, rfl, hg1, hg2, hcells⟩ := own_at hown rfl (by omega)
                have hjl : x / 8 / 64 < l.length := by omega
                obtain ⟨hc1, hf1⟩ := hcells _ hjl
                obtain ⟨s, hs⟩ : ∃ s, s = l[x / 8 / 64]'hjl := ⟨_, rfl⟩
                have hs64 : s.size = 64 := by rw [hs]; exact HSZ.out _ (List.getElem_mem hjl)
                rw [← hs] at hc1
                have HSE : Hid (l.getD (x / 8 / 64) ByteArray.empty = s) := by rw [Hid, hs, ← List.getElem_eq_getD (h := hjl)]
                have hcv : ∀ w', (convert 9 37 (.string s)).run Tryd.prog w' = .ok (.slice (some ⟨w'.heap.size, 0, none⟩) s.size (grownCap w' s.size 0 5)) (Lib.bytesWorld w' 5 s) := fun w' => Lib.run_convert_string_bytes w' 9 37 5 s Tryd.underlying9 Tryd.underlying37 Tryd.underlying5
                have i0 : (0 : Int) ≤ (x : Int) / 8 / 64 := by omega
                have i1 : (x : Int) / 8 / 64 < (l.length : Int) := by omega
                have HOW := Lib.hid hown
                have HBW := Lib.hid hb1
                rw [hs64] at hcv
                clear hown hb1 hcells hs
                go_upto_region 21 with fail
                clear hcv
                have HBB := Lib.hid (bytesBlk_of w1 5 s)
                have hbV := bytesWorld_below w1 5 s
                have HOV := Lib.hid (own_below HOW.out hbV)
                have HBV := Lib.hid (HBW.out.trans (hbV.mono HBW.out.size))
                have hBg : g1 < w1.heap.size := hg2
                have hWB : wr.heap.size ≤ w1.heap.size := HBW.out.size
                clear hbV HOW hc1 hf1 HBW
                generalize Lib.bytesWorld w1 5 s = V at *
                generalize grownCap w1 64 0 5 = cp at *
                generalize w1.heap.size = B at *
                obtain ⟨hb256, hcell, hfr⟩ := HBB.out (x / 8 % 64) (by rw [bytesOf_length, hs64]; omega)
                have hp8 : 2 ^ (x % 8) < 256 := by show 2 ^ (x % 8) < 2 ^ 8; exact Nat.pow_lt_pow_right (by decide) (by omega)
                have hv256 : (bytesOf s).getD (x / 8 % 64) 0 ^^^ 2 ^ (x % 8) < 256 := Nat.xor_lt_two_pow (n := 8) hb256 hp8
                have hbx : bits .xor .u8 (((bytesOf s).getD (x / 8 % 64) 0 : Nat) : Int) (2 ^ (x % 8) % 256) = (((bytesOf s).getD (x / 8 % 64) 0 ^^^ 2 ^ (x % 8) : Nat) : Int) := by
                  rw [show ((2 : Int) ^ (x % 8) % 256) = ((2 ^ (x % 8) : Nat) : Int) by rw [Int.natCast_pow]; show (2 : Int) ^ (x % 8) % 256 = 2 ^ (x % 8); rw [Int.emod_eq_of_lt]; exact Int.pow_nonneg (by decide); have := hp8; rw [show (2 : Int) ^ (x % 8) = ((2 ^ (x % 8) : Nat) : Int) from (Int.natCast_pow 2 (x % 8)).symm]; omega]
                  exact bits_xor_u8 hb256 hp8
                have HN := Lib.hid (HBB.out.next (k := x / 8 % 64) hv256)
                have HTU : Hid (turnK l x = l.set (x / 8 / 64) (strOf8 ((bytesOf s).set (x / 8 % 64) ((bytesOf s).getD (x / 8 % 64) 0 ^^^ 2 ^ (x % 8))))) := by rw [Hid, turnK, HSE.out, turnB]
                have hlen64 : ((bytesOf s).set (x / 8 % 64) ((bytesOf s).getD (x / 8 % 64) 0 ^^^ 2 ^ (x % 8))).length = 64 := by rw [List.length_set, bytesOf_length, hs64]
                clear hp8 hv256
                generalize hvv : (bytesOf s).getD (x / 8 % 64) 0 ^^^ 2 ^ (x % 8) = v at *
                generalize hcc : (bytesOf s).getD (x / 8 % 64) 0 = c at *
                clear hvv hcc
                have hcv2 := convert_bytes (P := Tryd.prog) (w := (V.setCell ⟨B, x / 8 % 64, none⟩ (.int .u8 (v : Int))).drew) (b := B) (off := 0) (cap := cp) Tryd.underlying37 Tryd.underlying5 Tryd.underlying9 (HN.out.drew.cells)
                rw [hlen64] at hcv2
                generalize strOf8 ((bytesOf s).set (x / 8 % 64) v) = r2 at *
                have j0 : (0 : Int) ≤ (x : Int) / 8 % 64 := by omega
                have j1 : (x : Int) / 8 % 64 < 64 := by omega
                have HOD : Hid ((V.setCell ⟨B, x / 8 % 64, none⟩ (.int .u8 (v : Int))).drew.ownsRow wr.heap.size 9 1 (.slice (some ⟨g1, 0, none⟩) l.length c1) l.length (l.map Value.string)) := own_farS HOV.out (by omega)
                have HBD := Lib.hid ((HBV.out.setCell (p := ⟨B, x / 8 % 64, none⟩) hWB (.int .u8 (v : Int))).drew)
                clear hlen64 hb256
                go_region
                clear hcell hfr hbx j0 j1
                generalize (V.setCell ⟨B, x / 8 % 64, none⟩ (.int .u8 (v : Int))).drew = W2 at *
                obtain ⟨g2, c2, hge, _, hg3, hcells2⟩ := own_at HOD.out rfl (by omega)
                injection hge with hge1 _ hge2
                injection hge1 with hge1
                injection hge1 with hge1
                subst hge1 hge2
                obtain ⟨hc2, hf2⟩ := hcells2 _ hjl
                have hOZ := own_setS (k := x / 8 / 64) (u := .string r2) HOD.out
                have hBZ := HBD.out.setCell (p := ⟨g1, x / 8 / 64, none⟩) hg1 (.string r2)
                clear hcells2
                go_upto_region 23 with fail
                clear hc2 hf2 hcv2
                generalize W2.setCell ⟨g1, x / 8 / 64, none⟩ (.string r2) = wz at *
                have HOZ : Hid (OwnS wz (.slice (some ⟨g1, 0, none⟩) l.length c1) (turnK l x)) := ⟨wr.heap.size, by rw [HTU.out, List.length_set, List.map_set]; exact hOZ⟩
                have HBZ := Lib.hid hBZ
                clear hOZ hBZ HBB HN HOV HBV HOD HBD HSE HTU hBg hWB hg1 hg2 hg3 i0 i1
                have HJ2 : Hid ((joinB (turnK l x)).length ≤ 10000000) := by rw [Hid, turnK_join HSZ.out (by omega)]; omega
                have HSZ2 : Hid (Strs6 wz (.slice (some ⟨g1, 0, none⟩) l.length c1) (turnK l x)) := HOZ.out.strs
                obtain ⟨p0, p1, s0, s1, s2, s3⟩ := HLD8.out _ (HWX.out.trans (HBZ.out.mono HWX.out.size))
                clear HOZ
                go_wp2_with fail
                refine (taken_any (.slice (some ⟨g1, 0, none⟩) l.length c1) (turnK l x) (a : Int) (b : Int) (d : Int) tx wz HSZ2.out (by rw [turnK_len]; omega) HJ2.out).mono ?_
                rintro e w9 ⟨rfl, hb9⟩
                have HWR9 := Lib.hid (HWX.out.trans ((HBZ.out.trans (hb9.mono HBZ.out.size)).mono HWX.out.size))
                have wx1 : IntKind.i64.wrap ((x : Int) + 1) = (x : Int) + 1 := IntWalk.i64_in _ (by omega)
                have wx2 : IntKind.i64.wrap ((l.length : Int) * 4) = (l.length : Int) * 4 := IntWalk.i64_in _ (by omega)
                have wx3 : IntKind.i64.wrap ((x : Int) + 1 + (l.length : Int) * 4) = ((x + 1 + l.length * 4 : Nat) : Int) := by rw [IntWalk.i64_in _ (by omega)]; omega
                clear hb9 p0 p1 s0 s1 s2 s3 HSZ2 HBZ HJ2
                go_wp2_with fail
                go_roundw
                case rel => exact ⟨x + 1 + l.length * 4, rfl, by omega, HWR9⟩
                case measure => simp [intOf]; omega
              · have d1 : decide ((x : Int) < (l.length : Int) * 64 * 8) = false := decide_eq_false (by omega)
                have HWF := Lib.hid (HC8.out.trans (HWX.out.mono HC8.out.size))
                have HWG := Lib.hid (HWR.out.trans (HWF.out.mono HWR.out.size))
                have hi1 : i + 1 ≤ 6 := by omega
                have HI1 := Lib.hid hi1
                clear hi1
                go_wp2_with fail
                all_goals first
                  | (exfalso; omega)
                  | (go_roundw
                     case rel => exact ⟨i + 1, by go_num, HI1.out, HWG⟩
                     case measure => simp [intOf]; omega)
      · have HWF := Lib.hid (HBE.out.trans (HWR.out.mono HBE.out.size))
        obtain ⟨p0, p1⟩ := HX.out _ HWR.out
        by_cases hlt : i < S.length
        · have d1 : decide ((i : Int) < (S.length : Int)) = true := decide_eq_true (by omega)
          have d2 : decide ((i : Int) < 6) = false := decide_eq_false (by omega)
          have j1 : (i : Int) < (S.length : Int) := by omega
          clear HSS hgo hi2
          go_wp2_with fail
          clear d1
          obtain ⟨wy, rfl⟩ : ∃ x : World, x = wr := ⟨_, rfl⟩
          go_loopw [11] (fun nv wr => ∃ z : Int, nv = .int .i64 z ∧ -1 ≤ z ∧ z ≤ 122 ∧ Hid (Below w.heap.size w wr)) (fun nv _ => (122 - intOf nv).toNat)
          case atStart => exact ⟨-1, rfl, by omega, by omega, HWF⟩
          case round =>
            obtain ⟨z, rfl, hz0, hz1, HWZ⟩ := hrel
            by_cases hz : z ≤ 121
            · have e1 : decide (z ≤ 121) = true := decide_eq_true hz
              have wz : IntKind.i64.wrap (z + 1) = z + 1 := IntWalk.i64_in _ (by omega)
              by_cases hin : 1 ≤ z ∧ z ≤ 120
              · obtain ⟨n, rfl⟩ := Int.eq_ofNat_of_zero_le (a := z) (by omega)
                have HBT : Hid (decide ((1 : Int) ≤ (n : Int) ∧ (n : Int) ≤ 120) = true) := decide_eq_true hin
                have hn1 : 1 ≤ n := by omega
                have hn2 : n ≤ 120 := by omega
                clear hin
                go_wp2_with fail
                refine (count_yes n _ (by omega) (by omega)).mono ?_
                rintro e w' ⟨rfl, rfl⟩
                go_wp2_with fail
                refine (refBetween_any (n : Int) 1 120 _).mono ?_
                rintro e w' ⟨rfl, rfl⟩
                rw [HBT.out]
                go_wp2_with fail
                refine (refSectors_any n _ (by omega)).mono ?_
                rintro e w' ⟨rfl, rfl⟩
                go_wp2_with (first | (go_at_call 7; refine (num12_any _ _).mono ?_; rintro e wn ⟨rfl, rfl⟩))
                go_roundw
                case rel => exact ⟨(n : Int) + 1, rfl, by omega, by omega, HWZ⟩
                case measure => simp [intOf]; omega
              · have HBT : Hid (decide ((1 : Int) ≤ z ∧ z ≤ 120) = false) := decide_eq_false hin
                have hzo : z < 1 ∨ 120 < z := by omega
                have HZO := Lib.hid hzo
                clear hin hzo
                go_wp2_with fail
                refine (count_no z _ HZO.out).mono ?_
                rintro e w' ⟨rfl, rfl⟩
                go_wp2_with fail
                refine (refBetween_any z 1 120 _).mono ?_
                rintro e w' ⟨rfl, rfl⟩
                rw [HBT.out]
                go_wp2_with (first | (go_at_call 7; refine (num12_any _ _).mono ?_; rintro e wn ⟨rfl, rfl⟩))
                go_roundw
                case rel => exact ⟨z + 1, rfl, by omega, by omega, HWZ⟩
                case measure => simp [intOf]; omega
            · obtain rfl : z = 122 := by omega
              have e1 : decide ((122 : Int) ≤ 121) = false := by decide
              clear hz hz0 hz1
              go_wp2_with fail
              refine (taken_any (.slice none 0 0) [] 0 0 0 ⟨#[]⟩ wr (RowIs.nil _ _ _ _) (by simp) (by rw [joinB_nil]; simp)).mono ?_
              rintro e wa ⟨rfl, hba⟩
              have HWA := Lib.hid (HWZ.out.trans (hba.mono HWZ.out.size))
              clear hba e1
              have hmk := hmk_64
              obtain ⟨zz, hzz⟩ : ∃ zz, strOf8 z64 = zz := ⟨_, rfl⟩
              have hcv := convert_bytes (P := Tryd.prog) (w := wa.alloc (.cells (cellsOf8 z64) 5)) (b := wa.heap.size) (off := 0) (cap := 64) (ns := z64) Tryd.underlying37 Tryd.underlying5 Tryd.underlying9 (cells8_cell (heap_alloc_new wa _))
              rw [z64_len, hzz] at hcv
              have hbz := (Below.refl wa.heap.size wa).alloc (Nat.le_refl _) (.cells (cellsOf8 z64) 5)
              have hbz2 := hbz.alloc (by simp) (.cells #[.string zz] 9)
              have HBZ := Lib.hid (HWA.out.trans (hbz2.mono HWA.out.size))
              have HZS : Hid ((joinB [zz]).length ≤ 10000000) := by rw [Hid, joinB_cons, joinB_nil, List.append_nil, bytesOf_length, ← hzz, strOf8_size, z64_len]; omega
              have HLR : Hid (Strs6 ((wa.alloc (.cells (cellsOf8 z64) 5)).alloc (.cells #[.string zz] 9)) (.slice (some ⟨wa.heap.size + 1, 0, none⟩) 1 1) [zz]) := by
                have h := lit_row (wa.alloc (.cells (cellsOf8 z64) 5)) #[.string zz] 9 1 1 1 rfl
                rw [World.size_alloc] at h
                exact h
              clear hbz hbz2 hzz
              go_wp2_with fail
              refine (taken_any _ [zz] 0 0 0 ⟨#[]⟩ _ HLR.out (by simp) HZS.out).mono ?_
              rintro e wb ⟨rfl, hbb⟩
              have HWB := Lib.hid (HBZ.out.trans (hbb.mono HBZ.out.size))
              clear hbb hcv hmk HLR HBZ
              go_wp2_with fail
              refine (wakes12_any wb).mono ?_
              rintro e wd ⟨rfl, hbd⟩
              have HWD := Lib.hid (HWB.out.trans (hbd.mono HWB.out.size))
              clear hbd
              go_wp2_with fail
              go_ret
              exact ⟨rfl, HWD.out⟩
        · have d1 : decide ((i : Int) < (S.length : Int)) = false := decide_eq_false (by omega)
          clear HSS hgo hi2
          go_wp2_with fail
          clear d1
          obtain ⟨wy, rfl⟩ : ∃ x : World, x = wr := ⟨_, rfl⟩
          go_loopw [11] (fun nv wr => ∃ z : Int, nv = .int .i64 z ∧ -1 ≤ z ∧ z ≤ 122 ∧ Hid (Below w.heap.size w wr)) (fun nv _ => (122 - intOf nv).toNat)
          case atStart => exact ⟨-1, rfl, by omega, by omega, HWF⟩
          case round =>
            obtain ⟨z, rfl, hz0, hz1, HWZ⟩ := hrel
            by_cases hz : z ≤ 121
            · have e1 : decide (z ≤ 121) = true := decide_eq_true hz
              have wz : IntKind.i64.wrap (z + 1) = z + 1 := IntWalk.i64_in _ (by omega)
              by_cases hin : 1 ≤ z ∧ z ≤ 120
              · obtain ⟨n, rfl⟩ := Int.eq_ofNat_of_zero_le (a := z) (by omega)
                have HBT : Hid (decide ((1 : Int) ≤ (n : Int) ∧ (n : Int) ≤ 120) = true) := decide_eq_true hin
                have hn1 : 1 ≤ n := by omega
                have hn2 : n ≤ 120 := by omega
                clear hin
                go_wp2_with fail
                refine (count_yes n _ (by omega) (by omega)).mono ?_
                rintro e w' ⟨rfl, rfl⟩
                go_wp2_with fail
                refine (refBetween_any (n : Int) 1 120 _).mono ?_
                rintro e w' ⟨rfl, rfl⟩
                rw [HBT.out]
                go_wp2_with fail
                refine (refSectors_any n _ (by omega)).mono ?_
                rintro e w' ⟨rfl, rfl⟩
                go_wp2_with (first | (go_at_call 7; refine (num12_any _ _).mono ?_; rintro e wn ⟨rfl, rfl⟩))
                go_roundw
                case rel => exact ⟨(n : Int) + 1, rfl, by omega, by omega, HWZ⟩
                case measure => simp [intOf]; omega
              · have HBT : Hid (decide ((1 : Int) ≤ z ∧ z ≤ 120) = false) := decide_eq_false hin
                have hzo : z < 1 ∨ 120 < z := by omega
                have HZO := Lib.hid hzo
                clear hin hzo
                go_wp2_with fail
                refine (count_no z _ HZO.out).mono ?_
                rintro e w' ⟨rfl, rfl⟩
                go_wp2_with fail
                refine (refBetween_any z 1 120 _).mono ?_
                rintro e w' ⟨rfl, rfl⟩
                rw [HBT.out]
                go_wp2_with (first | (go_at_call 7; refine (num12_any _ _).mono ?_; rintro e wn ⟨rfl, rfl⟩))
                go_roundw
                case rel => exact ⟨z + 1, rfl, by omega, by omega, HWZ⟩
                case measure => simp [intOf]; omega
            · obtain rfl : z = 122 := by omega
              have e1 : decide ((122 : Int) ≤ 121) = false := by decide
              clear hz hz0 hz1
              go_wp2_with fail
              refine (taken_any (.slice none 0 0) [] 0 0 0 ⟨#[]⟩ wr (RowIs.nil _ _ _ _) (by simp) (by rw [joinB_nil]; simp)).mono ?_
              rintro e wa ⟨rfl, hba⟩
              have HWA := Lib.hid (HWZ.out.trans (hba.mono HWZ.out.size))
              clear hba e1
              have hmk := hmk_64
              obtain ⟨zz, hzz⟩ : ∃ zz, strOf8 z64 = zz := ⟨_, rfl⟩
              have hcv := convert_bytes (P := Tryd.prog) (w := wa.alloc (.cells (cellsOf8 z64) 5)) (b := wa.heap.size) (off := 0) (cap := 64) (ns := z64) Tryd.underlying37 Tryd.underlying5 Tryd.underlying9 (cells8_cell (heap_alloc_new wa _))
              rw [z64_len, hzz] at hcv
              have hbz := (Below.refl wa.heap.size wa).alloc (Nat.le_refl _) (.cells (cellsOf8 z64) 5)
              have hbz2 := hbz.alloc (by simp) (.cells #[.string zz] 9)
              have HBZ := Lib.hid (HWA.out.trans (hbz2.mono HWA.out.size))
              have HZS : Hid ((joinB [zz]).length ≤ 10000000) := by rw [Hid, joinB_cons, joinB_nil, List.append_nil, bytesOf_length, ← hzz, strOf8_size, z64_len]; omega
              have HLR : Hid (Strs6 ((wa.alloc (.cells (cellsOf8 z64) 5)).alloc (.cells #[.string zz] 9)) (.slice (some ⟨wa.heap.size + 1, 0, none⟩) 1 1) [zz]) := by
                have h := lit_row (wa.alloc (.cells (cellsOf8 z64) 5)) #[.string zz] 9 1 1 1 rfl
                rw [World.size_alloc] at h
                exact h
              clear hbz hbz2 hzz
              go_wp2_with fail
              refine (taken_any _ [zz] 0 0 0 ⟨#[]⟩ _ HLR.out (by simp) HZS.out).mono ?_
              rintro e wb ⟨rfl, hbb⟩
              have HWB := Lib.hid (HBZ.out.trans (hbb.mono HBZ.out.size))
              clear hbb hcv hmk HLR HBZ
              go_wp2_with fail
              refine (wakes12_any wb).mono ?_
              rintro e wd ⟨rfl, hbd⟩
              have HWD := Lib.hid (HWB.out.trans (hbd.mono HWB.out.size))
              clear hbd
              go_wp2_with fail
              go_ret
              exact ⟨rfl, HWD.out⟩
end Go.Proofs.YtiminahobifomaaDoor
