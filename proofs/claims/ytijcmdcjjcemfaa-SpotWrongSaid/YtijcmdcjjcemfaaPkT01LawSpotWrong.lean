/- siloref4.Rebuild, walked. -/
import Derived.Test.YtijcmdcjjcemfaaPkA20
import Derived.Test.YtijcmdcjjcemfaaPkA14
import Derived.OrdersHeld
import Derived.Deep.RegionHeld
import Derived.Deep.RegionHeld3
import Derived.Deep.CutBlock
namespace Go.Proofs.Ytijcmdcjjcemfaa
open Go.ChangeShapes Go.WideShapes Go.ChangeAt Go.RowKit Go.Joins
set_option linter.unusedVariables false
set_option linter.unusedSimpArgs false

set_option maxRecDepth 100000 in
set_option maxHeartbeats 8000000 in
theorem refRebuild_any (K M Z : Nat) (vl vb : Value) (l : List ByteArray) (bs : List Bool) (w : World) (k1 : 1 ≤ K) (k8 : K ≤ 8) (m6 : M ≤ 6) (z1 : 1 ≤ Z) (z2 : Z ≤ 120) (hl : Strs6 w vl l) (hb : BoolsIn w vb bs)
    (hll : l.length = K + M) (hbl : bs.length = K + M) (hsz : ∀ i, bs.getD i false = true → (l.getD i ByteArray.empty).size = Z) :
    Calls Try.prog 46 #[.agg #[.int .i64 (K : Int), .int .i64 (M : Int), .int .i64 (Z : Int)], vl, vb] w fun e w' =>
      ∃ r, e = .returned (.tuple #[r, .bool (!decide ((haveN bs K (K + M)).length < K))]) ∧ w'.ownsRow w.heap.size 9 1 r (rebL (K + M) K Z bs l).length ((rebL (K + M) K Z bs l).map Value.string) ∧ Below w.heap.size w w' := by
  obtain ⟨i0, hi, hz0, hz1, hz2⟩ := info_parts infoI64
  obtain ⟨j0, hj, hy0, hy1, hy2⟩ := info_parts infoStr6
  obtain ⟨n, hn⟩ : ∃ n, n = K + M := ⟨_, rfl⟩
  rw [← hn] at hll hbl ⊢
  have hKn : K ≤ n := by omega
  have hn14 : n ≤ 14 := by omega
  have HNN := Lib.hid hn
  obtain ⟨A, cl, rfl⟩ := hl.shape
  obtain ⟨pb, cb, rfl, hbs⟩ := hb
  obtain ⟨o, ho⟩ : ∃ o, o = (Obj.cells #[.int .i64 (K : Int), .int .i64 (M : Int), .int .i64 (Z : Int)] 29) := ⟨_, rfl⟩
  have tA := Three.new w (.int .i64 (K : Int)) (.int .i64 (M : Int)) (.int .i64 (Z : Int)) 29
  have hbe := (Below.refl w.heap.size w).alloc (Nat.le_refl _) (.cells #[.int .i64 (K : Int), .int .i64 (M : Int), .int .i64 (Z : Int)] 29)
  rw [← ho] at tA hbe
  have HB1 := Lib.hid hbe
  have HT1 := Lib.hid tA
  have HL1 := Lib.hid (hl.below hbe)
  have HBS1 := Lib.hid (hbs.below hbe)
  have HSZ := Lib.hid hsz
  have HLL := Lib.hid hll
  have HBL := Lib.hid hbl
  rw [hll, hbl]
  clear tA hbe hl hbs hsz hll hbl hn
  go_enter Try.func46, Try.ntmps46
  go_upto_block 0 with fail
  rw [← ho]
  clear ho
  generalize w.alloc o = W0 at *
  go_wp2_with fail
  go_loopw [8, 9, 10] (fun hv gv ii wr => ∃ (i : Nat) (Hl : List Int) (hw gw : Value), hw = hv ∧ gw = gv ∧ ii = .int .i64 i ∧ i ≤ n ∧ Hid (Hl = haveN bs K i) ∧ Hid (wr.ownsRow W0.heap.size 3 1 hw Hl.length (i64s Hl)) ∧ Hid (wr.ownsRow W0.heap.size 9 1 gw Hl.length ((givenL Hl l).map Value.string)) ∧ Hid (Below W0.heap.size W0 wr)) (fun _ _ ii _ => n - (intOf ii).toNat)
  case atStart => exact ⟨0, [], _, _, rfl, rfl, rfl, by omega, rfl, World.ownsRow_nil _ _ _ _, World.ownsRow_nil _ _ _ _, Lib.hid (Below.refl _ _)⟩
  case round =>
    obtain ⟨i, Hl, hw, gw, rfl, rfl, rfl, hin, HHN, hov, hog, HBr⟩ := hrel
    have hHK : Hl.length ≤ K := by rw [HHN.out]; exact haveN_le bs K i
    obtain ⟨Ah, ch, rfl⟩ := own_shape hov.out
    obtain ⟨Ag, cg, rfl⟩ := own_shape hog.out
    have T1r := Lib.hid (HT1.out.below HBr.out)
    obtain ⟨x0, x1, x2, _, _, _⟩ := T1r.out
    by_cases hlt : i < n
    · have hid1 : decide ((i : Int) < (n : Int)) = true := by simp; omega
      by_cases hK : Hl.length < K
      · have hd : decide ((Hl.length : Int) < (K : Int)) = true := by simp; omega
        have q0 : (0 : Int) ≤ (i : Int) := by omega
        have q1 : (i : Int) < (n : Int) := by omega
        obtain ⟨bb, ob, hpb, hbb, hbcell0⟩ := HBS1.out.2 i (by rw [HBL.out]; exact hlt)
        subst hpb
        dsimp only at hbcell0
        have hbcell := below_celllt hbcell0 hbb HBr.out
        obtain ⟨b', off, hA, hb'l, hcell0⟩ := HL1.out.at_ (k := i) (by rw [HLL.out]; exact hlt)
        subst hA
        have HS : Hid (l.getD i ByteArray.empty = l[i]'(by rw [HLL.out]; exact hlt)) := by
          rw [Hid, ← List.getElem_eq_getD (h := by rw [HLL.out]; exact hlt)]
        generalize l[i]'(by rw [HLL.out]; exact hlt) = s at *
        generalize hbi : bs.getD i false = bi at *
        have HBI := Lib.hid hbi
        have HLW : Hid (∀ W', Below W0.heap.size W0 W' → W'.cell? ⟨b', off + i, none⟩ = some (.string s)) := fun W' h => below_celllt hcell0 hb'l h
        clear hcell0 hbcell0 hbi
        cases bi
        · have HHN' : Hid (Hl = haveN bs K (i + 1)) := by rw [Hid, haveN_no HBI.out]; exact HHN.out
          go_wp2_with fail
          go_roundw
          case rel => exact ⟨i + 1, Hl, _, _, rfl, rfl, by go_num, by omega, HHN', hov, hog, HBr⟩
          case measure => simp [intOf]; omega
        · have HHN' : Hid (Hl ++ [(i : Int)] = haveN bs K (i + 1)) := by
            have h := HHN.out
            rw [Hid, haveN_yes HBI.out (by rw [← h]; exact hK), ← h]
          have hwr := HBr.out.size
          go_wp2_with (first | (at_builtin; refine wpList_append_own _ rfl _ _ 34 rfl W0.heap.size 3 i0 (.int .i64 0) 1 8 Try.underlying34 hi hz0 hz1 hz2 rfl (by decide) _ _ _ rfl (hov.out.alloc _) ⟨wr.heap.size, 0, none⟩ 1 1 [.int .i64 (i : Int)] rfl rfl ?c1 ?c2 ?c3 ?c4 ?c5 ?_) | go_in)
          case c1 => exact cell_one_new' _ _ _
          case c2 => intro u hu; simp at hu; subst hu; rfl
          case c3 => unfold maxLen; omega
          case c4 => omega
          case c5 => simp; omega
          all_goals
            intro v' w1 hov' hgrow _
            have hbg := app_belowB (B := W0.heap.size) hwr hov.out hgrow
            have hog1 := (hog.out.alloc _).kept hgrow (own_apart (by decide) hog.out hov.out)
            have HOV := Lib.hid hov'
            have HB2 := Lib.hid (HBr.out.trans hbg)
            have hw1 := HB2.out.size
            have hlc := HLW.out _ HB2.out
            clear hov' hgrow hbg x0 x1 x2 hbcell
            go_wp2_with (first | (at_builtin; refine wpList_append_own _ rfl _ _ 23 rfl W0.heap.size 9 j0 (.string ByteArray.empty) 1 16 Try.underlying23 hj hy0 hy1 hy2 rfl (by decide) _ _ _ rfl (hog1.alloc _) ⟨w1.heap.size, 0, none⟩ 1 1 [.string s] rfl rfl ?c1 ?c2 ?c3 ?c4 ?c5 ?_) | go_in)
            case c1 => exact cell_one_new' _ _ _
            case c2 => intro u hu; simp at hu; subst hu; rfl
            case c3 => unfold maxLen; omega
            case c4 => omega
            case c5 => simp; omega
            all_goals
              intro v2 w2 hog' hgrow2 _
              have hbg2 := app_belowB (B := W0.heap.size) hw1 hog1 hgrow2
              have hov2 := (HOV.out.alloc _).kept hgrow2 (own_apart (by decide) HOV.out hog1)
              have HB3 := Lib.hid (HB2.out.trans hbg2)
              clear hgrow2 hbg2 hlc
              go_wp2_with fail
              go_roundw
              case rel => exact ⟨i + 1, Hl ++ [(i : Int)], _, _, rfl, rfl, by go_num, by omega, HHN', by rw [List.length_append, i64s_snoc]; exact Lib.hid hov2, by rw [List.length_append, givenL_snoc, List.map_append, HS.out]; exact Lib.hid hog', HB3⟩
              case measure => simp [intOf]; omega
      · have HHn : Hid (Hl = haveN bs K n) := by
          have h := HHN.out
          have e : n = i + (n - i) := by omega
          rw [Hid, e, haveN_full (by rw [← h]; omega)]
          exact h
        clear HHN
        have HBw := Lib.hid (HB1.out.trans (HBr.out.mono HB1.out.size))
        have hd : decide ((Hl.length : Int) < (K : Int)) = false := by simp; omega
        have hKK : Hl.length = K := by omega
        have HKK := Lib.hid hKK
        have HE : Hid ((!decide ((haveN bs K n).length < K)) = true) := by rw [Hid, ← HHn.out, decide_eq_false hK]; rfl
        have hfull : (haveN bs K n).length = K := by rw [← HHn.out]; exact hKK
        have HR : Hid (rebL n K Z bs l = applyL (genL n K) (applyL (overL n K Hl) (givenL Hl l) K K Z) n K Z) := by rw [Hid, rebL_yes hfull, ← HHn.out]
        have HOK : Hid (RowsOk n K Hl) := by
          have h := haveN_ok hfull
          rw [← HHn.out] at h
          exact h
        have HGZ : Hid (∀ s ∈ givenL Hl l, s.size = Z) := by rw [HHn.out]; exact givenL_size HSZ.out
        have hnum := numsIn_own hov.out (fun z hz => by have := HOK.out.lt z hz; omega) (by omega)
        have hsg : Strs6 wr (.slice Ag Hl.length cg) (givenL Hl l) := by
          have h := RowIs.of_own hog.out
          show RowIs _ _ (givenL Hl l).length 1 _
          rw [givenL_len]
          exact h
        rw [hKK] at hnum hsg ⊢
        have HNU := Lib.hid hnum
        have HSG := Lib.hid hsg
        obtain ⟨nk, hnk⟩ : ∃ nk, nk = n * K := ⟨_, rfl⟩
        have hle : nk ≤ 14 * 8 := by rw [hnk]; exact Nat.mul_le_mul hn14 k8
        have HNK := Lib.hid hnk
        obtain ⟨kk, hkk⟩ : ∃ q, q = K * K := ⟨_, rfl⟩
        have hq64 : kk ≤ 8 * 8 := by rw [hkk]; exact Nat.mul_le_mul k8 k8
        have HKQ := Lib.hid hkk
        have HPL : Hid ((pickL (genL n K) K Hl).length = kk) := by rw [Hid, rowL_length (HOK.out.fits (genL_len n K)), hKK, hkk]
        have HGL : Hid ((genL n K).length = nk) := by rw [Hid, genL_len, hnk]
        have HIL : Hid ((overL n K Hl).length = kk) := by rw [Hid, overL_len, hkk]
        clear hKK hnum hsg hnk hkk hov hog hfull
        go_wp2_with fail
        refine (refGen_any K M (Z : Int) wr k1 k8 m6).mono ?_
        rintro e V1 ⟨vr, rfl, hmr, hb1⟩
        obtain ⟨B4, h41, h42, rfl, hbk4, hl4⟩ := hmr
        rw [← HNN.out] at hbk4
        rw [← HNN.out, ← HNK.out]
        have hbv4 := BytesV.of_blk (c := nk) hbk4 h42
        rw [HGL.out] at hbv4
        have HV4 := Lib.hid hbv4
        have HNUa := Lib.hid (numsIn_belowP HNU.out hb1)
        have HSGa := Lib.hid (HSG.out.below hb1)
        have HBa := Lib.hid (HBw.out.trans (hb1.mono HBw.out.size))
        have T1a := Lib.hid (T1r.out.below hb1)
        clear hb1 hbv4 hbk4 hl4 h41 h42 x0 x1 x2
        unfold matV
        go_wp2_with fail
        have HC := refPick_any n K B4 0 nk (genL n K) (.slice Ah K ch) Hl V1 (by rw [HGL.out]; exact HV4.out) HNUa.out (genL_len n K) (by omega) (by omega) k1 (by omega) (by rw [HGL.out]; exact Nat.le_refl _) (by omega) (by rw [HKK.out]; exact k1) (by rw [HKK.out]; omega) HOK.out.lt
        rw [HKK.out, HGL.out] at HC
        unfold matV at HC
        with_reducible refine HC.mono ?_
        rintro e V2 ⟨rt, rfl, hot, hb2⟩
        obtain ⟨Xt, hXt, _⟩ := own_of_row (ns := pickL (genL n K) K Hl) (by rw [HPL.out, HKQ.out]; exact hot) (pick_all' (genL_lt n K))
        have HPt := Lib.hid hXt.1
        have HSGb := Lib.hid (HSGa.out.below hb2)
        have HBb := Lib.hid (HBa.out.trans (hb2.mono HBa.out.size))
        have T1b := Lib.hid (T1a.out.below hb2)
        clear HC hot hXt hb2
        go_wp2_with fail
        have HC := refInvert_any K rt (pickL (genL n K) K Hl) V2 HPt.out (by rw [HPL.out, HKQ.out]) k1 (by omega)
        unfold matV at HC
        with_reducible refine HC.mono ?_
        rintro e V3 ⟨vi, rfl, hvi0, hb3⟩
        have hvi : BytesV V3 vi (overL n K Hl) := hvi0
        clear hvi0
        obtain ⟨Ai, ki, rfl⟩ := hvi.shape
        rw [HIL.out] at hvi
        rw [HIL.out]
        obtain ⟨o11, ho11⟩ : ∃ o, o = (Obj.cells #[.int .i64 (K : Int), .int .i64 (K : Int), .slice Ai kk ki] 55) := ⟨_, rfl⟩
        have t11 := Three.new V3 (.int .i64 (K : Int)) (.int .i64 (K : Int)) (.slice Ai kk ki) 55
        rw [← ho11] at t11
        have hal := (Below.refl V3.heap.size V3).alloc (Nat.le_refl _) o11
        have hba := cum2 hb3 hal
        have HSGc := Lib.hid (HSGb.out.below hba)
        have HBc := Lib.hid (HBb.out.trans (hba.mono HBb.out.size))
        have T1c := Lib.hid (T1b.out.below hba)
        have HIc := Lib.hid (hvi.below hal)
        have HT11 := Lib.hid t11
        obtain ⟨z0, z1, z2, _, _, _⟩ := t11
        rw [ho11] at z0 z1 z2
        clear hal hba hb3 hvi HC
        go_upto_region 12 with fail
        rw [← ho11]
        clear z0 z1 z2 ho11
        generalize V3.alloc o11 = W11 at *
        generalize V3.heap.size = b11 at *
        refine wp_region_held (S := fun W' => Below W11.heap.size W11 W') (by kernel_rfl) ?_
        change wpAnyH _ _ _ _ _ 7 _ _ W11.drew
        have hcum := (Below.refl W11.heap.size W11).drew
        generalize W11.drew = V0 at *
        refine wpAnyH_take (i := 0) (oi := { dst := some 54, op := Op.load 29 (Operand.tmp 3), type := 29, pos := "siloref4.go:58", after := #[], guard := none }) (v := ?_) rfl (by kernel_rfl) (by kernel_rfl) (by kernel_rfl) (fun _ _ _ h => h) (Or.inl ⟨by rfl, fun W' hW' => ?_⟩) hcum ?_
        rotate_left 1
        · (obtain ⟨x0, x1, x2, _, _, _⟩ := T1c.out.below hW'; obtain ⟨z0, z1, z2, _, _, _⟩ := HT11.out.below hW'; go_simp)
          try rfl
        try simp only [Act.put, List.setIfInBounds_toArray, List.set_cons_zero, List.set_cons_succ]
        refine wpAnyH_take (i := 1) (oi := { dst := some 55, op := Op.load 55 (Operand.tmp 11), type := 55, pos := "siloref4.go:58", after := #[], guard := none }) (v := ?_) rfl (by kernel_rfl) (by kernel_rfl) (by kernel_rfl) (fun _ _ _ h => h) (Or.inl ⟨by rfl, fun W' hW' => ?_⟩) hcum ?_
        rotate_left 1
        · (obtain ⟨x0, x1, x2, _, _, _⟩ := T1c.out.below hW'; obtain ⟨z0, z1, z2, _, _, _⟩ := HT11.out.below hW'; go_simp)
          try rfl
        try simp only [Act.put, List.setIfInBounds_toArray, List.set_cons_zero, List.set_cons_succ]
        refine wpAnyH_take (i := 2) (oi := { dst := some 56, op := Op.move (Operand.tmp 9), type := 23, pos := "siloref4.go:58", after := #[], guard := none }) (v := ?_) rfl (by kernel_rfl) (by kernel_rfl) (by kernel_rfl) (fun _ _ _ h => h) (Or.inl ⟨by rfl, fun W' hW' => ?_⟩) hcum ?_
        rotate_left 1
        · go_simp
          try rfl
        try simp only [Act.put, List.setIfInBounds_toArray, List.set_cons_zero, List.set_cons_succ]
        refine wpAnyH_ready (rs := [3]) (by kernel_rfl) (by simp) ?_
        refine AllReadyH.cons (o := { dst := some 57, op := Op.call { callee := Callee.value (Operand.func 23), args := #[Operand.tmp 55, Operand.tmp 56], argTypes := #[55, 23] }, type := 23, pos := "siloref4.go:58", after := #[{ on := 1, ground := Ground.data }, { on := 2, ground := Ground.data }], guard := none }) rfl (fun KK hK => ?_) AllReadyH.nil
        rw [if_pos (by rfl)]
        go_simp
        have HC := refApply_any K K Z (.slice Ai kk ki) (.slice Ag K cg) (overL n K Hl) (givenL Hl l) V0 (HIc.out.below hcum) (HSGc.out.below hcum) (overL_len n K Hl) (by rw [givenL_len]; exact HKK.out) HGZ.out (by omega) k1 (by omega) k1 (by omega)
        unfold matV at HC
        with_reducible refine HC.mono ?_
        rintro e V1 ⟨ra, rfl, hoa, hbe⟩
        obtain ⟨Aa, ca, rfl⟩ := own_shape hoa
        clear HC
        have hcum := hcum.trans (hbe.mono hcum.size)
        refine hK.out _ _ hcum (fun _ => ?_)
        clear hK hbe
        try simp only [Act.put, List.setIfInBounds_toArray, List.set_cons_zero, List.set_cons_succ]
        refine wpAnyH_ready (rs := [4]) (by kernel_rfl) (by simp) ?_
        refine AllReadyH.cons (o := { dst := some 58, op := Op.call { callee := Callee.value (Operand.func 8), args := #[Operand.tmp 54, Operand.tmp 57], argTypes := #[29, 23] }, type := 23, pos := "siloref4.go:58", after := #[{ on := 0, ground := Ground.data }, { on := 3, ground := Ground.data }, { on := 3, ground := Ground.chain }], guard := none }) rfl (fun KK hK => ?_) AllReadyH.nil
        rw [if_pos (by rfl)]
        go_simp
        have hsa : Strs6 V1 (.slice Aa K ca) (applyL (overL n K Hl) (givenL Hl l) K K Z) := by
          have h := RowIs.of_own hoa
          show RowIs _ _ (applyL _ _ _ _ _).length 1 _
          rw [applyL_length]
          exact h
        have hcumA := hcum
        refine (refEncode_any K M (Z : Int) (.slice Aa K ca) (applyL (overL n K Hl) (givenL Hl l) K K Z) V1 k1 k8 m6 (by omega) (by omega) hsa (applyL_length _ _ _ _ _) (fun s hs => by rw [Int.toNat_natCast]; exact applyL_sizes s hs)).mono ?_
        rintro e V2 ⟨rd, rfl, hod, hbe⟩
        rw [← HNN.out, encL_nat, ← HNN.out, Int.toNat_natCast] at hod
        clear hsa
        have hcum := hcum.trans (hbe.mono hcum.size)
        refine hK.out _ _ hcum (fun _ => ?_)
        clear hK hbe
        try simp only [Act.put, List.setIfInBounds_toArray, List.set_cons_zero, List.set_cons_succ]
        refine wpAnyH_take (i := 5) (oi := { dst := some 6, op := Op.assign (Operand.tmp 58), type := 23, pos := "siloref4.go:58", after := #[{ on := 4, ground := Ground.data }, { on := 4, ground := Ground.chain }, { on := 0, ground := Ground.phase }, { on := 1, ground := Ground.phase }, { on := 2, ground := Ground.phase }, { on := 3, ground := Ground.phase }, { on := 4, ground := Ground.phase }], guard := none }) (v := ?_) rfl (by kernel_rfl) (by kernel_rfl) (by kernel_rfl) (fun _ _ _ h => h) (Or.inl ⟨by rfl, fun W' hW' => ?_⟩) hcum ?_
        rotate_left 1
        · go_simp
          try rfl
        try simp only [Act.put, List.setIfInBounds_toArray, List.set_cons_zero, List.set_cons_succ]
        refine wpAnyH_take (i := 6) (oi := { dst := some 7, op := Op.assign (Operand.const (Value.bool true)), type := 4, pos := "siloref4.go:58", after := #[{ on := 5, ground := Ground.chain }, { on := 0, ground := Ground.phase }, { on := 1, ground := Ground.phase }, { on := 2, ground := Ground.phase }, { on := 3, ground := Ground.phase }, { on := 4, ground := Ground.phase }, { on := 5, ground := Ground.phase }], guard := none }) (v := ?_) rfl (by kernel_rfl) (by kernel_rfl) (by kernel_rfl) (fun _ _ _ h => h) (Or.inl ⟨by rfl, fun W' hW' => ?_⟩) hcum ?_
        rotate_left 1
        · go_simp
          try rfl
        try simp only [Act.put, List.setIfInBounds_toArray, List.set_cons_zero, List.set_cons_succ]
        refine wpAnyH_done (by kernel_rfl) ?_ _
        have HO := Lib.hid (own_base hod (Nat.le_trans HBc.out.size hcumA.size))
        have HBe := Lib.hid (HBc.out.trans (hcum.mono HBc.out.size))
        clear hod hcum
        go_wp2_with fail
        go_ret2
        refine ⟨_, by rw [HE.out]; rfl, ?_, HBe.out⟩
        rw [HR.out, applyL_length]
        exact HO.out
    · have hie : i = n := by omega
      have hid1 : decide ((i : Int) < (n : Int)) = false := by simp; omega
      have HHn : Hid (Hl = haveN bs K n) := by rw [Hid, ← hie]; exact HHN.out
      clear hie HHN
      have HBw := Lib.hid (HB1.out.trans (HBr.out.mono HB1.out.size))
      by_cases hK : Hl.length < K
      · have hd : decide ((Hl.length : Int) < (K : Int)) = true := by simp; omega
        have HE : Hid ((!decide ((haveN bs K n).length < K)) = false) := by rw [Hid, ← HHn.out, decide_eq_true hK]; rfl
        have HR : Hid (rebL n K Z bs l = []) := by rw [Hid, rebL, ← HHn.out, if_pos hK]
        go_wp2_with fail
        go_ret2
        refine ⟨.slice none 0 0, by rw [HE.out]; rfl, ?_, HBw.out⟩
        rw [HR.out]
        exact World.ownsRow_nil _ _ _ _
      · have hd : decide ((Hl.length : Int) < (K : Int)) = false := by simp; omega
        have hKK : Hl.length = K := by omega
        have HKK := Lib.hid hKK
        have HE : Hid ((!decide ((haveN bs K n).length < K)) = true) := by rw [Hid, ← HHn.out, decide_eq_false hK]; rfl
        have hfull : (haveN bs K n).length = K := by rw [← HHn.out]; exact hKK
        have HR : Hid (rebL n K Z bs l = applyL (genL n K) (applyL (overL n K Hl) (givenL Hl l) K K Z) n K Z) := by rw [Hid, rebL_yes hfull, ← HHn.out]
        have HOK : Hid (RowsOk n K Hl) := by
          have h := haveN_ok hfull
          rw [← HHn.out] at h
          exact h
        have HGZ : Hid (∀ s ∈ givenL Hl l, s.size = Z) := by rw [HHn.out]; exact givenL_size HSZ.out
        have hnum := numsIn_own hov.out (fun z hz => by have := HOK.out.lt z hz; omega) (by omega)
        have hsg : Strs6 wr (.slice Ag Hl.length cg) (givenL Hl l) := by
          have h := RowIs.of_own hog.out
          show RowIs _ _ (givenL Hl l).length 1 _
          rw [givenL_len]
          exact h
        rw [hKK] at hnum hsg ⊢
        have HNU := Lib.hid hnum
        have HSG := Lib.hid hsg
        obtain ⟨nk, hnk⟩ : ∃ nk, nk = n * K := ⟨_, rfl⟩
        have hle : nk ≤ 14 * 8 := by rw [hnk]; exact Nat.mul_le_mul hn14 k8
        have HNK := Lib.hid hnk
        obtain ⟨kk, hkk⟩ : ∃ q, q = K * K := ⟨_, rfl⟩
        have hq64 : kk ≤ 8 * 8 := by rw [hkk]; exact Nat.mul_le_mul k8 k8
        have HKQ := Lib.hid hkk
        have HPL : Hid ((pickL (genL n K) K Hl).length = kk) := by rw [Hid, rowL_length (HOK.out.fits (genL_len n K)), hKK, hkk]
        have HGL : Hid ((genL n K).length = nk) := by rw [Hid, genL_len, hnk]
        have HIL : Hid ((overL n K Hl).length = kk) := by rw [Hid, overL_len, hkk]
        clear hKK hnum hsg hnk hkk hov hog hfull
        go_wp2_with fail
        refine (refGen_any K M (Z : Int) wr k1 k8 m6).mono ?_
        rintro e V1 ⟨vr, rfl, hmr, hb1⟩
        obtain ⟨B4, h41, h42, rfl, hbk4, hl4⟩ := hmr
        rw [← HNN.out] at hbk4
        rw [← HNN.out, ← HNK.out]
        have hbv4 := BytesV.of_blk (c := nk) hbk4 h42
        rw [HGL.out] at hbv4
        have HV4 := Lib.hid hbv4
        have HNUa := Lib.hid (numsIn_belowP HNU.out hb1)
        have HSGa := Lib.hid (HSG.out.below hb1)
        have HBa := Lib.hid (HBw.out.trans (hb1.mono HBw.out.size))
        have T1a := Lib.hid (T1r.out.below hb1)
        clear hb1 hbv4 hbk4 hl4 h41 h42 x0 x1 x2
        unfold matV
        go_wp2_with fail
        have HC := refPick_any n K B4 0 nk (genL n K) (.slice Ah K ch) Hl V1 (by rw [HGL.out]; exact HV4.out) HNUa.out (genL_len n K) (by omega) (by omega) k1 (by omega) (by rw [HGL.out]; exact Nat.le_refl _) (by omega) (by rw [HKK.out]; exact k1) (by rw [HKK.out]; omega) HOK.out.lt
        rw [HKK.out, HGL.out] at HC
        unfold matV at HC
        with_reducible refine HC.mono ?_
        rintro e V2 ⟨rt, rfl, hot, hb2⟩
        obtain ⟨Xt, hXt, _⟩ := own_of_row (ns := pickL (genL n K) K Hl) (by rw [HPL.out, HKQ.out]; exact hot) (pick_all' (genL_lt n K))
        have HPt := Lib.hid hXt.1
        have HSGb := Lib.hid (HSGa.out.below hb2)
        have HBb := Lib.hid (HBa.out.trans (hb2.mono HBa.out.size))
        have T1b := Lib.hid (T1a.out.below hb2)
        clear HC hot hXt hb2
        go_wp2_with fail
        have HC := refInvert_any K rt (pickL (genL n K) K Hl) V2 HPt.out (by rw [HPL.out, HKQ.out]) k1 (by omega)
        unfold matV at HC
        with_reducible refine HC.mono ?_
        rintro e V3 ⟨vi, rfl, hvi0, hb3⟩
        have hvi : BytesV V3 vi (overL n K Hl) := hvi0
        clear hvi0
        obtain ⟨Ai, ki, rfl⟩ := hvi.shape
        rw [HIL.out] at hvi
        rw [HIL.out]
        obtain ⟨o11, ho11⟩ : ∃ o, o = (Obj.cells #[.int .i64 (K : Int), .int .i64 (K : Int), .slice Ai kk ki] 55) := ⟨_, rfl⟩
        have t11 := Three.new V3 (.int .i64 (K : Int)) (.int .i64 (K : Int)) (.slice Ai kk ki) 55
        rw [← ho11] at t11
        have hal := (Below.refl V3.heap.size V3).alloc (Nat.le_refl _) o11
        have hba := cum2 hb3 hal
        have HSGc := Lib.hid (HSGb.out.below hba)
        have HBc := Lib.hid (HBb.out.trans (hba.mono HBb.out.size))
        have T1c := Lib.hid (T1b.out.below hba)
        have HIc := Lib.hid (hvi.below hal)
        have HT11 := Lib.hid t11
        obtain ⟨z0, z1, z2, _, _, _⟩ := t11
        rw [ho11] at z0 z1 z2
        clear hal hba hb3 hvi HC
        go_upto_region 12 with fail
        rw [← ho11]
        clear z0 z1 z2 ho11
        generalize V3.alloc o11 = W11 at *
        generalize V3.heap.size = b11 at *
        refine wp_region_held (S := fun W' => Below W11.heap.size W11 W') (by kernel_rfl) ?_
        change wpAnyH _ _ _ _ _ 7 _ _ W11.drew
        have hcum := (Below.refl W11.heap.size W11).drew
        generalize W11.drew = V0 at *
        refine wpAnyH_take (i := 0) (oi := { dst := some 54, op := Op.load 29 (Operand.tmp 3), type := 29, pos := "siloref4.go:58", after := #[], guard := none }) (v := ?_) rfl (by kernel_rfl) (by kernel_rfl) (by kernel_rfl) (fun _ _ _ h => h) (Or.inl ⟨by rfl, fun W' hW' => ?_⟩) hcum ?_
        rotate_left 1
        · (obtain ⟨x0, x1, x2, _, _, _⟩ := T1c.out.below hW'; obtain ⟨z0, z1, z2, _, _, _⟩ := HT11.out.below hW'; go_simp)
          try rfl
        try simp only [Act.put, List.setIfInBounds_toArray, List.set_cons_zero, List.set_cons_succ]
        refine wpAnyH_take (i := 1) (oi := { dst := some 55, op := Op.load 55 (Operand.tmp 11), type := 55, pos := "siloref4.go:58", after := #[], guard := none }) (v := ?_) rfl (by kernel_rfl) (by kernel_rfl) (by kernel_rfl) (fun _ _ _ h => h) (Or.inl ⟨by rfl, fun W' hW' => ?_⟩) hcum ?_
        rotate_left 1
        · (obtain ⟨x0, x1, x2, _, _, _⟩ := T1c.out.below hW'; obtain ⟨z0, z1, z2, _, _, _⟩ := HT11.out.below hW'; go_simp)
          try rfl
        try simp only [Act.put, List.setIfInBounds_toArray, List.set_cons_zero, List.set_cons_succ]
        refine wpAnyH_take (i := 2) (oi := { dst := some 56, op := Op.move (Operand.tmp 9), type := 23, pos := "siloref4.go:58", after := #[], guard := none }) (v := ?_) rfl (by kernel_rfl) (by kernel_rfl) (by kernel_rfl) (fun _ _ _ h => h) (Or.inl ⟨by rfl, fun W' hW' => ?_⟩) hcum ?_
        rotate_left 1
        · go_simp
          try rfl
        try simp only [Act.put, List.setIfInBounds_toArray, List.set_cons_zero, List.set_cons_succ]
        refine wpAnyH_ready (rs := [3]) (by kernel_rfl) (by simp) ?_
        refine AllReadyH.cons (o := { dst := some 57, op := Op.call { callee := Callee.value (Operand.func 23), args := #[Operand.tmp 55, Operand.tmp 56], argTypes := #[55, 23] }, type := 23, pos := "siloref4.go:58", after := #[{ on := 1, ground := Ground.data }, { on := 2, ground := Ground.data }], guard := none }) rfl (fun KK hK => ?_) AllReadyH.nil
        rw [if_pos (by rfl)]
        go_simp
        have HC := refApply_any K K Z (.slice Ai kk ki) (.slice Ag K cg) (overL n K Hl) (givenL Hl l) V0 (HIc.out.below hcum) (HSGc.out.below hcum) (overL_len n K Hl) (by rw [givenL_len]; exact HKK.out) HGZ.out (by omega) k1 (by omega) k1 (by omega)
        unfold matV at HC
        with_reducible refine HC.mono ?_
        rintro e V1 ⟨ra, rfl, hoa, hbe⟩
        obtain ⟨Aa, ca, rfl⟩ := own_shape hoa
        clear HC
        have hcum := hcum.trans (hbe.mono hcum.size)
        refine hK.out _ _ hcum (fun _ => ?_)
        clear hK hbe
        try simp only [Act.put, List.setIfInBounds_toArray, List.set_cons_zero, List.set_cons_succ]
        refine wpAnyH_ready (rs := [4]) (by kernel_rfl) (by simp) ?_
        refine AllReadyH.cons (o := { dst := some 58, op := Op.call { callee := Callee.value (Operand.func 8), args := #[Operand.tmp 54, Operand.tmp 57], argTypes := #[29, 23] }, type := 23, pos := "siloref4.go:58", after := #[{ on := 0, ground := Ground.data }, { on := 3, ground := Ground.data }, { on := 3, ground := Ground.chain }], guard := none }) rfl (fun KK hK => ?_) AllReadyH.nil
        rw [if_pos (by rfl)]
        go_simp
        have hsa : Strs6 V1 (.slice Aa K ca) (applyL (overL n K Hl) (givenL Hl l) K K Z) := by
          have h := RowIs.of_own hoa
          show RowIs _ _ (applyL _ _ _ _ _).length 1 _
          rw [applyL_length]
          exact h
        have hcumA := hcum
        refine (refEncode_any K M (Z : Int) (.slice Aa K ca) (applyL (overL n K Hl) (givenL Hl l) K K Z) V1 k1 k8 m6 (by omega) (by omega) hsa (applyL_length _ _ _ _ _) (fun s hs => by rw [Int.toNat_natCast]; exact applyL_sizes s hs)).mono ?_
        rintro e V2 ⟨rd, rfl, hod, hbe⟩
        rw [← HNN.out, encL_nat, ← HNN.out, Int.toNat_natCast] at hod
        clear hsa
        have hcum := hcum.trans (hbe.mono hcum.size)
        refine hK.out _ _ hcum (fun _ => ?_)
        clear hK hbe
        try simp only [Act.put, List.setIfInBounds_toArray, List.set_cons_zero, List.set_cons_succ]
        refine wpAnyH_take (i := 5) (oi := { dst := some 6, op := Op.assign (Operand.tmp 58), type := 23, pos := "siloref4.go:58", after := #[{ on := 4, ground := Ground.data }, { on := 4, ground := Ground.chain }, { on := 0, ground := Ground.phase }, { on := 1, ground := Ground.phase }, { on := 2, ground := Ground.phase }, { on := 3, ground := Ground.phase }, { on := 4, ground := Ground.phase }], guard := none }) (v := ?_) rfl (by kernel_rfl) (by kernel_rfl) (by kernel_rfl) (fun _ _ _ h => h) (Or.inl ⟨by rfl, fun W' hW' => ?_⟩) hcum ?_
        rotate_left 1
        · go_simp
          try rfl
        try simp only [Act.put, List.setIfInBounds_toArray, List.set_cons_zero, List.set_cons_succ]
        refine wpAnyH_take (i := 6) (oi := { dst := some 7, op := Op.assign (Operand.const (Value.bool true)), type := 4, pos := "siloref4.go:58", after := #[{ on := 5, ground := Ground.chain }, { on := 0, ground := Ground.phase }, { on := 1, ground := Ground.phase }, { on := 2, ground := Ground.phase }, { on := 3, ground := Ground.phase }, { on := 4, ground := Ground.phase }, { on := 5, ground := Ground.phase }], guard := none }) (v := ?_) rfl (by kernel_rfl) (by kernel_rfl) (by kernel_rfl) (fun _ _ _ h => h) (Or.inl ⟨by rfl, fun W' hW' => ?_⟩) hcum ?_
        rotate_left 1
        · go_simp
          try rfl
        try simp only [Act.put, List.setIfInBounds_toArray, List.set_cons_zero, List.set_cons_succ]
        refine wpAnyH_done (by kernel_rfl) ?_ _
        have HO := Lib.hid (own_base hod (Nat.le_trans HBc.out.size hcumA.size))
        have HBe := Lib.hid (HBc.out.trans (hcum.mono HBc.out.size))
        clear hod hcum
        go_wp2_with fail
        go_ret2
        refine ⟨_, by rw [HE.out]; rfl, ?_, HBe.out⟩
        rw [HR.out, applyL_length]
        exact HO.out
end Go.Proofs.Ytijcmdcjjcemfaa
