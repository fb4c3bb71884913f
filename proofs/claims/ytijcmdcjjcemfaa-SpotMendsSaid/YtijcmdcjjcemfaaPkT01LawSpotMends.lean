/- SpotMends: the law's walk. -/
import Derived.Test.YtijcmdcjjcemfaaPkT00LawSpotMends
import Derived.OrdersHeld
import Derived.Deep.RegionHeld
import Derived.Deep.RegionHeld3
import Derived.Deep.CutBlock
namespace Go.Proofs.Ytijcmdcjjcemfaa
open Go.ChangeShapes Go.WideShapes Go.ChangeAt Go.RowKit Go.Joins Go.Shelf
set_option linter.unusedVariables false
set_option linter.unusedSimpArgs false

set_option maxRecDepth 100000 in
set_option maxHeartbeats 8000000 in
theorem spotMends_walk (c0 c1 c2 : Value) (S : List T3) (L : List ByteArray) (bs : List Bool) (w : World) (hS : ThreesIn w c0 S) (hL : TextsIn w c1 L) (hB : BoolsIn w c2 bs) (hS2 : S.length ≤ 9223372036854775807) :
    Calls Try.prog 3 #[.agg #[c0, c1, c2]] w fun e w' => e = .returned (.bool true) ∧ Below w.heap.size w w' := by
  obtain ⟨y0, hi, hz0, hz1, hz2⟩ := info_parts infoI64
  have tA := Three.new w c0 c1 c2 26
  have hbe := (Below.refl w.heap.size w).alloc (Nat.le_refl _) (.cells #[c0, c1, c2] 26)
  have TA := Lib.hid tA
  have HBE := Lib.hid hbe
  have HS := Lib.hid (hS.below hbe)
  have HL := Lib.hid (hL.row.below hbe)
  have HHX := Lib.hid (heavy4_any c0 c1 c2 S L bs (w.alloc (.cells #[c0, c1, c2] 26)) (hS.below hbe) (hL.below hbe) (hB.below hbe) hS2)
  obtain ⟨A, c, rfl⟩ := hS.len
  obtain ⟨pL, kL, rfl⟩ := hL.row.shape
  have HBO := Lib.hid (hB.below hbe)
  obtain ⟨pb, cb, rfl, _⟩ := hB
  obtain ⟨a0, a1, a2, _, _, _⟩ := tA
  clear hbe hS hL
  go_enter Try.func3, Try.ntmps3
  go_wp2_with fail
  clear a0 a1 a2
  generalize w.alloc (.cells #[.slice A S.length c, .slice pL L.length kL, .slice pb bs.length cb] 26) = W0 at *
  refine HHX.out.mono ?_
  rintro e w1 ⟨bo, hfew, rfl, hb1⟩
  have TA1 := Lib.hid (TA.out.below hb1)
  have HS1 := Lib.hid (HS.out.below hb1)
  have HL1 := Lib.hid (HL.out.below hb1)
  have HBO1 := Lib.hid (HBO.out.below hb1)
  have HB1 := Lib.hid (HBE.out.trans (hb1.mono HBE.out.size))
  have HFW := Lib.hid hfew
  clear hb1 TA HS HL HHX HBO hfew
  cases bo
  · obtain ⟨ht4, hb100, hs50⟩ := HFW.out rfl
    have hLlen : L.length ≤ 4000 := by unfold total at ht4; omega
    have HSZ : Hid (∀ x ∈ L, x.size ≤ 100000) := fun x hx => by
      obtain ⟨q, hq, rfl⟩ := List.getElem_of_mem hx
      have h2 := total_get hq
      rw [← List.getElem_eq_getD (h := hq)] at h2
      omega
    clear HFW ht4
    go_wp2_with fail
    go_loopw [3] (fun nn wr => ∃ i : Nat, nn = .int .i64 i ∧ i ≤ 2 ∧ Hid (Below w1.heap.size w1 wr)) (fun nn _ => 2 - (intOf nn).toNat)
    case atStart => exact ⟨0, rfl, by omega, Lib.hid (Below.refl _ _)⟩
    case round =>
      obtain ⟨i, rfl, hi4, HB⟩ := hrel
      obtain ⟨a0, a1, a2, _, _, _⟩ := TA1.out.below HB.out
      by_cases hil : i < S.length ∧ i < 2
      · obtain ⟨hl0, hi3⟩ := hil
        have hid1 : decide ((i : Int) < (S.length : Int)) = true := by simp; omega
        have hid2 : decide ((i : Int) < 2) = true := by simp; omega
        have i0 : (0 : Int) ≤ (i : Int) := by omega
        have i1 : (i : Int) < (S.length : Int) := by omega
        obtain ⟨b, o, cS, e, s, hs, p0, p1, p2⟩ := (HS1.out.below HB.out).at_ hl0
        cases e
        obtain ⟨k, m, z⟩ := s
        dsimp only at p0 p1 p2
        clear hs
        obtain ⟨K, hK⟩ : ∃ K : Nat, 1 + withinI k 3 = (K : Int) := ⟨(1 + withinI k 3).toNat, by have := within_bd k 3 (by omega) (by omega); omega⟩
        obtain ⟨M, hM⟩ : ∃ M : Nat, withinI m 5 = (M : Int) := ⟨(withinI m 5).toNat, by have := within_bd m 5 (by omega) (by omega); omega⟩
        obtain ⟨Z, hZ⟩ : ∃ Z : Nat, 1 + withinI z 3 = (Z : Int) := ⟨(1 + withinI z 3).toNat, by have := within_bd z 3 (by omega) (by omega); omega⟩
        have hKb : 1 ≤ K ∧ K ≤ 3 := by have := within_bd k 3 (by omega) (by omega); omega
        have hMb : M ≤ 4 := by have := within_bd m 5 (by omega) (by omega); omega
        have hZb : 1 ≤ Z ∧ Z ≤ 3 := by have := within_bd z 3 (by omega) (by omega); omega
        obtain ⟨k1, k3⟩ := hKb
        obtain ⟨hZ1, hZ3⟩ := hZb
        have k8 : K ≤ 8 := by omega
        have m6 : M ≤ 6 := by omega
        obtain ⟨n, hn⟩ : ∃ n, n = K + M := ⟨_, rfl⟩
        have wn : IntKind.i64.wrap ((K : Int) + (M : Int)) = (n : Int) := by rw [IntWalk.i64_in _ (by omega)]; omega
        have hn14 : n ≤ 7 := by omega
        have hn1 : 1 ≤ n := by omega
        have hKn : K ≤ n := by omega
        have HNN := Lib.hid hn
        clear hn
        go_wp2_with fail
        refine (small_any k m z wr).mono ?_
        rintro e w5 ⟨rfl, hb5⟩
        rw [hK, hM, hZ]
        have t4 := Three.new w5 (.int .i64 (K : Int)) (.int .i64 (M : Int)) (.int .i64 (Z : Int)) 29
        obtain ⟨o4, ho4⟩ : ∃ o, o = (Obj.cells #[.int .i64 (K : Int), .int .i64 (M : Int), .int .i64 (Z : Int)] 29) := ⟨_, rfl⟩
        rw [← ho4] at t4
        have hb4 := (Below.refl w5.heap.size w5).alloc (Nat.le_refl _) o4
        have T4 := Lib.hid t4
        have HB4 := Lib.hid (HB.out.trans ((hb5.trans (hb4.mono hb5.size)).mono HB.out.size))
        obtain ⟨x0, x1, x2, _, _, _⟩ := t4
        rw [ho4] at x0 x1 x2
        clear hb4 hb5 hK hM hZ a0 a1 a2 p0 p1 p2
        go_upto_region 7 with fail
        rw [← ho4]
        clear x0 x1 x2 ho4
        generalize w5.alloc o4 = wcc at *
        generalize w5.heap.size = b4 at *
        have T1 := Lib.hid (TA1.out.below HB4.out)
        have HL4 := Lib.hid (HL1.out.below HB4.out)
        obtain ⟨x0, x1, x2, _, _, _⟩ := T4.out
        obtain ⟨a0, a1, a2, _, _, _⟩ := T1.out
        go_upto_region 8 with fail
        clear x0 x1 x2 a0 a1 a2
        have T4c := T4
        have T1c := T1
        have HLc := HL4
        have HBc := HB4
        go_cut [6] from 39 to 47 (fun vx wx => ∃ (X : List ByteArray) (gX cX : Nat), vx = .slice (some ⟨gX, 0, none⟩) n cX ∧ Hid (IsCode n K Z X) ∧ Hid (wx.ownsRow wcc.heap.size 9 1 (.slice (some ⟨gX, 0, none⟩) n cX) n (X.map Value.string)) ∧ Hid (Below wcc.heap.size wcc wx))
        case first =>
          refine wp_region_held (S := fun W' => Below wcc.heap.size wcc W') (by kernel_rfl) ?_
          change wpAnyH _ _ _ _ _ 10 _ _ wcc.drew
          have hcum := (Below.refl wcc.heap.size wcc).drew
          generalize wcc.drew = V0 at *
          refine wpAnyH_take (i := 0) (oi := { dst := some 39, op := Op.load 29 (Operand.tmp 4), type := 29, pos := "law.go:70", after := #[], guard := none }) (v := ?_) rfl (by kernel_rfl) (by kernel_rfl) (by kernel_rfl) (fun _ _ _ h => h) (Or.inl ⟨by rfl, fun W' hW' => ?_⟩) hcum ?_
          rotate_left 1
          · (obtain ⟨x0, x1, x2, _, _, _⟩ := T4c.out.below hW'; obtain ⟨a0, a1, a2, _, _, _⟩ := T1c.out.below hW'; go_simp)
            try rfl
          try simp only [Act.put, List.setIfInBounds_toArray, List.set_cons_zero, List.set_cons_succ]
          refine wpAnyH_take (i := 1) (oi := { dst := some 40, op := Op.fieldAddr 26 (Operand.tmp 1) 1, type := 0, pos := "law.go:70", after := #[], guard := none }) (v := ?_) rfl (by kernel_rfl) (by kernel_rfl) (by kernel_rfl) (fun _ _ _ h => h) (Or.inl ⟨by rfl, fun W' hW' => ?_⟩) hcum ?_
          rotate_left 1
          · go_simp
            try rfl
          try simp only [Act.put, List.setIfInBounds_toArray, List.set_cons_zero, List.set_cons_succ]
          refine wpAnyH_take (i := 2) (oi := { dst := some 41, op := Op.load 23 (Operand.tmp 40), type := 23, pos := "law.go:70", after := #[{ on := 1, ground := Ground.data }], guard := none }) (v := ?_) rfl (by kernel_rfl) (by kernel_rfl) (by kernel_rfl) (fun _ _ _ h => h) (Or.inl ⟨by rfl, fun W' hW' => ?_⟩) hcum ?_
          rotate_left 1
          · (obtain ⟨x0, x1, x2, _, _, _⟩ := T4c.out.below hW'; obtain ⟨a0, a1, a2, _, _, _⟩ := T1c.out.below hW'; go_simp)
            try rfl
          try simp only [Act.put, List.setIfInBounds_toArray, List.set_cons_zero, List.set_cons_succ]
          refine wpAnyH_take (i := 3) (oi := { dst := some 42, op := Op.fieldAddr 29 (Operand.tmp 4) 0, type := 0, pos := "law.go:70", after := #[], guard := none }) (v := ?_) rfl (by kernel_rfl) (by kernel_rfl) (by kernel_rfl) (fun _ _ _ h => h) (Or.inl ⟨by rfl, fun W' hW' => ?_⟩) hcum ?_
          rotate_left 1
          · go_simp
            try rfl
          try simp only [Act.put, List.setIfInBounds_toArray, List.set_cons_zero, List.set_cons_succ]
          refine wpAnyH_take (i := 4) (oi := { dst := some 43, op := Op.load 3 (Operand.tmp 42), type := 3, pos := "law.go:70", after := #[{ on := 3, ground := Ground.data }], guard := none }) (v := ?_) rfl (by kernel_rfl) (by kernel_rfl) (by kernel_rfl) (fun _ _ _ h => h) (Or.inl ⟨by rfl, fun W' hW' => ?_⟩) hcum ?_
          rotate_left 1
          · (obtain ⟨x0, x1, x2, _, _, _⟩ := T4c.out.below hW'; obtain ⟨a0, a1, a2, _, _, _⟩ := T1c.out.below hW'; go_simp)
            try rfl
          try simp only [Act.put, List.setIfInBounds_toArray, List.set_cons_zero, List.set_cons_succ]
          refine wpAnyH_take (i := 5) (oi := { dst := some 44, op := Op.fieldAddr 29 (Operand.tmp 4) 2, type := 0, pos := "law.go:70", after := #[], guard := none }) (v := ?_) rfl (by kernel_rfl) (by kernel_rfl) (by kernel_rfl) (fun _ _ _ h => h) (Or.inl ⟨by rfl, fun W' hW' => ?_⟩) hcum ?_
          rotate_left 1
          · go_simp
            try rfl
          try simp only [Act.put, List.setIfInBounds_toArray, List.set_cons_zero, List.set_cons_succ]
          refine wpAnyH_take (i := 6) (oi := { dst := some 45, op := Op.load 3 (Operand.tmp 44), type := 3, pos := "law.go:70", after := #[{ on := 5, ground := Ground.data }], guard := none }) (v := ?_) rfl (by kernel_rfl) (by kernel_rfl) (by kernel_rfl) (fun _ _ _ h => h) (Or.inl ⟨by rfl, fun W' hW' => ?_⟩) hcum ?_
          rotate_left 1
          · (obtain ⟨x0, x1, x2, _, _, _⟩ := T4c.out.below hW'; obtain ⟨a0, a1, a2, _, _, _⟩ := T1c.out.below hW'; go_simp)
            try rfl
          try simp only [Act.put, List.setIfInBounds_toArray, List.set_cons_zero, List.set_cons_succ]
          refine wpAnyH_ready (rs := [7]) (by kernel_rfl) (by simp) ?_
          refine AllReadyH.cons (o := { dst := some 46, op := Op.call { callee := Callee.value (Operand.func 9), args := #[Operand.tmp 41, Operand.tmp 43, Operand.tmp 45], argTypes := #[23, 3, 3] }, type := 23, pos := "law.go:70", after := #[{ on := 2, ground := Ground.data }, { on := 4, ground := Ground.data }, { on := 6, ground := Ground.data }], guard := none }) rfl (fun KK hK => ?_) AllReadyH.nil
          rw [if_pos (by rfl)]
          go_simp
          have HC := fitted_any (.slice pL L.length kL) L K Z V0 (HLc.out.below hcum) (by omega) HSZ.out (by omega) (by omega) (by omega)
          with_reducible refine HC.mono ?_
          rintro e V1 ⟨vd, F, rfl, hof, hFl, hFz, hbe⟩
          obtain ⟨gD, cD, rfl, _, _, _, _⟩ := own_room hof k1
          have HFL := Lib.hid hFl
          have HFZ := Lib.hid hFz
          have HSF : Hid (Strs6 V1 (.slice (some ⟨gD, 0, none⟩) K cD) F) := by show RowIs _ _ F.length 1 _; rw [HFL.out]; exact RowIs.of_own hof
          clear HC hof hFl hFz
          have hcum := hcum.trans (hbe.mono hcum.size)
          refine hK.out _ _ hcum (fun _ => ?_)
          clear hK hbe
          try simp only [Act.put, List.setIfInBounds_toArray, List.set_cons_zero, List.set_cons_succ]
          refine wpAnyH_ready (rs := [8]) (by kernel_rfl) (by simp) ?_
          refine AllReadyH.cons (o := { dst := some 47, op := Op.call { callee := Callee.value (Operand.func 8), args := #[Operand.tmp 39, Operand.tmp 46], argTypes := #[29, 23] }, type := 23, pos := "law.go:70", after := #[{ on := 0, ground := Ground.data }, { on := 7, ground := Ground.data }, { on := 7, ground := Ground.chain }], guard := none }) rfl (fun KK hK => ?_) AllReadyH.nil
          rw [if_pos (by rfl)]
          go_simp
          refine (refEncode_any K M (Z : Int) (.slice (some ⟨gD, 0, none⟩) K cD) F V1 k1 k8 m6 (by omega) (by omega) HSF.out HFL.out (fun s hs => by rw [Int.toNat_natCast]; exact HFZ.out s hs)).mono ?_
          rintro e V2 ⟨rx, rfl, hox, hbe⟩
          rw [encL_nat, ← HNN.out, Int.toNat_natCast] at hox
          obtain ⟨X, hX⟩ : ∃ X, X = applyL (genL n K) F n K Z := ⟨_, rfl⟩
          rw [← hX] at hox
          have HXC : Hid (IsCode n K Z X) := ⟨F, HFL.out, HFZ.out, hX⟩
          have hbase := hcum.size
          clear hX
          have hcum := hcum.trans (hbe.mono hcum.size)
          refine hK.out _ _ hcum (fun _ => ?_)
          clear hK hbe
          try simp only [Act.put, List.setIfInBounds_toArray, List.set_cons_zero, List.set_cons_succ]
          refine wpAnyH_take (i := 9) (oi := { dst := some 6, op := Op.assign (Operand.tmp 47), type := 23, pos := "law.go:70", after := #[{ on := 8, ground := Ground.data }, { on := 8, ground := Ground.chain }, { on := 0, ground := Ground.phase }, { on := 1, ground := Ground.phase }, { on := 2, ground := Ground.phase }, { on := 3, ground := Ground.phase }, { on := 4, ground := Ground.phase }, { on := 5, ground := Ground.phase }, { on := 6, ground := Ground.phase }, { on := 7, ground := Ground.phase }, { on := 8, ground := Ground.phase }], guard := none }) (v := ?_) rfl (by kernel_rfl) (by kernel_rfl) (by kernel_rfl) (fun _ _ _ h => h) (Or.inl ⟨by rfl, fun W' hW' => ?_⟩) hcum ?_
          rotate_left 1
          · go_simp
            try rfl
          try simp only [Act.put, List.setIfInBounds_toArray, List.set_cons_zero, List.set_cons_succ]
          refine wpAnyH_done (by kernel_rfl) ?_ _
          obtain ⟨gX, cX, rfl, _, _, _, _⟩ := own_room hox hn1
          have hox2 := World.ownsRow.mono hox hbase
          go_wp2_with fail
          go_meet
          exact ⟨X, gX, cX, rfl, HXC, Lib.hid hox2, Lib.hid hcum⟩
        case rest =>
          obtain ⟨w8, rfl⟩ : ∃ w8 : World, w8 = wc := ⟨_, rfl⟩
          obtain ⟨X, gX, cX, rfl, HXC, HOX, HB8c⟩ := hcut
          have HB8 := Lib.hid (HBc.out.trans (HB8c.out.mono HBc.out.size))
          have T48 := Lib.hid (T4c.out.below HB8c.out)
          have T18 := Lib.hid (T1c.out.below HB8c.out)
          have HXL := Lib.hid (code_len HXC.out)
          have HXZ := Lib.hid (code_size HXC.out)
          have HSX8 : Hid (Strs6 w8 (.slice (some ⟨gX, 0, none⟩) n cX) X) := by show RowIs _ _ X.length 1 _; rw [HXL.out]; exact RowIs.of_own HOX.out
          obtain ⟨m2, hm2⟩ : ∃ m2, m2 = M / 2 := ⟨_, rfl⟩
          have hq2 : (M : Int).tdiv 2 = (m2 : Int) := by rw [hm2, Int.tdiv_eq_ediv_of_nonneg (by omega)]; omega
          have hqw : IntKind.i64.wrap (m2 : Int) = (m2 : Int) := IntWalk.i64_in _ (by omega)
          have hm22 : m2 ≤ 2 := by omega
          have HM2 := Lib.hid hm2
          clear hm2 wn
          go_wp2_with fail
          have HCP := copyStrs6_any (.slice (some ⟨gX, 0, none⟩) n cX) X w8 HSX8.out (by rw [HXL.out]; omega)
          rw [HXL.out] at HCP
          with_reducible refine HCP.mono ?_
          rintro e wq ⟨ro, rfl, hoo, hbq⟩
          obtain ⟨gI, cI, rfl, hgI, _, _, _⟩ := own_room hoo hn1
          have HOI0 := Lib.hid hoo
          have HBq := Lib.hid hbq
          clear HCP hoo hbq
          go_wp2_with fail
          go_loopw [8, 9] (fun cv kv wr => ∃ (q : Nat) (Y : List ByteArray) (cw : Value), cw = cv ∧ kv = .int .i64 q ∧ q ≤ n ∧ Hid (Y.length = n ∧ ∀ s ∈ Y, s.size = Z) ∧ Hid (∀ i, q ≤ i → X.getD i ByteArray.empty = Y.getD i ByteArray.empty) ∧ (unlN X Y q).length ≤ m2 ∧ Hid (wr.ownsRow w8.heap.size 9 1 (.slice (some ⟨gI, 0, none⟩) n cI) n (Y.map Value.string)) ∧ Hid (wr.ownsRow w8.heap.size 3 1 cw (unlN X Y q).length (i64s (unlN X Y q))) ∧ Hid (Below w8.heap.size w8 wr)) (fun _ kv _ => n - (intOf kv).toNat)
          case atStart => exact ⟨0, X, _, rfl, rfl, by omega, Lib.hid ⟨HXL.out, HXZ.out⟩, Lib.hid (fun i _ => rfl), by simp [unlN], HOI0, World.ownsRow_nil _ _ _ _, HBq⟩
          case round =>
            clear HOI0 HBq
            obtain ⟨wr, rfl⟩ : ∃ wr0 : World, wr0 = wr := ⟨_, rfl⟩
            obtain ⟨q, Y, cw, rfl, rfl, hqn, HY, HE, hcl, HOI, HOC, HBr⟩ := hrel
            obtain ⟨Ac, cc, rfl⟩ := own_shape HOC.out
            obtain ⟨ch, hch⟩ : ∃ ch, ch = unlN X Y q := ⟨_, rfl⟩
            rw [← hch] at HOC hcl ⊢
            have HCH := Lib.hid hch
            have T4r := Lib.hid (T48.out.below HBr.out)
            have T1r := Lib.hid (T18.out.below HBr.out)
            have HBSr := Lib.hid (HBO1.out.below (HB8.out.trans (HBr.out.mono HB8.out.size)))
            obtain ⟨x0, x1, x2, _, _, _⟩ := T4r.out
            clear hch
            by_cases hlt : q < n
            · have hqd : decide ((q : Int) < (n : Int)) = true := by simp; omega
              by_cases hcm : ch.length < m2
              · have hcd : decide ((ch.length : Int) < (m2 : Int)) = true := by simp; omega
                have q0 : (0 : Int) ≤ (q : Int) := by omega
                have q1 : (q : Int) < (n : Int) := by omega
                obtain ⟨qm, hqm⟩ : ∃ qm, qm = q + m2 := ⟨_, rfl⟩
                have wqm : IntKind.i64.wrap ((q : Int) + (m2 : Int)) = (qm : Int) := by rw [IntWalk.i64_in _ (by omega)]; omega
                go_upto_region 14 with fail
                clear x0 x1 x2 hqm
                go_cut [86] from 63 to 86 (fun cv wx => ∃ cb : Bool, cv = .bool cb ∧ Hid (Below wr.heap.size wr wx))
                case first =>
                  obtain ⟨_, _, eB, hBS⟩ := HBSr.out
                  cases eB
                  have HBS := Lib.hid hBS
                  clear hBS
                  by_cases hbl : 0 < bs.length
                  · have hb0 : decide ((0 : Int) < (bs.length : Int)) = true := by simp; omega
                    have hm : q % bs.length < bs.length := Nat.mod_lt _ hbl
                    have e1 : (q : Int).tmod (bs.length : Int) = ((q % bs.length : Nat) : Int) := by rw [Int.tmod_eq_emod_of_nonneg (by omega)]; exact (Int.natCast_emod q bs.length).symm
                    obtain ⟨bb, ob, hpb, hbb, hbc⟩ := HBS.out.2 _ hm
                    subst hpb
                    dsimp only at hbc
                    have HBCL := Lib.hid hbc
                    obtain ⟨rr, hr⟩ : ∃ rr, q % bs.length = rr := ⟨_, rfl⟩
                    rw [hr] at e1 hm HBCL
                    have r0 : (0 : Int) ≤ (rr : Int) := by omega
                    have r1 : (rr : Int) < (bs.length : Int) := by omega
                    have hn0 : ((bs.length : Int) == 0) = false := beq_eq_false_iff_ne.2 (by omega)
                    have hbn : ¬ (bs = []) := fun h => by rw [h] at hbl; exact absurd hbl (by simp)
                    generalize bs.getD rr false = bv at *
                    clear hbc hr
                    cases bv

                    · refine wp_region_held (S := fun W' => Below wr.heap.size wr W') (by kernel_rfl) ?_
                      change wpAnyH _ _ _ _ _ 24 _ _ wr.drew
                      have hcum := (Below.refl wr.heap.size wr).drew
                      generalize wr.drew = V0 at *
                      refine wpAnyH_take (i := 0) (oi := { dst := some 63, op := Op.fieldAddr 26 (Operand.tmp 1) 2, type := 0, pos := "law.go:74", after := #[], guard := none }) (v := ?_) rfl (by kernel_rfl) (by kernel_rfl) (by kernel_rfl) (fun _ _ _ h => h) (Or.inl ⟨by rfl, fun W' hW' => ?_⟩) hcum ?_
                      rotate_left 1
                      · go_simp
                        try rfl
                      try simp only [Act.put, List.setIfInBounds_toArray, List.set_cons_zero, List.set_cons_succ]
                      refine wpAnyH_take (i := 1) (oi := { dst := some 64, op := Op.load 24 (Operand.tmp 63), type := 24, pos := "law.go:74", after := #[{ on := 0, ground := Ground.data }], guard := none }) (v := ?_) rfl (by kernel_rfl) (by kernel_rfl) (by kernel_rfl) (fun _ _ _ h => h) (Or.inl ⟨by rfl, fun W' hW' => ?_⟩) hcum ?_
                      rotate_left 1
                      · (obtain ⟨x0, x1, x2, _, _, _⟩ := T4r.out.below hW'; obtain ⟨a0, a1, a2, _, _, _⟩ := T1r.out.below hW'; have hbc := below_celllt HBCL.out (cell_block HBCL.out) hW'; go_simp)
                        try rfl
                      try simp only [Act.put, List.setIfInBounds_toArray, List.set_cons_zero, List.set_cons_succ]
                      refine wpAnyH_take (i := 2) (oi := { dst := some 65, op := Op.call { callee := Callee.builtin Builtin.len, args := #[Operand.tmp 64], argTypes := #[24] }, type := 3, pos := "law.go:74", after := #[{ on := 1, ground := Ground.data }], guard := none }) (v := ?_) rfl (by kernel_rfl) (by kernel_rfl) (by kernel_rfl) (fun _ _ _ h => h) (Or.inl ⟨by rfl, fun W' hW' => ?_⟩) hcum ?_
                      rotate_left 1
                      · go_simp
                        try rfl
                      try simp only [Act.put, List.setIfInBounds_toArray, List.set_cons_zero, List.set_cons_succ]
                      refine wpAnyH_take (i := 3) (oi := { dst := some 66, op := Op.binOp BinOp.gtr 3 (Operand.tmp 65) (Operand.const (Value.int IntKind.i64 0)) 3, type := 4, pos := "law.go:74", after := #[{ on := 2, ground := Ground.data }], guard := none }) (v := ?_) rfl (by kernel_rfl) (by kernel_rfl) (by kernel_rfl) (fun _ _ _ h => h) (Or.inl ⟨by rfl, fun W' hW' => ?_⟩) hcum ?_
                      rotate_left 1
                      · go_simp
                        try rfl
                      try simp only [Act.put, List.setIfInBounds_toArray, List.set_cons_zero, List.set_cons_succ]
                      refine wpAnyH_take (i := 4) (oi := { dst := some 67, op := Op.move (Operand.tmp 66), type := 4, pos := "law.go:74", after := #[{ on := 3, ground := Ground.data }], guard := none }) (v := ?_) rfl (by kernel_rfl) (by kernel_rfl) (by kernel_rfl) (fun _ _ _ h => h) (Or.inl ⟨by rfl, fun W' hW' => ?_⟩) hcum ?_
                      rotate_left 1
                      · go_simp
                        try rfl
                      try simp only [Act.put, List.setIfInBounds_toArray, List.set_cons_zero, List.set_cons_succ]
                      refine wpAnyH_take (i := 5) (oi := { dst := some 68, op := Op.fieldAddr 26 (Operand.tmp 1) 2, type := 0, pos := "law.go:74", after := #[{ on := 4, ground := Ground.guard }], guard := some (4, true) }) (v := ?_) rfl (by kernel_rfl) (by kernel_rfl) (by kernel_rfl) (fun _ _ _ h => h) (Or.inl ⟨by rfl, fun W' hW' => ?_⟩) hcum ?_
                      rotate_left 1
                      · go_simp
                        try rfl
                      try simp only [Act.put, List.setIfInBounds_toArray, List.set_cons_zero, List.set_cons_succ]
                      refine wpAnyH_take (i := 6) (oi := { dst := some 69, op := Op.load 24 (Operand.tmp 68), type := 24, pos := "law.go:74", after := #[{ on := 5, ground := Ground.data }, { on := 4, ground := Ground.guard }], guard := some (4, true) }) (v := ?_) rfl (by kernel_rfl) (by kernel_rfl) (by kernel_rfl) (fun _ _ _ h => h) (Or.inl ⟨by rfl, fun W' hW' => ?_⟩) hcum ?_
                      rotate_left 1
                      · (obtain ⟨x0, x1, x2, _, _, _⟩ := T4r.out.below hW'; obtain ⟨a0, a1, a2, _, _, _⟩ := T1r.out.below hW'; have hbc := below_celllt HBCL.out (cell_block HBCL.out) hW'; go_simp)
                        try rfl
                      try simp only [Act.put, List.setIfInBounds_toArray, List.set_cons_zero, List.set_cons_succ]
                      refine wpAnyH_take (i := 7) (oi := { dst := some 70, op := Op.move (Operand.tmp 9), type := 3, pos := "law.go:74", after := #[{ on := 4, ground := Ground.guard }], guard := some (4, true) }) (v := ?_) rfl (by kernel_rfl) (by kernel_rfl) (by kernel_rfl) (fun _ _ _ h => h) (Or.inl ⟨by rfl, fun W' hW' => ?_⟩) hcum ?_
                      rotate_left 1
                      · go_simp
                        try rfl
                      try simp only [Act.put, List.setIfInBounds_toArray, List.set_cons_zero, List.set_cons_succ]
                      refine wpAnyH_take (i := 8) (oi := { dst := some 71, op := Op.fieldAddr 26 (Operand.tmp 1) 2, type := 0, pos := "law.go:74", after := #[{ on := 4, ground := Ground.guard }], guard := some (4, true) }) (v := ?_) rfl (by kernel_rfl) (by kernel_rfl) (by kernel_rfl) (fun _ _ _ h => h) (Or.inl ⟨by rfl, fun W' hW' => ?_⟩) hcum ?_
                      rotate_left 1
                      · go_simp
                        try rfl
                      try simp only [Act.put, List.setIfInBounds_toArray, List.set_cons_zero, List.set_cons_succ]
                      refine wpAnyH_take (i := 9) (oi := { dst := some 72, op := Op.load 24 (Operand.tmp 71), type := 24, pos := "law.go:74", after := #[{ on := 8, ground := Ground.data }, { on := 4, ground := Ground.guard }], guard := some (4, true) }) (v := ?_) rfl (by kernel_rfl) (by kernel_rfl) (by kernel_rfl) (fun _ _ _ h => h) (Or.inl ⟨by rfl, fun W' hW' => ?_⟩) hcum ?_
                      rotate_left 1
                      · (obtain ⟨x0, x1, x2, _, _, _⟩ := T4r.out.below hW'; obtain ⟨a0, a1, a2, _, _, _⟩ := T1r.out.below hW'; have hbc := below_celllt HBCL.out (cell_block HBCL.out) hW'; go_simp)
                        try rfl
                      try simp only [Act.put, List.setIfInBounds_toArray, List.set_cons_zero, List.set_cons_succ]
                      refine wpAnyH_take (i := 10) (oi := { dst := some 73, op := Op.call { callee := Callee.builtin Builtin.len, args := #[Operand.tmp 72], argTypes := #[24] }, type := 3, pos := "law.go:74", after := #[{ on := 9, ground := Ground.data }, { on := 4, ground := Ground.guard }], guard := some (4, true) }) (v := ?_) rfl (by kernel_rfl) (by kernel_rfl) (by kernel_rfl) (fun _ _ _ h => h) (Or.inl ⟨by rfl, fun W' hW' => ?_⟩) hcum ?_
                      rotate_left 1
                      · go_simp
                        try rfl
                      try simp only [Act.put, List.setIfInBounds_toArray, List.set_cons_zero, List.set_cons_succ]
                      refine wpAnyH_take (i := 11) (oi := { dst := some 74, op := Op.binOp BinOp.rem 3 (Operand.tmp 70) (Operand.tmp 73) 3, type := 3, pos := "law.go:74", after := #[{ on := 7, ground := Ground.data }, { on := 10, ground := Ground.data }, { on := 4, ground := Ground.guard }], guard := some (4, true) }) (v := ?_) rfl (by kernel_rfl) (by kernel_rfl) (by kernel_rfl) (fun _ _ _ h => h) (Or.inl ⟨by rfl, fun W' hW' => ?_⟩) hcum ?_
                      rotate_left 1
                      · go_simp
                        try rfl
                      try simp only [Act.put, List.setIfInBounds_toArray, List.set_cons_zero, List.set_cons_succ]
                      refine wpAnyH_take (i := 12) (oi := { dst := some 75, op := Op.indexAddr 24 (Operand.tmp 69) (Operand.tmp 74), type := 0, pos := "law.go:74", after := #[{ on := 6, ground := Ground.data }, { on := 11, ground := Ground.data }, { on := 4, ground := Ground.guard }], guard := some (4, true) }) (v := ?_) rfl (by kernel_rfl) (by kernel_rfl) (by kernel_rfl) (fun _ _ _ h => h) (Or.inl ⟨by rfl, fun W' hW' => ?_⟩) hcum ?_
                      rotate_left 1
                      · go_simp
                        try rfl
                      try simp only [Act.put, List.setIfInBounds_toArray, List.set_cons_zero, List.set_cons_succ]
                      refine wpAnyH_take (i := 13) (oi := { dst := some 76, op := Op.load 4 (Operand.tmp 75), type := 4, pos := "law.go:74", after := #[{ on := 12, ground := Ground.data }, { on := 4, ground := Ground.guard }], guard := some (4, true) }) (v := ?_) rfl (by kernel_rfl) (by kernel_rfl) (by kernel_rfl) (fun _ _ _ h => h) (Or.inl ⟨by rfl, fun W' hW' => ?_⟩) hcum ?_
                      rotate_left 1
                      · (obtain ⟨x0, x1, x2, _, _, _⟩ := T4r.out.below hW'; obtain ⟨a0, a1, a2, _, _, _⟩ := T1r.out.below hW'; have hbc := below_celllt HBCL.out (cell_block HBCL.out) hW'; go_simp)
                        try rfl
                      try simp only [Act.put, List.setIfInBounds_toArray, List.set_cons_zero, List.set_cons_succ]
                      refine wpAnyH_take (i := 14) (oi := { dst := some 77, op := Op.pick (Operand.tmp 67) (Operand.tmp 76) (Operand.const (Value.bool false)), type := 4, pos := "law.go:74", after := #[{ on := 4, ground := Ground.data }, { on := 13, ground := Ground.data }], guard := none }) (v := ?_) rfl (by kernel_rfl) (by kernel_rfl) (by kernel_rfl) (fun _ _ _ h => h) (Or.inl ⟨by rfl, fun W' hW' => ?_⟩) hcum ?_
                      rotate_left 1
                      · go_simp
                        try rfl
                      try simp only [Act.put, List.setIfInBounds_toArray, List.set_cons_zero, List.set_cons_succ]
                      refine wpAnyH_take (i := 15) (oi := { dst := some 78, op := Op.move (Operand.tmp 77), type := 4, pos := "law.go:74", after := #[{ on := 14, ground := Ground.data }, { on := 4, ground := Ground.chain }], guard := none }) (v := ?_) rfl (by kernel_rfl) (by kernel_rfl) (by kernel_rfl) (fun _ _ _ h => h) (Or.inl ⟨by rfl, fun W' hW' => ?_⟩) hcum ?_
                      rotate_left 1
                      · go_simp
                        try rfl
                      try simp only [Act.put, List.setIfInBounds_toArray, List.set_cons_zero, List.set_cons_succ]
                      refine wpAnyH_take (i := 16) (oi := { dst := some 79, op := Op.move (Operand.tmp 9), type := 3, pos := "law.go:74", after := #[{ on := 15, ground := Ground.guard }], guard := some (15, false) }) (v := ?_) rfl (by kernel_rfl) (by kernel_rfl) (by kernel_rfl) (fun _ _ _ h => h) (Or.inl ⟨by rfl, fun W' hW' => ?_⟩) hcum ?_
                      rotate_left 1
                      · go_simp
                        try rfl
                      try simp only [Act.put, List.setIfInBounds_toArray, List.set_cons_zero, List.set_cons_succ]
                      refine wpAnyH_take (i := 17) (oi := { dst := some 80, op := Op.fieldAddr 29 (Operand.tmp 4) 1, type := 0, pos := "law.go:74", after := #[{ on := 15, ground := Ground.guard }], guard := some (15, false) }) (v := ?_) rfl (by kernel_rfl) (by kernel_rfl) (by kernel_rfl) (fun _ _ _ h => h) (Or.inl ⟨by rfl, fun W' hW' => ?_⟩) hcum ?_
                      rotate_left 1
                      · go_simp
                        try rfl
                      try simp only [Act.put, List.setIfInBounds_toArray, List.set_cons_zero, List.set_cons_succ]
                      refine wpAnyH_take (i := 18) (oi := { dst := some 81, op := Op.load 3 (Operand.tmp 80), type := 3, pos := "law.go:74", after := #[{ on := 17, ground := Ground.data }, { on := 15, ground := Ground.guard }], guard := some (15, false) }) (v := ?_) rfl (by kernel_rfl) (by kernel_rfl) (by kernel_rfl) (fun _ _ _ h => h) (Or.inl ⟨by rfl, fun W' hW' => ?_⟩) hcum ?_
                      rotate_left 1
                      · (obtain ⟨x0, x1, x2, _, _, _⟩ := T4r.out.below hW'; obtain ⟨a0, a1, a2, _, _, _⟩ := T1r.out.below hW'; have hbc := below_celllt HBCL.out (cell_block HBCL.out) hW'; go_simp)
                        try rfl
                      try simp only [Act.put, List.setIfInBounds_toArray, List.set_cons_zero, List.set_cons_succ]
                      refine wpAnyH_take (i := 19) (oi := { dst := some 82, op := Op.binOp BinOp.quo 3 (Operand.tmp 81) (Operand.const (Value.int IntKind.i64 2)) 3, type := 3, pos := "law.go:74", after := #[{ on := 18, ground := Ground.data }, { on := 15, ground := Ground.guard }], guard := some (15, false) }) (v := ?_) rfl (by kernel_rfl) (by kernel_rfl) (by kernel_rfl) (fun _ _ _ h => h) (Or.inl ⟨by rfl, fun W' hW' => ?_⟩) hcum ?_
                      rotate_left 1
                      · go_simp
                        try rfl
                      try simp only [Act.put, List.setIfInBounds_toArray, List.set_cons_zero, List.set_cons_succ]
                      refine wpAnyH_take (i := 20) (oi := { dst := some 83, op := Op.binOp BinOp.add 3 (Operand.tmp 79) (Operand.tmp 82) 3, type := 3, pos := "law.go:74", after := #[{ on := 16, ground := Ground.data }, { on := 19, ground := Ground.data }, { on := 15, ground := Ground.guard }], guard := some (15, false) }) (v := ?_) rfl (by kernel_rfl) (by kernel_rfl) (by kernel_rfl) (fun _ _ _ h => h) (Or.inl ⟨by rfl, fun W' hW' => ?_⟩) hcum ?_
                      rotate_left 1
                      · go_simp
                        try rfl
                      try simp only [Act.put, List.setIfInBounds_toArray, List.set_cons_zero, List.set_cons_succ]
                      refine wpAnyH_take (i := 21) (oi := { dst := some 84, op := Op.move (Operand.tmp 5), type := 3, pos := "law.go:74", after := #[{ on := 15, ground := Ground.guard }], guard := some (15, false) }) (v := ?_) rfl (by kernel_rfl) (by kernel_rfl) (by kernel_rfl) (fun _ _ _ h => h) (Or.inl ⟨by rfl, fun W' hW' => ?_⟩) hcum ?_
                      rotate_left 1
                      · go_simp
                        try rfl
                      try simp only [Act.put, List.setIfInBounds_toArray, List.set_cons_zero, List.set_cons_succ]
                      refine wpAnyH_take (i := 22) (oi := { dst := some 85, op := Op.binOp BinOp.geq 3 (Operand.tmp 83) (Operand.tmp 84) 3, type := 4, pos := "law.go:74", after := #[{ on := 20, ground := Ground.data }, { on := 21, ground := Ground.data }, { on := 15, ground := Ground.guard }], guard := some (15, false) }) (v := ?_) rfl (by kernel_rfl) (by kernel_rfl) (by kernel_rfl) (fun _ _ _ h => h) (Or.inl ⟨by rfl, fun W' hW' => ?_⟩) hcum ?_
                      rotate_left 1
                      · go_simp
                        try rfl
                      try simp only [Act.put, List.setIfInBounds_toArray, List.set_cons_zero, List.set_cons_succ]
                      refine wpAnyH_take (i := 23) (oi := { dst := some 86, op := Op.pick (Operand.tmp 78) (Operand.const (Value.bool true)) (Operand.tmp 85), type := 4, pos := "law.go:74", after := #[{ on := 15, ground := Ground.data }, { on := 22, ground := Ground.data }], guard := none }) (v := ?_) rfl (by kernel_rfl) (by kernel_rfl) (by kernel_rfl) (fun _ _ _ h => h) (Or.inl ⟨by rfl, fun W' hW' => ?_⟩) hcum ?_
                      rotate_left 1
                      · go_simp
                        try rfl
                      try simp only [Act.put, List.setIfInBounds_toArray, List.set_cons_zero, List.set_cons_succ]
                      refine wpAnyH_done (by kernel_rfl) ?_ _
                      go_wp2_with fail
                      go_meet
                      exact ⟨_, rfl, Lib.hid hcum⟩
                    · refine wp_region_held (S := fun W' => Below wr.heap.size wr W') (by kernel_rfl) ?_
                      change wpAnyH _ _ _ _ _ 24 _ _ wr.drew
                      have hcum := (Below.refl wr.heap.size wr).drew
                      generalize wr.drew = V0 at *
                      refine wpAnyH_take (i := 0) (oi := { dst := some 63, op := Op.fieldAddr 26 (Operand.tmp 1) 2, type := 0, pos := "law.go:74", after := #[], guard := none }) (v := ?_) rfl (by kernel_rfl) (by kernel_rfl) (by kernel_rfl) (fun _ _ _ h => h) (Or.inl ⟨by rfl, fun W' hW' => ?_⟩) hcum ?_
                      rotate_left 1
                      · go_simp
                        try rfl
                      try simp only [Act.put, List.setIfInBounds_toArray, List.set_cons_zero, List.set_cons_succ]
                      refine wpAnyH_take (i := 1) (oi := { dst := some 64, op := Op.load 24 (Operand.tmp 63), type := 24, pos := "law.go:74", after := #[{ on := 0, ground := Ground.data }], guard := none }) (v := ?_) rfl (by kernel_rfl) (by kernel_rfl) (by kernel_rfl) (fun _ _ _ h => h) (Or.inl ⟨by rfl, fun W' hW' => ?_⟩) hcum ?_
                      rotate_left 1
                      · (obtain ⟨x0, x1, x2, _, _, _⟩ := T4r.out.below hW'; obtain ⟨a0, a1, a2, _, _, _⟩ := T1r.out.below hW'; have hbc := below_celllt HBCL.out (cell_block HBCL.out) hW'; go_simp)
                        try rfl
                      try simp only [Act.put, List.setIfInBounds_toArray, List.set_cons_zero, List.set_cons_succ]
                      refine wpAnyH_take (i := 2) (oi := { dst := some 65, op := Op.call { callee := Callee.builtin Builtin.len, args := #[Operand.tmp 64], argTypes := #[24] }, type := 3, pos := "law.go:74", after := #[{ on := 1, ground := Ground.data }], guard := none }) (v := ?_) rfl (by kernel_rfl) (by kernel_rfl) (by kernel_rfl) (fun _ _ _ h => h) (Or.inl ⟨by rfl, fun W' hW' => ?_⟩) hcum ?_
                      rotate_left 1
                      · go_simp
                        try rfl
                      try simp only [Act.put, List.setIfInBounds_toArray, List.set_cons_zero, List.set_cons_succ]
                      refine wpAnyH_take (i := 3) (oi := { dst := some 66, op := Op.binOp BinOp.gtr 3 (Operand.tmp 65) (Operand.const (Value.int IntKind.i64 0)) 3, type := 4, pos := "law.go:74", after := #[{ on := 2, ground := Ground.data }], guard := none }) (v := ?_) rfl (by kernel_rfl) (by kernel_rfl) (by kernel_rfl) (fun _ _ _ h => h) (Or.inl ⟨by rfl, fun W' hW' => ?_⟩) hcum ?_
                      rotate_left 1
                      · go_simp
                        try rfl
                      try simp only [Act.put, List.setIfInBounds_toArray, List.set_cons_zero, List.set_cons_succ]
                      refine wpAnyH_take (i := 4) (oi := { dst := some 67, op := Op.move (Operand.tmp 66), type := 4, pos := "law.go:74", after := #[{ on := 3, ground := Ground.data }], guard := none }) (v := ?_) rfl (by kernel_rfl) (by kernel_rfl) (by kernel_rfl) (fun _ _ _ h => h) (Or.inl ⟨by rfl, fun W' hW' => ?_⟩) hcum ?_
                      rotate_left 1
                      · go_simp
                        try rfl
                      try simp only [Act.put, List.setIfInBounds_toArray, List.set_cons_zero, List.set_cons_succ]
                      refine wpAnyH_take (i := 5) (oi := { dst := some 68, op := Op.fieldAddr 26 (Operand.tmp 1) 2, type := 0, pos := "law.go:74", after := #[{ on := 4, ground := Ground.guard }], guard := some (4, true) }) (v := ?_) rfl (by kernel_rfl) (by kernel_rfl) (by kernel_rfl) (fun _ _ _ h => h) (Or.inl ⟨by rfl, fun W' hW' => ?_⟩) hcum ?_
                      rotate_left 1
                      · go_simp
                        try rfl
                      try simp only [Act.put, List.setIfInBounds_toArray, List.set_cons_zero, List.set_cons_succ]
                      refine wpAnyH_take (i := 6) (oi := { dst := some 69, op := Op.load 24 (Operand.tmp 68), type := 24, pos := "law.go:74", after := #[{ on := 5, ground := Ground.data }, { on := 4, ground := Ground.guard }], guard := some (4, true) }) (v := ?_) rfl (by kernel_rfl) (by kernel_rfl) (by kernel_rfl) (fun _ _ _ h => h) (Or.inl ⟨by rfl, fun W' hW' => ?_⟩) hcum ?_
                      rotate_left 1
                      · (obtain ⟨x0, x1, x2, _, _, _⟩ := T4r.out.below hW'; obtain ⟨a0, a1, a2, _, _, _⟩ := T1r.out.below hW'; have hbc := below_celllt HBCL.out (cell_block HBCL.out) hW'; go_simp)
                        try rfl
                      try simp only [Act.put, List.setIfInBounds_toArray, List.set_cons_zero, List.set_cons_succ]
                      refine wpAnyH_take (i := 7) (oi := { dst := some 70, op := Op.move (Operand.tmp 9), type := 3, pos := "law.go:74", after := #[{ on := 4, ground := Ground.guard }], guard := some (4, true) }) (v := ?_) rfl (by kernel_rfl) (by kernel_rfl) (by kernel_rfl) (fun _ _ _ h => h) (Or.inl ⟨by rfl, fun W' hW' => ?_⟩) hcum ?_
                      rotate_left 1
                      · go_simp
                        try rfl
                      try simp only [Act.put, List.setIfInBounds_toArray, List.set_cons_zero, List.set_cons_succ]
                      refine wpAnyH_take (i := 8) (oi := { dst := some 71, op := Op.fieldAddr 26 (Operand.tmp 1) 2, type := 0, pos := "law.go:74", after := #[{ on := 4, ground := Ground.guard }], guard := some (4, true) }) (v := ?_) rfl (by kernel_rfl) (by kernel_rfl) (by kernel_rfl) (fun _ _ _ h => h) (Or.inl ⟨by rfl, fun W' hW' => ?_⟩) hcum ?_
                      rotate_left 1
                      · go_simp
                        try rfl
                      try simp only [Act.put, List.setIfInBounds_toArray, List.set_cons_zero, List.set_cons_succ]
                      refine wpAnyH_take (i := 9) (oi := { dst := some 72, op := Op.load 24 (Operand.tmp 71), type := 24, pos := "law.go:74", after := #[{ on := 8, ground := Ground.data }, { on := 4, ground := Ground.guard }], guard := some (4, true) }) (v := ?_) rfl (by kernel_rfl) (by kernel_rfl) (by kernel_rfl) (fun _ _ _ h => h) (Or.inl ⟨by rfl, fun W' hW' => ?_⟩) hcum ?_
                      rotate_left 1
                      · (obtain ⟨x0, x1, x2, _, _, _⟩ := T4r.out.below hW'; obtain ⟨a0, a1, a2, _, _, _⟩ := T1r.out.below hW'; have hbc := below_celllt HBCL.out (cell_block HBCL.out) hW'; go_simp)
                        try rfl
                      try simp only [Act.put, List.setIfInBounds_toArray, List.set_cons_zero, List.set_cons_succ]
                      refine wpAnyH_take (i := 10) (oi := { dst := some 73, op := Op.call { callee := Callee.builtin Builtin.len, args := #[Operand.tmp 72], argTypes := #[24] }, type := 3, pos := "law.go:74", after := #[{ on := 9, ground := Ground.data }, { on := 4, ground := Ground.guard }], guard := some (4, true) }) (v := ?_) rfl (by kernel_rfl) (by kernel_rfl) (by kernel_rfl) (fun _ _ _ h => h) (Or.inl ⟨by rfl, fun W' hW' => ?_⟩) hcum ?_
                      rotate_left 1
                      · go_simp
                        try rfl
                      try simp only [Act.put, List.setIfInBounds_toArray, List.set_cons_zero, List.set_cons_succ]
                      refine wpAnyH_take (i := 11) (oi := { dst := some 74, op := Op.binOp BinOp.rem 3 (Operand.tmp 70) (Operand.tmp 73) 3, type := 3, pos := "law.go:74", after := #[{ on := 7, ground := Ground.data }, { on := 10, ground := Ground.data }, { on := 4, ground := Ground.guard }], guard := some (4, true) }) (v := ?_) rfl (by kernel_rfl) (by kernel_rfl) (by kernel_rfl) (fun _ _ _ h => h) (Or.inl ⟨by rfl, fun W' hW' => ?_⟩) hcum ?_
                      rotate_left 1
                      · go_simp
                        try rfl
                      try simp only [Act.put, List.setIfInBounds_toArray, List.set_cons_zero, List.set_cons_succ]
                      refine wpAnyH_take (i := 12) (oi := { dst := some 75, op := Op.indexAddr 24 (Operand.tmp 69) (Operand.tmp 74), type := 0, pos := "law.go:74", after := #[{ on := 6, ground := Ground.data }, { on := 11, ground := Ground.data }, { on := 4, ground := Ground.guard }], guard := some (4, true) }) (v := ?_) rfl (by kernel_rfl) (by kernel_rfl) (by kernel_rfl) (fun _ _ _ h => h) (Or.inl ⟨by rfl, fun W' hW' => ?_⟩) hcum ?_
                      rotate_left 1
                      · go_simp
                        try rfl
                      try simp only [Act.put, List.setIfInBounds_toArray, List.set_cons_zero, List.set_cons_succ]
                      refine wpAnyH_take (i := 13) (oi := { dst := some 76, op := Op.load 4 (Operand.tmp 75), type := 4, pos := "law.go:74", after := #[{ on := 12, ground := Ground.data }, { on := 4, ground := Ground.guard }], guard := some (4, true) }) (v := ?_) rfl (by kernel_rfl) (by kernel_rfl) (by kernel_rfl) (fun _ _ _ h => h) (Or.inl ⟨by rfl, fun W' hW' => ?_⟩) hcum ?_
                      rotate_left 1
                      · (obtain ⟨x0, x1, x2, _, _, _⟩ := T4r.out.below hW'; obtain ⟨a0, a1, a2, _, _, _⟩ := T1r.out.below hW'; have hbc := below_celllt HBCL.out (cell_block HBCL.out) hW'; go_simp)
                        try rfl
                      try simp only [Act.put, List.setIfInBounds_toArray, List.set_cons_zero, List.set_cons_succ]
                      refine wpAnyH_take (i := 14) (oi := { dst := some 77, op := Op.pick (Operand.tmp 67) (Operand.tmp 76) (Operand.const (Value.bool false)), type := 4, pos := "law.go:74", after := #[{ on := 4, ground := Ground.data }, { on := 13, ground := Ground.data }], guard := none }) (v := ?_) rfl (by kernel_rfl) (by kernel_rfl) (by kernel_rfl) (fun _ _ _ h => h) (Or.inl ⟨by rfl, fun W' hW' => ?_⟩) hcum ?_
                      rotate_left 1
                      · go_simp
                        try rfl
                      try simp only [Act.put, List.setIfInBounds_toArray, List.set_cons_zero, List.set_cons_succ]
                      refine wpAnyH_take (i := 15) (oi := { dst := some 78, op := Op.move (Operand.tmp 77), type := 4, pos := "law.go:74", after := #[{ on := 14, ground := Ground.data }, { on := 4, ground := Ground.chain }], guard := none }) (v := ?_) rfl (by kernel_rfl) (by kernel_rfl) (by kernel_rfl) (fun _ _ _ h => h) (Or.inl ⟨by rfl, fun W' hW' => ?_⟩) hcum ?_
                      rotate_left 1
                      · go_simp
                        try rfl
                      try simp only [Act.put, List.setIfInBounds_toArray, List.set_cons_zero, List.set_cons_succ]
                      refine wpAnyH_take (i := 16) (oi := { dst := some 79, op := Op.move (Operand.tmp 9), type := 3, pos := "law.go:74", after := #[{ on := 15, ground := Ground.guard }], guard := some (15, false) }) (v := undef) rfl (by kernel_rfl) (by kernel_rfl) (by kernel_rfl) (fun _ _ _ h => h) (Or.inr ⟨by rfl, rfl⟩) hcum ?_
                      try simp only [Act.put, List.setIfInBounds_toArray, List.set_cons_zero, List.set_cons_succ]
                      refine wpAnyH_take (i := 17) (oi := { dst := some 80, op := Op.fieldAddr 29 (Operand.tmp 4) 1, type := 0, pos := "law.go:74", after := #[{ on := 15, ground := Ground.guard }], guard := some (15, false) }) (v := undef) rfl (by kernel_rfl) (by kernel_rfl) (by kernel_rfl) (fun _ _ _ h => h) (Or.inr ⟨by rfl, rfl⟩) hcum ?_
                      try simp only [Act.put, List.setIfInBounds_toArray, List.set_cons_zero, List.set_cons_succ]
                      refine wpAnyH_take (i := 18) (oi := { dst := some 81, op := Op.load 3 (Operand.tmp 80), type := 3, pos := "law.go:74", after := #[{ on := 17, ground := Ground.data }, { on := 15, ground := Ground.guard }], guard := some (15, false) }) (v := undef) rfl (by kernel_rfl) (by kernel_rfl) (by kernel_rfl) (fun _ _ _ h => h) (Or.inr ⟨by rfl, rfl⟩) hcum ?_
                      try simp only [Act.put, List.setIfInBounds_toArray, List.set_cons_zero, List.set_cons_succ]
                      refine wpAnyH_take (i := 19) (oi := { dst := some 82, op := Op.binOp BinOp.quo 3 (Operand.tmp 81) (Operand.const (Value.int IntKind.i64 2)) 3, type := 3, pos := "law.go:74", after := #[{ on := 18, ground := Ground.data }, { on := 15, ground := Ground.guard }], guard := some (15, false) }) (v := undef) rfl (by kernel_rfl) (by kernel_rfl) (by kernel_rfl) (fun _ _ _ h => h) (Or.inr ⟨by rfl, rfl⟩) hcum ?_
                      try simp only [Act.put, List.setIfInBounds_toArray, List.set_cons_zero, List.set_cons_succ]
                      refine wpAnyH_take (i := 20) (oi := { dst := some 83, op := Op.binOp BinOp.add 3 (Operand.tmp 79) (Operand.tmp 82) 3, type := 3, pos := "law.go:74", after := #[{ on := 16, ground := Ground.data }, { on := 19, ground := Ground.data }, { on := 15, ground := Ground.guard }], guard := some (15, false) }) (v := undef) rfl (by kernel_rfl) (by kernel_rfl) (by kernel_rfl) (fun _ _ _ h => h) (Or.inr ⟨by rfl, rfl⟩) hcum ?_
                      try simp only [Act.put, List.setIfInBounds_toArray, List.set_cons_zero, List.set_cons_succ]
                      refine wpAnyH_take (i := 21) (oi := { dst := some 84, op := Op.move (Operand.tmp 5), type := 3, pos := "law.go:74", after := #[{ on := 15, ground := Ground.guard }], guard := some (15, false) }) (v := undef) rfl (by kernel_rfl) (by kernel_rfl) (by kernel_rfl) (fun _ _ _ h => h) (Or.inr ⟨by rfl, rfl⟩) hcum ?_
                      try simp only [Act.put, List.setIfInBounds_toArray, List.set_cons_zero, List.set_cons_succ]
                      refine wpAnyH_take (i := 22) (oi := { dst := some 85, op := Op.binOp BinOp.geq 3 (Operand.tmp 83) (Operand.tmp 84) 3, type := 4, pos := "law.go:74", after := #[{ on := 20, ground := Ground.data }, { on := 21, ground := Ground.data }, { on := 15, ground := Ground.guard }], guard := some (15, false) }) (v := undef) rfl (by kernel_rfl) (by kernel_rfl) (by kernel_rfl) (fun _ _ _ h => h) (Or.inr ⟨by rfl, rfl⟩) hcum ?_
                      try simp only [Act.put, List.setIfInBounds_toArray, List.set_cons_zero, List.set_cons_succ]
                      refine wpAnyH_take (i := 23) (oi := { dst := some 86, op := Op.pick (Operand.tmp 78) (Operand.const (Value.bool true)) (Operand.tmp 85), type := 4, pos := "law.go:74", after := #[{ on := 15, ground := Ground.data }, { on := 22, ground := Ground.data }], guard := none }) (v := ?_) rfl (by kernel_rfl) (by kernel_rfl) (by kernel_rfl) (fun _ _ _ h => h) (Or.inl ⟨by rfl, fun W' hW' => ?_⟩) hcum ?_
                      rotate_left 1
                      · go_simp
                        try rfl
                      try simp only [Act.put, List.setIfInBounds_toArray, List.set_cons_zero, List.set_cons_succ]
                      refine wpAnyH_done (by kernel_rfl) ?_ _
                      go_wp2_with fail
                      go_meet
                      exact ⟨_, rfl, Lib.hid hcum⟩
                  · have hb0 : decide ((0 : Int) < (bs.length : Int)) = false := decide_eq_false (by omega)
                    refine wp_region_held (S := fun W' => Below wr.heap.size wr W') (by kernel_rfl) ?_
                    change wpAnyH _ _ _ _ _ 24 _ _ wr.drew
                    have hcum := (Below.refl wr.heap.size wr).drew
                    generalize wr.drew = V0 at *
                    refine wpAnyH_take (i := 0) (oi := { dst := some 63, op := Op.fieldAddr 26 (Operand.tmp 1) 2, type := 0, pos := "law.go:74", after := #[], guard := none }) (v := ?_) rfl (by kernel_rfl) (by kernel_rfl) (by kernel_rfl) (fun _ _ _ h => h) (Or.inl ⟨by rfl, fun W' hW' => ?_⟩) hcum ?_
                    rotate_left 1
                    · go_simp
                      try rfl
                    try simp only [Act.put, List.setIfInBounds_toArray, List.set_cons_zero, List.set_cons_succ]
                    refine wpAnyH_take (i := 1) (oi := { dst := some 64, op := Op.load 24 (Operand.tmp 63), type := 24, pos := "law.go:74", after := #[{ on := 0, ground := Ground.data }], guard := none }) (v := ?_) rfl (by kernel_rfl) (by kernel_rfl) (by kernel_rfl) (fun _ _ _ h => h) (Or.inl ⟨by rfl, fun W' hW' => ?_⟩) hcum ?_
                    rotate_left 1
                    · (obtain ⟨x0, x1, x2, _, _, _⟩ := T4r.out.below hW'; obtain ⟨a0, a1, a2, _, _, _⟩ := T1r.out.below hW'; go_simp)
                      try rfl
                    try simp only [Act.put, List.setIfInBounds_toArray, List.set_cons_zero, List.set_cons_succ]
                    refine wpAnyH_take (i := 2) (oi := { dst := some 65, op := Op.call { callee := Callee.builtin Builtin.len, args := #[Operand.tmp 64], argTypes := #[24] }, type := 3, pos := "law.go:74", after := #[{ on := 1, ground := Ground.data }], guard := none }) (v := ?_) rfl (by kernel_rfl) (by kernel_rfl) (by kernel_rfl) (fun _ _ _ h => h) (Or.inl ⟨by rfl, fun W' hW' => ?_⟩) hcum ?_
                    rotate_left 1
                    · go_simp
                      try rfl
                    try simp only [Act.put, List.setIfInBounds_toArray, List.set_cons_zero, List.set_cons_succ]
                    refine wpAnyH_take (i := 3) (oi := { dst := some 66, op := Op.binOp BinOp.gtr 3 (Operand.tmp 65) (Operand.const (Value.int IntKind.i64 0)) 3, type := 4, pos := "law.go:74", after := #[{ on := 2, ground := Ground.data }], guard := none }) (v := ?_) rfl (by kernel_rfl) (by kernel_rfl) (by kernel_rfl) (fun _ _ _ h => h) (Or.inl ⟨by rfl, fun W' hW' => ?_⟩) hcum ?_
                    rotate_left 1
                    · go_simp
                      try rfl
                    try simp only [Act.put, List.setIfInBounds_toArray, List.set_cons_zero, List.set_cons_succ]
                    refine wpAnyH_take (i := 4) (oi := { dst := some 67, op := Op.move (Operand.tmp 66), type := 4, pos := "law.go:74", after := #[{ on := 3, ground := Ground.data }], guard := none }) (v := ?_) rfl (by kernel_rfl) (by kernel_rfl) (by kernel_rfl) (fun _ _ _ h => h) (Or.inl ⟨by rfl, fun W' hW' => ?_⟩) hcum ?_
                    rotate_left 1
                    · go_simp
                      try rfl
                    try simp only [Act.put, List.setIfInBounds_toArray, List.set_cons_zero, List.set_cons_succ]
                    refine wpAnyH_take (i := 5) (oi := { dst := some 68, op := Op.fieldAddr 26 (Operand.tmp 1) 2, type := 0, pos := "law.go:74", after := #[{ on := 4, ground := Ground.guard }], guard := some (4, true) }) (v := undef) rfl (by kernel_rfl) (by kernel_rfl) (by kernel_rfl) (fun _ _ _ h => h) (Or.inr ⟨by rfl, rfl⟩) hcum ?_
                    try simp only [Act.put, List.setIfInBounds_toArray, List.set_cons_zero, List.set_cons_succ]
                    refine wpAnyH_take (i := 6) (oi := { dst := some 69, op := Op.load 24 (Operand.tmp 68), type := 24, pos := "law.go:74", after := #[{ on := 5, ground := Ground.data }, { on := 4, ground := Ground.guard }], guard := some (4, true) }) (v := undef) rfl (by kernel_rfl) (by kernel_rfl) (by kernel_rfl) (fun _ _ _ h => h) (Or.inr ⟨by rfl, rfl⟩) hcum ?_
                    try simp only [Act.put, List.setIfInBounds_toArray, List.set_cons_zero, List.set_cons_succ]
                    refine wpAnyH_take (i := 7) (oi := { dst := some 70, op := Op.move (Operand.tmp 9), type := 3, pos := "law.go:74", after := #[{ on := 4, ground := Ground.guard }], guard := some (4, true) }) (v := undef) rfl (by kernel_rfl) (by kernel_rfl) (by kernel_rfl) (fun _ _ _ h => h) (Or.inr ⟨by rfl, rfl⟩) hcum ?_
                    try simp only [Act.put, List.setIfInBounds_toArray, List.set_cons_zero, List.set_cons_succ]
                    refine wpAnyH_take (i := 8) (oi := { dst := some 71, op := Op.fieldAddr 26 (Operand.tmp 1) 2, type := 0, pos := "law.go:74", after := #[{ on := 4, ground := Ground.guard }], guard := some (4, true) }) (v := undef) rfl (by kernel_rfl) (by kernel_rfl) (by kernel_rfl) (fun _ _ _ h => h) (Or.inr ⟨by rfl, rfl⟩) hcum ?_
                    try simp only [Act.put, List.setIfInBounds_toArray, List.set_cons_zero, List.set_cons_succ]
                    refine wpAnyH_take (i := 9) (oi := { dst := some 72, op := Op.load 24 (Operand.tmp 71), type := 24, pos := "law.go:74", after := #[{ on := 8, ground := Ground.data }, { on := 4, ground := Ground.guard }], guard := some (4, true) }) (v := undef) rfl (by kernel_rfl) (by kernel_rfl) (by kernel_rfl) (fun _ _ _ h => h) (Or.inr ⟨by rfl, rfl⟩) hcum ?_
                    try simp only [Act.put, List.setIfInBounds_toArray, List.set_cons_zero, List.set_cons_succ]
                    refine wpAnyH_take (i := 10) (oi := { dst := some 73, op := Op.call { callee := Callee.builtin Builtin.len, args := #[Operand.tmp 72], argTypes := #[24] }, type := 3, pos := "law.go:74", after := #[{ on := 9, ground := Ground.data }, { on := 4, ground := Ground.guard }], guard := some (4, true) }) (v := undef) rfl (by kernel_rfl) (by kernel_rfl) (by kernel_rfl) (fun _ _ _ h => h) (Or.inr ⟨by rfl, rfl⟩) hcum ?_
                    try simp only [Act.put, List.setIfInBounds_toArray, List.set_cons_zero, List.set_cons_succ]
                    refine wpAnyH_take (i := 11) (oi := { dst := some 74, op := Op.binOp BinOp.rem 3 (Operand.tmp 70) (Operand.tmp 73) 3, type := 3, pos := "law.go:74", after := #[{ on := 7, ground := Ground.data }, { on := 10, ground := Ground.data }, { on := 4, ground := Ground.guard }], guard := some (4, true) }) (v := undef) rfl (by kernel_rfl) (by kernel_rfl) (by kernel_rfl) (fun _ _ _ h => h) (Or.inr ⟨by rfl, rfl⟩) hcum ?_
                    try simp only [Act.put, List.setIfInBounds_toArray, List.set_cons_zero, List.set_cons_succ]
                    refine wpAnyH_take (i := 12) (oi := { dst := some 75, op := Op.indexAddr 24 (Operand.tmp 69) (Operand.tmp 74), type := 0, pos := "law.go:74", after := #[{ on := 6, ground := Ground.data }, { on := 11, ground := Ground.data }, { on := 4, ground := Ground.guard }], guard := some (4, true) }) (v := undef) rfl (by kernel_rfl) (by kernel_rfl) (by kernel_rfl) (fun _ _ _ h => h) (Or.inr ⟨by rfl, rfl⟩) hcum ?_
                    try simp only [Act.put, List.setIfInBounds_toArray, List.set_cons_zero, List.set_cons_succ]
                    refine wpAnyH_take (i := 13) (oi := { dst := some 76, op := Op.load 4 (Operand.tmp 75), type := 4, pos := "law.go:74", after := #[{ on := 12, ground := Ground.data }, { on := 4, ground := Ground.guard }], guard := some (4, true) }) (v := undef) rfl (by kernel_rfl) (by kernel_rfl) (by kernel_rfl) (fun _ _ _ h => h) (Or.inr ⟨by rfl, rfl⟩) hcum ?_
                    try simp only [Act.put, List.setIfInBounds_toArray, List.set_cons_zero, List.set_cons_succ]
                    refine wpAnyH_take (i := 14) (oi := { dst := some 77, op := Op.pick (Operand.tmp 67) (Operand.tmp 76) (Operand.const (Value.bool false)), type := 4, pos := "law.go:74", after := #[{ on := 4, ground := Ground.data }, { on := 13, ground := Ground.data }], guard := none }) (v := ?_) rfl (by kernel_rfl) (by kernel_rfl) (by kernel_rfl) (fun _ _ _ h => h) (Or.inl ⟨by rfl, fun W' hW' => ?_⟩) hcum ?_
                    rotate_left 1
                    · go_simp
                      try rfl
                    try simp only [Act.put, List.setIfInBounds_toArray, List.set_cons_zero, List.set_cons_succ]
                    refine wpAnyH_take (i := 15) (oi := { dst := some 78, op := Op.move (Operand.tmp 77), type := 4, pos := "law.go:74", after := #[{ on := 14, ground := Ground.data }, { on := 4, ground := Ground.chain }], guard := none }) (v := ?_) rfl (by kernel_rfl) (by kernel_rfl) (by kernel_rfl) (fun _ _ _ h => h) (Or.inl ⟨by rfl, fun W' hW' => ?_⟩) hcum ?_
                    rotate_left 1
                    · go_simp
                      try rfl
                    try simp only [Act.put, List.setIfInBounds_toArray, List.set_cons_zero, List.set_cons_succ]
                    refine wpAnyH_take (i := 16) (oi := { dst := some 79, op := Op.move (Operand.tmp 9), type := 3, pos := "law.go:74", after := #[{ on := 15, ground := Ground.guard }], guard := some (15, false) }) (v := ?_) rfl (by kernel_rfl) (by kernel_rfl) (by kernel_rfl) (fun _ _ _ h => h) (Or.inl ⟨by rfl, fun W' hW' => ?_⟩) hcum ?_
                    rotate_left 1
                    · go_simp
                      try rfl
                    try simp only [Act.put, List.setIfInBounds_toArray, List.set_cons_zero, List.set_cons_succ]
                    refine wpAnyH_take (i := 17) (oi := { dst := some 80, op := Op.fieldAddr 29 (Operand.tmp 4) 1, type := 0, pos := "law.go:74", after := #[{ on := 15, ground := Ground.guard }], guard := some (15, false) }) (v := ?_) rfl (by kernel_rfl) (by kernel_rfl) (by kernel_rfl) (fun _ _ _ h => h) (Or.inl ⟨by rfl, fun W' hW' => ?_⟩) hcum ?_
                    rotate_left 1
                    · go_simp
                      try rfl
                    try simp only [Act.put, List.setIfInBounds_toArray, List.set_cons_zero, List.set_cons_succ]
                    refine wpAnyH_take (i := 18) (oi := { dst := some 81, op := Op.load 3 (Operand.tmp 80), type := 3, pos := "law.go:74", after := #[{ on := 17, ground := Ground.data }, { on := 15, ground := Ground.guard }], guard := some (15, false) }) (v := ?_) rfl (by kernel_rfl) (by kernel_rfl) (by kernel_rfl) (fun _ _ _ h => h) (Or.inl ⟨by rfl, fun W' hW' => ?_⟩) hcum ?_
                    rotate_left 1
                    · (obtain ⟨x0, x1, x2, _, _, _⟩ := T4r.out.below hW'; obtain ⟨a0, a1, a2, _, _, _⟩ := T1r.out.below hW'; go_simp)
                      try rfl
                    try simp only [Act.put, List.setIfInBounds_toArray, List.set_cons_zero, List.set_cons_succ]
                    refine wpAnyH_take (i := 19) (oi := { dst := some 82, op := Op.binOp BinOp.quo 3 (Operand.tmp 81) (Operand.const (Value.int IntKind.i64 2)) 3, type := 3, pos := "law.go:74", after := #[{ on := 18, ground := Ground.data }, { on := 15, ground := Ground.guard }], guard := some (15, false) }) (v := ?_) rfl (by kernel_rfl) (by kernel_rfl) (by kernel_rfl) (fun _ _ _ h => h) (Or.inl ⟨by rfl, fun W' hW' => ?_⟩) hcum ?_
                    rotate_left 1
                    · go_simp
                      try rfl
                    try simp only [Act.put, List.setIfInBounds_toArray, List.set_cons_zero, List.set_cons_succ]
                    refine wpAnyH_take (i := 20) (oi := { dst := some 83, op := Op.binOp BinOp.add 3 (Operand.tmp 79) (Operand.tmp 82) 3, type := 3, pos := "law.go:74", after := #[{ on := 16, ground := Ground.data }, { on := 19, ground := Ground.data }, { on := 15, ground := Ground.guard }], guard := some (15, false) }) (v := ?_) rfl (by kernel_rfl) (by kernel_rfl) (by kernel_rfl) (fun _ _ _ h => h) (Or.inl ⟨by rfl, fun W' hW' => ?_⟩) hcum ?_
                    rotate_left 1
                    · go_simp
                      try rfl
                    try simp only [Act.put, List.setIfInBounds_toArray, List.set_cons_zero, List.set_cons_succ]
                    refine wpAnyH_take (i := 21) (oi := { dst := some 84, op := Op.move (Operand.tmp 5), type := 3, pos := "law.go:74", after := #[{ on := 15, ground := Ground.guard }], guard := some (15, false) }) (v := ?_) rfl (by kernel_rfl) (by kernel_rfl) (by kernel_rfl) (fun _ _ _ h => h) (Or.inl ⟨by rfl, fun W' hW' => ?_⟩) hcum ?_
                    rotate_left 1
                    · go_simp
                      try rfl
                    try simp only [Act.put, List.setIfInBounds_toArray, List.set_cons_zero, List.set_cons_succ]
                    refine wpAnyH_take (i := 22) (oi := { dst := some 85, op := Op.binOp BinOp.geq 3 (Operand.tmp 83) (Operand.tmp 84) 3, type := 4, pos := "law.go:74", after := #[{ on := 20, ground := Ground.data }, { on := 21, ground := Ground.data }, { on := 15, ground := Ground.guard }], guard := some (15, false) }) (v := ?_) rfl (by kernel_rfl) (by kernel_rfl) (by kernel_rfl) (fun _ _ _ h => h) (Or.inl ⟨by rfl, fun W' hW' => ?_⟩) hcum ?_
                    rotate_left 1
                    · go_simp
                      try rfl
                    try simp only [Act.put, List.setIfInBounds_toArray, List.set_cons_zero, List.set_cons_succ]
                    refine wpAnyH_take (i := 23) (oi := { dst := some 86, op := Op.pick (Operand.tmp 78) (Operand.const (Value.bool true)) (Operand.tmp 85), type := 4, pos := "law.go:74", after := #[{ on := 15, ground := Ground.data }, { on := 22, ground := Ground.data }], guard := none }) (v := ?_) rfl (by kernel_rfl) (by kernel_rfl) (by kernel_rfl) (fun _ _ _ h => h) (Or.inl ⟨by rfl, fun W' hW' => ?_⟩) hcum ?_
                    rotate_left 1
                    · go_simp
                      try rfl
                    try simp only [Act.put, List.setIfInBounds_toArray, List.set_cons_zero, List.set_cons_succ]
                    refine wpAnyH_done (by kernel_rfl) ?_ _
                    go_wp2_with fail
                    go_meet
                    exact ⟨_, rfl, Lib.hid hcum⟩
                case rest =>
                  obtain ⟨wr2, rfl⟩ : ∃ wr2 : World, wr2 = wc := ⟨_, rfl⟩
                  obtain ⟨cb, rfl, HBc2⟩ := hcut
                  have HOI2 := Lib.hid (own_below HOI.out HBc2.out)
                  have HOC2 := Lib.hid (own_below HOC.out HBc2.out)
                  have HB2 := Lib.hid (HBr.out.trans (HBc2.out.mono HBr.out.size))
                  clear HOI HOC T4r T1r HBSr hqd hcd wqm
                  cases cb
                  · have HU1 : Hid (unlN X Y (q + 1) = ch) := by rw [Hid, HCH.out]; exact unlN_rest X Y q 1 (fun i h1 h2 => HE.out i h1)
                    go_wp2_with fail
                    go_roundw
                    case rel => exact ⟨q + 1, Y, _, rfl, by go_num, by omega, HY, fun i hi => HE.out i (by omega), by rw [HU1.out]; exact hcl, HOI2, by rw [HU1.out]; exact HOC2, HB2⟩
                    case measure => simp [intOf]; omega
                  · have hqY : q < Y.length := by rw [HY.out.1]; exact hlt
                    obtain ⟨s, hs⟩ : ∃ s, s = Y[q]'hqY := ⟨_, rfl⟩
                    have hsZ : s.size = Z := by rw [hs]; exact HY.out.2 _ (List.getElem_mem hqY)
                    have hXs : X.getD q ByteArray.empty = s := by rw [HE.out q (Nat.le_refl _), hs, ← List.getElem_eq_getD (h := hqY)]
                    have d0 : wr2.cell? ⟨gI, q, none⟩ = some (.string s) := by
                      rw [HOI2.out.cellAt q (by omega), List.getElem?_map, List.getElem?_eq_getElem hqY, hs]
                      rfl
                    have hcv : ∀ w', (convert 9 35 (.string s)).run Try.prog w' = .ok (.slice (some ⟨w'.heap.size, 0, none⟩) s.size (grownCap w' s.size 0 5)) (Lib.bytesWorld w' 5 s) := fun w' => Lib.run_convert_string_bytes w' 9 35 5 s Try.underlying9 Try.underlying35 Try.underlying5
                    have HXS := Lib.hid hXs
                    have HSZ2 := Lib.hid hsZ
                    rw [hsZ] at hcv
                    clear hs hXs hsZ
                    go_upto_region 16 with fail
                    clear hcv d0
                    have HBB := Lib.hid (bytesBlk_of wr2 5 s)
                    have hVb := bytesWorld_below wr2 5 s
                    have HOCB : Hid (∀ kk, (Value.slice Ac ch.length cc).ownBlock = some kk → kk < wr2.heap.size) := fun kk h => (HOC2.out.lt kk h).2
                    have HOI3 := Lib.hid (own_below HOI2.out hVb)
                    have HOC3 := Lib.hid (own_below HOC2.out hVb)
                    have hB8 : w8.heap.size ≤ wr2.heap.size := HB2.out.size
                    have HB3 := Lib.hid (HB2.out.trans (hVb.mono HB2.out.size))
                    have hgIw := (HOI2.out.lt gI rfl).2
                    generalize Lib.bytesWorld wr2 5 s = V at *
                    generalize grownCap wr2 Z 0 5 = cp at *
                    generalize wr2.heap.size = B at *
                    clear hVb HOI2 HOC2
                    obtain ⟨hb256, hcell, hfr⟩ := HBB.out 0 (by rw [bytesOf_length, HSZ2.out]; omega)
                    obtain ⟨xx, hxx⟩ : ∃ xx, xx = (bytesOf s).getD 0 0 := ⟨_, rfl⟩
                    rw [← hxx] at hb256 hcell
                    obtain ⟨p1, hp1⟩ : ∃ p, p = q + 1 := ⟨_, rfl⟩
                    have wp1 : IntKind.i64.wrap (1 + (q : Int)) = (p1 : Int) := by rw [IntWalk.i64_in _ (by omega)]; omega
                    have hpm : (p1 : Int) % 256 = (p1 : Int) := by omega
                    obtain ⟨y, hy⟩ : ∃ y, y = xx ^^^ p1 := ⟨_, rfl⟩
                    have hy256 : y < 256 := by rw [hy]; exact Nat.xor_lt_two_pow (n := 8) hb256 (by omega)
                    have hxo : bits .xor .u8 (xx : Int) (p1 : Int) = (y : Int) := by rw [bits_xor_u8 hb256 (by omega), hy]
                    have hyne : y ≠ xx := by rw [hy]; exact xor_other (by omega)
                    have HN := Lib.hid (HBB.out.next (k := 0) hy256)
                    have hTne : s ≠ strOf8 ((bytesOf s).set 0 y) := strOf_ne (by rw [HSZ2.out]; exact hZ1) hy256 (by rw [← hxx]; exact hyne)
                    have HP1 := Lib.hid hp1
                    clear hxx hp1 hy HBB hyne
                    go_upto_region 17 with fail
                    obtain ⟨VV, hVV⟩ : ∃ VV, V.setCell ⟨B, 0, none⟩ (.int .u8 (y : Int)) = VV := ⟨_, rfl⟩
                    have hgIB : gI ≠ B := by omega
                    have HOI4 : Hid (VV.ownsRow w8.heap.size 9 1 (.slice (some ⟨gI, 0, none⟩) n cI) n (Y.map Value.string)) := by
                      rw [← hVV]; exact HOI3.out.kept (grown_setB V B 0 _) (.inr (fun e => hgIB (Option.some.inj e)))
                    have HOC4 : Hid (VV.ownsRow w8.heap.size 3 1 (.slice Ac ch.length cc) ch.length (i64s ch)) := by
                      rw [← hVV]; refine HOC3.out.kept (grown_setB V B 0 _) ?_
                      cases hob : (Value.slice Ac ch.length cc).ownBlock with
                      | none => exact .inl rfl
                      | some kk => exact .inr (fun e => by have := HOCB.out _ hob; have := Option.some.inj e; omega)
                    have HB4v : Hid (Below w8.heap.size w8 VV) := by rw [← hVV]; exact HB3.out.setCell (p := ⟨B, 0, none⟩) hB8 _
                    rw [hVV] at HN ⊢
                    have hcv2 := convert_bytes (P := Try.prog) (w := VV) (b := B) (off := 0) (cap := cp) Try.underlying35 Try.underlying5 Try.underlying9 (HN.out.cells)
                    obtain ⟨TT, hT⟩ : ∃ TT, strOf8 ((bytesOf s).set 0 y) = TT := ⟨_, rfl⟩
                    have hTs : TT.size = Z := by rw [← hT, strOf8_size, List.length_set, bytesOf_length, HSZ2.out]
                    rw [List.length_set, bytesOf_length, HSZ2.out, hT] at hcv2
                    rw [hT] at hTne
                    have HTS := Lib.hid hTs
                    have HTN := Lib.hid hTne
                    obtain ⟨d1, d2⟩ : VV.cell? ⟨gI, q, none⟩ = some (.string s) ∧ VV.frozen? ⟨gI, q, none⟩ = false := by
                      refine ⟨?_, HOI4.out.frozenAt q⟩
                      rw [HOI4.out.cellAt q (by omega), List.getElem?_map, List.getElem?_eq_getElem hqY]
                      have : X.getD q ByteArray.empty = Y[q]'hqY := by rw [HE.out q (Nat.le_refl _), ← List.getElem_eq_getD (h := hqY)]
                      rw [← this, HXS.out]
                      rfl
                    clear hVV HN hT hTs hTne hcell hfr HOI3 HOC3 HB3 wp1 hpm hxo
                    go_upto_region 18 with fail
                    have hst := (HOI4.out.stored q (.string TT)).1
                    rw [← List.map_set] at hst
                    have HST := Lib.hid hst
                    have HOC5 := Lib.hid (HOC4.out.kept (grown_setB VV gI q (.string TT)) (own_apart (by decide) HOC4.out HOI4.out))
                    have HB5v := Lib.hid (HB4v.out.setCell (p := ⟨gI, q, none⟩) hgI (.string TT))
                    clear d1 d2 hst hcv2 HOI4 HOC4 HB4v
                    generalize VV.setCell ⟨gI, q, none⟩ (.string TT) = V5 at *
                    have HYn : Hid ((Y.set q TT).length = n ∧ ∀ s ∈ Y.set q TT, s.size = Z) := ⟨by rw [List.length_set]; exact HY.out.1, fun t ht => by
                      rcases List.mem_or_eq_of_mem_set ht with h | h
                      · exact HY.out.2 t h
                      · rw [h]; exact HTS.out⟩
                    have HEn : Hid (∀ i, q + 1 ≤ i → X.getD i ByteArray.empty = (Y.set q TT).getD i ByteArray.empty) := fun i hi => by
                      rw [HE.out i (by omega)]
                      simp [List.getD, List.getElem?_set, show q ≠ i by omega]
                    have HUn : Hid (unlN X (Y.set q TT) (q + 1) = ch ++ [(q : Int)]) := by
                      rw [Hid, HCH.out]; exact unlN_step X Y q TT hqY (by rw [HXS.out]; exact HTN.out)
                    have hcl2 : (unlN X (Y.set q TT) (q + 1)).length ≤ m2 := by rw [HUn.out, List.length_append]; simp; omega
                    have hsz5 := HB5v.out.size
                    go_wp2_with (first | (at_builtin; refine wpList_append_own _ rfl _ _ 34 rfl w8.heap.size 3 y0 (.int .i64 0) 1 8 Try.underlying34 hi hz0 hz1 hz2 rfl (by decide) _ _ _ rfl (HOC5.out.alloc _) ⟨V5.heap.size, 0, none⟩ 1 1 [.int .i64 (q : Int)] rfl rfl ?c1 ?c2 ?c3 ?c4 ?c5 ?_) | go_in)
                    case c1 => exact cell_one_new' _ _ _
                    case c2 => intro u hu; simp at hu; subst hu; rfl
                    case c3 => unfold maxLen; omega
                    case c4 => omega
                    case c5 => simp; omega
                    all_goals
                      intro v' w1' hown' hgrow _
                      have hbg := app_belowB (B := w8.heap.size) hsz5 HOC5.out hgrow
                      have hst2 := (HST.out.alloc _).kept hgrow (own_apart (by decide) HST.out HOC5.out)
                      have HBn := Lib.hid (HB5v.out.trans hbg)
                      have HSTn := Lib.hid hst2
                      clear hgrow hbg hst2
                      go_wp2_with fail
                      go_roundw
                      case rel => exact ⟨q + 1, Y.set q TT, _, rfl, by go_num, by omega, HYn, HEn, hcl2, HSTn, by rw [HUn.out, List.length_append, i64s_snoc]; exact Lib.hid hown', HBn⟩
                      case measure => simp [intOf]; omega
              · have hcd : decide ((ch.length : Int) < (m2 : Int)) = false := by simp; omega
                have HUF : Hid (unlN X Y n = ch) := by
                  have e : n = q + (n - q) := by omega
                  rw [Hid, HCH.out, e]; exact unlN_rest X Y q (n - q) (fun i h1 h2 => HE.out i h1)
                obtain ⟨we, rfl⟩ : ∃ we : World, we = wr := ⟨_, rfl⟩
                have HFO : Hid (foundL n K M Z Y = some X) := found_yes HNN.out (by omega) HXC.out (by rw [HUF.out, ← HM2.out]; exact hcl)
                have HSYe : Hid (Strs6 we (.slice (some ⟨gI, 0, none⟩) n cI) Y) := by show RowIs _ _ Y.length 1 _; rw [HY.out.1]; exact RowIs.of_own HOI.out
                have HICe : Hid (Ints6 we (.slice Ac ch.length cc) ch) := Ints6.own HOC.out rfl
                have HSXe := Lib.hid (HSX8.out.below HBr.out)
                have hchn : ch.length ≤ 7 := by omega
                have HYL := Lib.hid HY.out.1
                have HYZ := Lib.hid HY.out.2
                have HBe := Lib.hid (HB8.out.trans (HBr.out.mono HB8.out.size))
                clear HE HCH HOI HOC T1r HBSr
                go_wp2_with fail
                have HC := wrong_yes K M Z (.slice (some ⟨gI, 0, none⟩) n cI) Y we k1 k8 m6 hZ1 (by omega) HSYe.out (by rw [HYL.out, HNN.out]) HYZ.out
                rw [← HNN.out, HFO.out] at HC
                dsimp only [errO, unlO] at HC
                rw [HUF.out] at HC
                with_reducible refine HC.mono ?_
                rintro e w9 ⟨rl, rfl, hol, hb9⟩
                have hil : Ints6 w9 rl ch := Ints6.own hol rfl
                obtain ⟨Al, cl, rfl⟩ := hil.shape
                have HIL9 := Lib.hid hil
                have HSY9 := Lib.hid (HSYe.out.below hb9)
                have HIC9 := Lib.hid (HICe.out.below hb9)
                have HSX9 := Lib.hid (HSXe.out.below hb9)
                have T49 := Lib.hid (T4r.out.below hb9)
                have HB9 := Lib.hid (HBe.out.trans (hb9.mono HBe.out.size))
                clear HC hol hil hb9 x0 x1 x2 hqd
                try clear hcd
                obtain ⟨x0, x1, x2, _, _, _⟩ := T49.out
                go_wp2_with fail
                have HC := mended_yes K M Z (.slice (some ⟨gI, 0, none⟩) n cI) Y w9 k1 k8 m6 hZ1 (by omega) HSY9.out (by rw [HYL.out, HNN.out]) HYZ.out
                rw [← HNN.out, HFO.out] at HC
                dsimp only [errO] at HC
                with_reducible refine HC.mono ?_
                rintro e w10 ⟨rm, rfl, hom, hb10⟩
                have hom' : Strs6 w10 rm X := RowIs.of_own hom
                obtain ⟨Am, cm, rfl⟩ := hom'.shape
                rw [HXL.out] at hom' ⊢
                have HM10 := Lib.hid hom'
                have HSX10 := Lib.hid (HSX9.out.below hb10)
                have HIL10 := Lib.hid (HIL9.out.below hb10)
                have HIC10 := Lib.hid (HIC9.out.below hb10)
                have HB10 := Lib.hid (HB9.out.trans (hb10.mono HB9.out.size))
                clear HC hom hom' hb10 x0 x1 x2
                go_wp2_with (first | (go_at_call 13; refine (num5_any _ _).mono ?_; rintro e wn ⟨rfl, rfl⟩))
                have HEN := eqNums_yes (.slice Al ch.length cl) (.slice Ac ch.length cc) ch w10 HIL10.out HIC10.out (by omega)
                with_reducible refine HEN.mono ?_
                rintro e w11 ⟨rfl, hb11⟩
                have HSX11 := Lib.hid (HSX10.out.below hb11)
                have HM11 := Lib.hid (HM10.out.below hb11)
                have HB11 := Lib.hid (HB10.out.trans (hb11.mono HB10.out.size))
                clear HEN hb11
                go_wp2_with fail
                have HEQ := eqStrs6_yes (.slice Am n cm) (.slice (some ⟨gX, 0, none⟩) n cX) X w11 HM11.out HSX11.out (by rw [HXL.out]; omega)
                with_reducible refine HEQ.mono ?_
                rintro e w12 ⟨rfl, hb12⟩
                have HBn := Lib.hid (HB11.out.trans (hb12.mono HB11.out.size))
                clear HEQ hb12
                go_wp2_with fail
                go_roundw
                case rel => exact ⟨i + 1, by go_num, by omega, HBn⟩
                case measure => simp [intOf]; omega
            · have hqd : decide ((q : Int) < (n : Int)) = false := by simp; omega
              have HUF : Hid (unlN X Y n = ch) := by
                have e : q = n := by omega
                rw [Hid, HCH.out, e]
              obtain ⟨we, rfl⟩ : ∃ we : World, we = wr := ⟨_, rfl⟩
              have HFO : Hid (foundL n K M Z Y = some X) := found_yes HNN.out (by omega) HXC.out (by rw [HUF.out, ← HM2.out]; exact hcl)
              have HSYe : Hid (Strs6 we (.slice (some ⟨gI, 0, none⟩) n cI) Y) := by show RowIs _ _ Y.length 1 _; rw [HY.out.1]; exact RowIs.of_own HOI.out
              have HICe : Hid (Ints6 we (.slice Ac ch.length cc) ch) := Ints6.own HOC.out rfl
              have HSXe := Lib.hid (HSX8.out.below HBr.out)
              have hchn : ch.length ≤ 7 := by omega
              have HYL := Lib.hid HY.out.1
              have HYZ := Lib.hid HY.out.2
              have HBe := Lib.hid (HB8.out.trans (HBr.out.mono HB8.out.size))
              clear HE HCH HOI HOC T1r HBSr
              go_wp2_with fail
              have HC := wrong_yes K M Z (.slice (some ⟨gI, 0, none⟩) n cI) Y we k1 k8 m6 hZ1 (by omega) HSYe.out (by rw [HYL.out, HNN.out]) HYZ.out
              rw [← HNN.out, HFO.out] at HC
              dsimp only [errO, unlO] at HC
              rw [HUF.out] at HC
              with_reducible refine HC.mono ?_
              rintro e w9 ⟨rl, rfl, hol, hb9⟩
              have hil : Ints6 w9 rl ch := Ints6.own hol rfl
              obtain ⟨Al, cl, rfl⟩ := hil.shape
              have HIL9 := Lib.hid hil
              have HSY9 := Lib.hid (HSYe.out.below hb9)
              have HIC9 := Lib.hid (HICe.out.below hb9)
              have HSX9 := Lib.hid (HSXe.out.below hb9)
              have T49 := Lib.hid (T4r.out.below hb9)
              have HB9 := Lib.hid (HBe.out.trans (hb9.mono HBe.out.size))
              clear HC hol hil hb9 x0 x1 x2 hqd
              try clear hcd
              obtain ⟨x0, x1, x2, _, _, _⟩ := T49.out
              go_wp2_with fail
              have HC := mended_yes K M Z (.slice (some ⟨gI, 0, none⟩) n cI) Y w9 k1 k8 m6 hZ1 (by omega) HSY9.out (by rw [HYL.out, HNN.out]) HYZ.out
              rw [← HNN.out, HFO.out] at HC
              dsimp only [errO] at HC
              with_reducible refine HC.mono ?_
              rintro e w10 ⟨rm, rfl, hom, hb10⟩
              have hom' : Strs6 w10 rm X := RowIs.of_own hom
              obtain ⟨Am, cm, rfl⟩ := hom'.shape
              rw [HXL.out] at hom' ⊢
              have HM10 := Lib.hid hom'
              have HSX10 := Lib.hid (HSX9.out.below hb10)
              have HIL10 := Lib.hid (HIL9.out.below hb10)
              have HIC10 := Lib.hid (HIC9.out.below hb10)
              have HB10 := Lib.hid (HB9.out.trans (hb10.mono HB9.out.size))
              clear HC hom hom' hb10 x0 x1 x2
              go_wp2_with (first | (go_at_call 13; refine (num5_any _ _).mono ?_; rintro e wn ⟨rfl, rfl⟩))
              have HEN := eqNums_yes (.slice Al ch.length cl) (.slice Ac ch.length cc) ch w10 HIL10.out HIC10.out (by omega)
              with_reducible refine HEN.mono ?_
              rintro e w11 ⟨rfl, hb11⟩
              have HSX11 := Lib.hid (HSX10.out.below hb11)
              have HM11 := Lib.hid (HM10.out.below hb11)
              have HB11 := Lib.hid (HB10.out.trans (hb11.mono HB10.out.size))
              clear HEN hb11
              go_wp2_with fail
              have HEQ := eqStrs6_yes (.slice Am n cm) (.slice (some ⟨gX, 0, none⟩) n cX) X w11 HM11.out HSX11.out (by rw [HXL.out]; omega)
              with_reducible refine HEQ.mono ?_
              rintro e w12 ⟨rfl, hb12⟩
              have HBn := Lib.hid (HB11.out.trans (hb12.mono HB11.out.size))
              clear HEQ hb12
              go_wp2_with fail
              go_roundw
              case rel => exact ⟨i + 1, by go_num, by omega, HBn⟩
              case measure => simp [intOf]; omega
      · have hid : (decide ((i : Int) < (S.length : Int)) && decide ((i : Int) < 2)) = false := by simp; omega
        have HB2 := Lib.hid (HB1.out.trans (HB.out.mono HB1.out.size))
        by_cases h3 : i < S.length
        all_goals
          go_wp2_with fail
          refine (wakes5_any _).mono ?_
          rintro e w5 ⟨rfl, hb5⟩
          have hfin := HB2.out.trans (hb5.mono HB2.out.size)
          clear hb5
          go_wp2_with fail
          go_ret
          exact ⟨rfl, hfin⟩
  · go_wp2_with fail
    go_ret
    exact ⟨rfl, HB1.out⟩
end Go.Proofs.Ytijcmdcjjcemfaa
