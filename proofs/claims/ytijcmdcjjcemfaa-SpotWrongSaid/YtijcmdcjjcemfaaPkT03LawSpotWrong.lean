/- SpotWrong: the law's walk. -/
import Derived.Test.YtijcmdcjjcemfaaPkT00LawSpotWrong
import Derived.Test.YtijcmdcjjcemfaaPkT02LawSpotWrong
import Derived.OrdersHeld
import Derived.Deep.RegionHeld
import Derived.Deep.RegionHeld3
import Derived.Deep.CutBlock
namespace Go.Proofs.Ytijcmdcjjcemfaa
open Go.ChangeShapes Go.WideShapes Go.ChangeAt Go.RowKit Go.Joins Go.Shelf
set_option linter.unusedVariables false
set_option linter.unusedSimpArgs false

theorem conv_one {W : World} {b p : Nat} (h : BytesBlk W b [p]) : (convert 35 9 (.slice (some ⟨b, 0, none⟩) 1 1)).run Try.prog W = .ok (.string (strOf8 [p])) W := by
  have := convert_bytes (P := Try.prog) (b := b) (off := 0) (cap := 1) (ns := [p]) Try.underlying35 Try.underlying5 Try.underlying9 (BytesBlk.cells h)
  exact this
theorem conv_bytes {W : World} {b m : Nat} (h : BytesBlk W b (List.replicate m 0)) : (convert 35 9 (.slice (some ⟨b, 0, none⟩) m m)).run Try.prog W = .ok (.string (zeroN m)) W := by
  have := convert_bytes (P := Try.prog) (b := b) (off := 0) (cap := m) (ns := List.replicate m 0) Try.underlying35 Try.underlying5 Try.underlying9 (BytesBlk.cells h)
  rw [List.length_replicate] at this
  exact this
theorem own_cell_at {W : World} {B g c n ix : Nat} {Y : List ByteArray} (h : W.ownsRow B 9 1 (.slice (some ⟨g, 0, none⟩) n c) n (Y.map Value.string)) (hi : ix < n) (hl : Y.length = n) :
    W.cell? ⟨g, ix, none⟩ = some (.string (Y.getD ix ByteArray.empty)) ∧ W.frozen? ⟨g, ix, none⟩ = false := by
  refine ⟨?_, h.frozenAt ix⟩
  have hy : ix < Y.length := by omega
  rw [h.cellAt ix (by omega), List.getElem?_map, List.getElem?_eq_getElem hy, List.getElem_eq_getD (fallback := ByteArray.empty)]
  rfl

set_option maxRecDepth 100000 in
set_option maxHeartbeats 16000000 in
theorem spotWrong_walk (c0 c1 c2 : Value) (S : List T3) (L : List ByteArray) (bs : List Bool) (w : World) (hS : ThreesIn w c0 S) (hL : TextsIn w c1 L) (hB : BoolsIn w c2 bs) (hS2 : S.length ≤ 9223372036854775807) :
    Calls Try.prog 4 #[.agg #[c0, c1, c2]] w fun e w' => e = .returned (.bool true) ∧ Below w.heap.size w w' := by
  obtain ⟨l0, hlb, hv0, hv1, hv2⟩ := info_parts infoBool
  have tA := Three.new w c0 c1 c2 26
  have hbe := (Below.refl w.heap.size w).alloc (Nat.le_refl _) (.cells #[c0, c1, c2] 26)
  have TA := Lib.hid tA
  have HBE := Lib.hid hbe
  have HS := Lib.hid (hS.below hbe)
  have HL := Lib.hid (hL.row.below hbe)
  have HHX := Lib.hid (heavy4_any c0 c1 c2 S L bs (w.alloc (.cells #[c0, c1, c2] 26)) (hS.below hbe) (hL.below hbe) (hB.below hbe) hS2)
  obtain ⟨A, c, rfl⟩ := hS.len
  obtain ⟨pL, kL, rfl⟩ := hL.row.shape
  have HBO := Lib.hid (hB.below hbe)
  obtain ⟨pb, cb, rfl, _⟩ := hB
  obtain ⟨a0, a1, a2, _, _, _⟩ := tA
  clear hbe hS hL
  go_enter Try.func4, Try.ntmps4
  go_wp2_with fail
  clear a0 a1 a2
  generalize w.alloc (.cells #[.slice A S.length c, .slice pL L.length kL, .slice pb bs.length cb] 26) = W0 at *
  refine HHX.out.mono ?_
  rintro e w1 ⟨bo, hfew, rfl, hb1⟩
  have TA1 := Lib.hid (TA.out.below hb1)
  have HS1 := Lib.hid (HS.out.below hb1)
  have HL1 := Lib.hid (HL.out.below hb1)
  have HBO1 := Lib.hid (HBO.out.below hb1)
  have HB1 := Lib.hid (HBE.out.trans (hb1.mono HBE.out.size))
  have HFW := Lib.hid hfew
  clear hb1 TA HS HL HHX HBO hfew
  cases bo
  · obtain ⟨ht4, hb100, hs50⟩ := HFW.out rfl
    have hLlen : L.length ≤ 4000 := by unfold total at ht4; omega
    have HSZ : Hid (∀ x ∈ L, x.size ≤ 100000) := fun x hx => by
      obtain ⟨q, hq, rfl⟩ := List.getElem_of_mem hx
      have h2 := total_get hq
      rw [← List.getElem_eq_getD (h := hq)] at h2
      omega
    clear HFW ht4
    go_wp2_with fail
    go_loopw [3] (fun nn wr => ∃ i : Nat, nn = .int .i64 i ∧ i ≤ 2 ∧ Hid (Below w1.heap.size w1 wr)) (fun nn _ => 2 - (intOf nn).toNat)
    case atStart => exact ⟨0, rfl, by omega, Lib.hid (Below.refl _ _)⟩
    case round =>
      obtain ⟨i, rfl, hi4, HB⟩ := hrel
      obtain ⟨a0, a1, a2, _, _, _⟩ := TA1.out.below HB.out
      by_cases hil : i < S.length ∧ i < 2
      · obtain ⟨hl0, hi3⟩ := hil
        have hid1 : decide ((i : Int) < (S.length : Int)) = true := by simp; omega
        have hid2 : decide ((i : Int) < 2) = true := by simp; omega
        have i0 : (0 : Int) ≤ (i : Int) := by omega
        have i1 : (i : Int) < (S.length : Int) := by omega
        obtain ⟨b, o, cS, e, s, hs, p0, p1, p2⟩ := (HS1.out.below HB.out).at_ hl0
        cases e
        obtain ⟨k, m, z⟩ := s
        dsimp only at p0 p1 p2
        clear hs
        have P0r := Lib.hid p0
        have P1r := Lib.hid p1
        have P2r := Lib.hid p2
        obtain ⟨K, hK⟩ : ∃ K : Nat, 1 + withinI k 3 = (K : Int) := ⟨(1 + withinI k 3).toNat, by have := within_bd k 3 (by omega) (by omega); omega⟩
        obtain ⟨M, hM⟩ : ∃ M : Nat, withinI m 5 = (M : Int) := ⟨(withinI m 5).toNat, by have := within_bd m 5 (by omega) (by omega); omega⟩
        obtain ⟨Z, hZ⟩ : ∃ Z : Nat, 1 + withinI z 3 = (Z : Int) := ⟨(1 + withinI z 3).toNat, by have := within_bd z 3 (by omega) (by omega); omega⟩
        have hKb : 1 ≤ K ∧ K ≤ 3 := by have := within_bd k 3 (by omega) (by omega); omega
        have hMb : M ≤ 4 := by have := within_bd m 5 (by omega) (by omega); omega
        have hZb : 1 ≤ Z ∧ Z ≤ 3 := by have := within_bd z 3 (by omega) (by omega); omega
        obtain ⟨k1, k3⟩ := hKb
        obtain ⟨hZ1, hZ3⟩ := hZb
        have k8 : K ≤ 8 := by omega
        have m6 : M ≤ 6 := by omega
        obtain ⟨n, hn⟩ : ∃ n, n = K + M := ⟨_, rfl⟩
        have wn : IntKind.i64.wrap ((K : Int) + (M : Int)) = (n : Int) := by rw [IntWalk.i64_in _ (by omega)]; omega
        have hn14 : n ≤ 7 := by omega
        have hn1 : 1 ≤ n := by omega
        have hKn : K ≤ n := by omega
        have HNN := Lib.hid hn
        clear hn
        go_wp2_with fail
        refine (small_any k m z wr).mono ?_
        rintro e w5 ⟨rfl, hb5⟩
        rw [hK, hM, hZ]
        have t4 := Three.new w5 (.int .i64 (K : Int)) (.int .i64 (M : Int)) (.int .i64 (Z : Int)) 29
        obtain ⟨o4, ho4⟩ : ∃ o, o = (Obj.cells #[.int .i64 (K : Int), .int .i64 (M : Int), .int .i64 (Z : Int)] 29) := ⟨_, rfl⟩
        rw [← ho4] at t4
        have hb4 := (Below.refl w5.heap.size w5).alloc (Nat.le_refl _) o4
        have T4 := Lib.hid t4
        have HW4 := Lib.hid (hb5.trans (hb4.mono hb5.size))
        have HB4 := Lib.hid (HB.out.trans ((hb5.trans (hb4.mono hb5.size)).mono HB.out.size))
        obtain ⟨x0, x1, x2, _, _, _⟩ := t4
        rw [ho4] at x0 x1 x2
        clear hb4 hb5 hK hM hZ a0 a1 a2 p0 p1 p2
        go_upto_region 7 with fail
        rw [← ho4]
        clear x0 x1 x2 ho4
        generalize w5.alloc o4 = wcc at *
        generalize w5.heap.size = b4 at *
        have T1 := Lib.hid (TA1.out.below HB4.out)
        have HL4 := Lib.hid (HL1.out.below HB4.out)
        obtain ⟨x0, x1, x2, _, _, _⟩ := T4.out
        obtain ⟨a0, a1, a2, _, _, _⟩ := T1.out
        go_upto_region 8 with fail
        clear x0 x1 x2 a0 a1 a2
        have T4c := T4
        have T1c := T1
        have HLc := HL4
        have HBc := HB4
        have HWC := HW4
        go_cut [6] from 47 to 55 (fun vx wx => ∃ (X : List ByteArray) (gX cX : Nat), vx = .slice (some ⟨gX, 0, none⟩) n cX ∧ Hid (IsCode n K Z X) ∧ Hid (wx.ownsRow wcc.heap.size 9 1 (.slice (some ⟨gX, 0, none⟩) n cX) n (X.map Value.string)) ∧ Hid (Below wcc.heap.size wcc wx))
        case first =>
          refine wp_region_held (S := fun W' => Below wcc.heap.size wcc W') (by kernel_rfl) ?_
          change wpAnyH _ _ _ _ _ 10 _ _ wcc.drew
          have hcum := (Below.refl wcc.heap.size wcc).drew
          generalize wcc.drew = V0 at *
          refine wpAnyH_take (i := 0) (oi := { dst := some 47, op := Op.load 29 (Operand.tmp 4), type := 29, pos := "law.go:36", after := #[], guard := none }) (v := ?_) rfl (by kernel_rfl) (by kernel_rfl) (by kernel_rfl) (fun _ _ _ h => h) (Or.inl ⟨by rfl, fun W' hW' => ?_⟩) hcum ?_
          rotate_left 1
          · (obtain ⟨x0, x1, x2, _, _, _⟩ := T4c.out.below hW'; obtain ⟨a0, a1, a2, _, _, _⟩ := T1c.out.below hW'; go_simp)
            try rfl
          try simp only [Act.put, List.setIfInBounds_toArray, List.set_cons_zero, List.set_cons_succ]
          refine wpAnyH_take (i := 1) (oi := { dst := some 48, op := Op.fieldAddr 26 (Operand.tmp 1) 1, type := 0, pos := "law.go:36", after := #[], guard := none }) (v := ?_) rfl (by kernel_rfl) (by kernel_rfl) (by kernel_rfl) (fun _ _ _ h => h) (Or.inl ⟨by rfl, fun W' hW' => ?_⟩) hcum ?_
          rotate_left 1
          · go_simp
            try rfl
          try simp only [Act.put, List.setIfInBounds_toArray, List.set_cons_zero, List.set_cons_succ]
          refine wpAnyH_take (i := 2) (oi := { dst := some 49, op := Op.load 23 (Operand.tmp 48), type := 23, pos := "law.go:36", after := #[{ on := 1, ground := Ground.data }], guard := none }) (v := ?_) rfl (by kernel_rfl) (by kernel_rfl) (by kernel_rfl) (fun _ _ _ h => h) (Or.inl ⟨by rfl, fun W' hW' => ?_⟩) hcum ?_
          rotate_left 1
          · (obtain ⟨x0, x1, x2, _, _, _⟩ := T4c.out.below hW'; obtain ⟨a0, a1, a2, _, _, _⟩ := T1c.out.below hW'; go_simp)
            try rfl
          try simp only [Act.put, List.setIfInBounds_toArray, List.set_cons_zero, List.set_cons_succ]
          refine wpAnyH_take (i := 3) (oi := { dst := some 50, op := Op.fieldAddr 29 (Operand.tmp 4) 0, type := 0, pos := "law.go:36", after := #[], guard := none }) (v := ?_) rfl (by kernel_rfl) (by kernel_rfl) (by kernel_rfl) (fun _ _ _ h => h) (Or.inl ⟨by rfl, fun W' hW' => ?_⟩) hcum ?_
          rotate_left 1
          · go_simp
            try rfl
          try simp only [Act.put, List.setIfInBounds_toArray, List.set_cons_zero, List.set_cons_succ]
          refine wpAnyH_take (i := 4) (oi := { dst := some 51, op := Op.load 3 (Operand.tmp 50), type := 3, pos := "law.go:36", after := #[{ on := 3, ground := Ground.data }], guard := none }) (v := ?_) rfl (by kernel_rfl) (by kernel_rfl) (by kernel_rfl) (fun _ _ _ h => h) (Or.inl ⟨by rfl, fun W' hW' => ?_⟩) hcum ?_
          rotate_left 1
          · (obtain ⟨x0, x1, x2, _, _, _⟩ := T4c.out.below hW'; obtain ⟨a0, a1, a2, _, _, _⟩ := T1c.out.below hW'; go_simp)
            try rfl
          try simp only [Act.put, List.setIfInBounds_toArray, List.set_cons_zero, List.set_cons_succ]
          refine wpAnyH_take (i := 5) (oi := { dst := some 52, op := Op.fieldAddr 29 (Operand.tmp 4) 2, type := 0, pos := "law.go:36", after := #[], guard := none }) (v := ?_) rfl (by kernel_rfl) (by kernel_rfl) (by kernel_rfl) (fun _ _ _ h => h) (Or.inl ⟨by rfl, fun W' hW' => ?_⟩) hcum ?_
          rotate_left 1
          · go_simp
            try rfl
          try simp only [Act.put, List.setIfInBounds_toArray, List.set_cons_zero, List.set_cons_succ]
          refine wpAnyH_take (i := 6) (oi := { dst := some 53, op := Op.load 3 (Operand.tmp 52), type := 3, pos := "law.go:36", after := #[{ on := 5, ground := Ground.data }], guard := none }) (v := ?_) rfl (by kernel_rfl) (by kernel_rfl) (by kernel_rfl) (fun _ _ _ h => h) (Or.inl ⟨by rfl, fun W' hW' => ?_⟩) hcum ?_
          rotate_left 1
          · (obtain ⟨x0, x1, x2, _, _, _⟩ := T4c.out.below hW'; obtain ⟨a0, a1, a2, _, _, _⟩ := T1c.out.below hW'; go_simp)
            try rfl
          try simp only [Act.put, List.setIfInBounds_toArray, List.set_cons_zero, List.set_cons_succ]
          refine wpAnyH_ready (rs := [7]) (by kernel_rfl) (by simp) ?_
          refine AllReadyH.cons (o := { dst := some 54, op := Op.call { callee := Callee.value (Operand.func 9), args := #[Operand.tmp 49, Operand.tmp 51, Operand.tmp 53], argTypes := #[23, 3, 3] }, type := 23, pos := "law.go:36", after := #[{ on := 2, ground := Ground.data }, { on := 4, ground := Ground.data }, { on := 6, ground := Ground.data }], guard := none }) rfl (fun KK hK => ?_) AllReadyH.nil
          rw [if_pos (by rfl)]
          go_simp
          have HC := fitted_any (.slice pL L.length kL) L K Z V0 (HLc.out.below hcum) (by omega) HSZ.out (by omega) (by omega) (by omega)
          with_reducible refine HC.mono ?_
          rintro e V1 ⟨vd, F, rfl, hof, hFl, hFz, hbe⟩
          obtain ⟨gD, cD, rfl, _, _, _, _⟩ := own_room hof k1
          have HFL := Lib.hid hFl
          have HFZ := Lib.hid hFz
          have HSF : Hid (Strs6 V1 (.slice (some ⟨gD, 0, none⟩) K cD) F) := by show RowIs _ _ F.length 1 _; rw [HFL.out]; exact RowIs.of_own hof
          clear HC hof hFl hFz
          have hcum := hcum.trans (hbe.mono hcum.size)
          refine hK.out _ _ hcum (fun _ => ?_)
          clear hK hbe
          try simp only [Act.put, List.setIfInBounds_toArray, List.set_cons_zero, List.set_cons_succ]
          refine wpAnyH_ready (rs := [8]) (by kernel_rfl) (by simp) ?_
          refine AllReadyH.cons (o := { dst := some 55, op := Op.call { callee := Callee.value (Operand.func 8), args := #[Operand.tmp 47, Operand.tmp 54], argTypes := #[29, 23] }, type := 23, pos := "law.go:36", after := #[{ on := 0, ground := Ground.data }, { on := 7, ground := Ground.data }, { on := 7, ground := Ground.chain }], guard := none }) rfl (fun KK hK => ?_) AllReadyH.nil
          rw [if_pos (by rfl)]
          go_simp
          refine (refEncode_any K M (Z : Int) (.slice (some ⟨gD, 0, none⟩) K cD) F V1 k1 k8 m6 (by omega) (by omega) HSF.out HFL.out (fun s hs => by rw [Int.toNat_natCast]; exact HFZ.out s hs)).mono ?_
          rintro e V2 ⟨rx, rfl, hox, hbe⟩
          rw [encL_nat, ← HNN.out, Int.toNat_natCast] at hox
          obtain ⟨X, hX⟩ : ∃ X, X = applyL (genL n K) F n K Z := ⟨_, rfl⟩
          rw [← hX] at hox
          have HXC : Hid (IsCode n K Z X) := ⟨F, HFL.out, HFZ.out, hX⟩
          have hbase := hcum.size
          clear hX
          have hcum := hcum.trans (hbe.mono hcum.size)
          refine hK.out _ _ hcum (fun _ => ?_)
          clear hK hbe
          try simp only [Act.put, List.setIfInBounds_toArray, List.set_cons_zero, List.set_cons_succ]
          refine wpAnyH_take (i := 9) (oi := { dst := some 6, op := Op.assign (Operand.tmp 55), type := 23, pos := "law.go:36", after := #[{ on := 8, ground := Ground.data }, { on := 8, ground := Ground.chain }, { on := 0, ground := Ground.phase }, { on := 1, ground := Ground.phase }, { on := 2, ground := Ground.phase }, { on := 3, ground := Ground.phase }, { on := 4, ground := Ground.phase }, { on := 5, ground := Ground.phase }, { on := 6, ground := Ground.phase }, { on := 7, ground := Ground.phase }, { on := 8, ground := Ground.phase }], guard := none }) (v := ?_) rfl (by kernel_rfl) (by kernel_rfl) (by kernel_rfl) (fun _ _ _ h => h) (Or.inl ⟨by rfl, fun W' hW' => ?_⟩) hcum ?_
          rotate_left 1
          · go_simp
            try rfl
          try simp only [Act.put, List.setIfInBounds_toArray, List.set_cons_zero, List.set_cons_succ]
          refine wpAnyH_done (by kernel_rfl) ?_ _
          obtain ⟨gX, cX, rfl, _, _, _, _⟩ := own_room hox hn1
          have hox2 := World.ownsRow.mono hox hbase
          go_wp2_with fail
          go_meet
          exact ⟨X, gX, cX, rfl, HXC, Lib.hid hox2, Lib.hid hcum⟩
        case rest =>
          obtain ⟨w8, rfl⟩ : ∃ w8 : World, w8 = wc := ⟨_, rfl⟩
          obtain ⟨X, gX, cX, rfl, HXC, HOX, HB8c⟩ := hcut
          have HXL := Lib.hid (code_len HXC.out)
          have HXZ := Lib.hid (code_size HXC.out)
          obtain ⟨_, _, eqx, hgX, _, hcX, hcX2⟩ := own_room HOX.out hn1
          cases eqx
          have hKcX : K ≤ cX := by omega
          have hKcXi : (K : Int) ≤ (cX : Int) := by omega
          have hK0i : (0 : Int) ≤ (K : Int) := by omega
          have HY0 : Hid (X.length = n ∧ ∀ s ∈ X, s.size = Z) := ⟨HXL.out, HXZ.out⟩
          clear wn HXC HXL HXZ
          go_wp2_with fail
          go_loopw [7] (fun kv wr => ∃ (q : Nat) (Y : List ByteArray), kv = .int .i64 q ∧ q ≤ n ∧ Hid (Y.length = n ∧ ∀ s ∈ Y, s.size = Z) ∧ Hid (wr.ownsRow wcc.heap.size 9 1 (.slice (some ⟨gX, 0, none⟩) n cX) n (Y.map Value.string)) ∧ Hid (Below wcc.heap.size wcc wr)) (fun kv _ => n - (intOf kv).toNat)
          case atStart => exact ⟨0, X, rfl, by omega, HY0, HOX, HB8c⟩
          case round =>
            clear HY0 HOX HB8c
            obtain ⟨wr, rfl⟩ : ∃ wr0 : World, wr0 = wr := ⟨_, rfl⟩
            obtain ⟨q, Y, rfl, hqn, HY, HOr, HBr⟩ := hrel
            have T4r := Lib.hid (T4c.out.below HBr.out)
            have T1r := Lib.hid (T1c.out.below HBr.out)
            have HSY : Hid (Strs6 wr (.slice (some ⟨gX, 0, none⟩) n cX) Y) := by show RowIs _ _ Y.length 1 _; rw [HY.out.1]; exact RowIs.of_own HOr.out
            by_cases hlt : q < n
            · have hqd : decide ((q : Int) < (n : Int)) = true := by simp; omega
              go_wp2_with fail
              have HCP := copyStrs6_any (.slice (some ⟨gX, 0, none⟩) n cX) Y wr HSY.out (by rw [HY.out.1]; omega)
              rw [HY.out.1] at HCP
              with_reducible refine HCP.mono ?_
              rintro e w9 ⟨ro, rfl, hoo, hb9⟩
              obtain ⟨gI, cI, rfl, _, _, _, _⟩ := own_room hoo hn1
              have HSI9 : Hid (Strs6 w9 (.slice (some ⟨gI, 0, none⟩) n cI) Y) := by show RowIs _ _ Y.length 1 _; rw [HY.out.1]; exact RowIs.of_own hoo
              have HRI : Hid (RoomS (.slice (some ⟨gI, 0, none⟩) n cI) Y) := roomS_own (by rw [HY.out.1]; exact hoo)
              have T49 := Lib.hid (T4r.out.below hb9)
              have HB9 := Lib.hid hb9
              clear HCP hoo hb9
              obtain ⟨x0, x1, x2, _, _, _⟩ := T49.out
              obtain ⟨fo, hfo⟩ : ∃ fo, fo = foundL n K M Z Y := ⟨_, rfl⟩
              have HFO := Lib.hid hfo
              obtain ⟨U, hU⟩ : ∃ U, U = unlO n Y fo := ⟨_, rfl⟩
              have HUU := Lib.hid hU
              obtain ⟨C, hC⟩ : ∃ C : List ByteArray, C = fo.getD [] := ⟨_, rfl⟩
              have HCC := Lib.hid hC
              obtain ⟨E, hE⟩ : ∃ E : Int, E = errO fo := ⟨_, rfl⟩
              have HEE := Lib.hid hE
              obtain ⟨dN, hdN⟩ : ∃ dN, dN = unlN (encL (K : Int) (M : Int) (Z : Int) (Y.take K)) Y n := ⟨_, rfl⟩
              have HDN := Lib.hid hdN
              obtain ⟨dL, hdL⟩ : ∃ dL, dL = dN.length := ⟨_, rfl⟩
              have HDL : Hid (dN.length = dL) := hdL.symm
              clear hfo hU hC hE hdN hdL
              have hUn : U.length ≤ 7 := by
                rw [HUU.out]
                cases fo with
                | none => exact Nat.zero_le _
                | some c => exact Nat.le_trans (unlN_le c Y n) hn14
              have hCn : C.length ≤ 7 := by
                rw [HCC.out]
                cases hf : fo with
                | none => exact Nat.zero_le _
                | some c => show c.length ≤ 7; rw [code_len (found_code (l := Y) HNN.out (by rw [← HFO.out]; exact hf)).1]; exact hn14
              go_wp2_with fail
              have HC := wrong_yes K M Z (.slice (some ⟨gI, 0, none⟩) n cI) Y w9 k1 k8 m6 hZ1 (by omega) HSI9.out (by rw [HY.out.1, HNN.out]) HY.out.2
              rw [← HNN.out, ← HFO.out, ← HUU.out, ← HEE.out] at HC
              with_reducible refine HC.mono ?_
              rintro e w10 ⟨rl, rfl, hol, hb10⟩
              have hil : Ints6 w10 rl U := Ints6.own hol rfl
              obtain ⟨Al, cl, rfl⟩ := hil.shape
              have HIL10 := Lib.hid hil
              have HSI10 := Lib.hid (HSI9.out.below hb10)
              have T410 := Lib.hid (T49.out.below hb10)
              have HB10 := Lib.hid (HB9.out.trans (hb10.mono HB9.out.size))
              clear HC hol hil hb10 x0 x1 x2
              obtain ⟨x0, x1, x2, _, _, _⟩ := T410.out
              go_wp2_with fail
              have HC := mended_yes K M Z (.slice (some ⟨gI, 0, none⟩) n cI) Y w10 k1 k8 m6 hZ1 (by omega) HSI10.out (by rw [HY.out.1, HNN.out]) HY.out.2
              rw [← HNN.out, ← HFO.out, ← HEE.out] at HC
              with_reducible refine HC.mono ?_
              rintro e w11 ⟨rm, rfl, hom, hb11⟩
              have hsm : Strs6 w11 rm C := by
                rw [HCC.out]
                cases fo with
                | none => have h : rm = .slice none 0 0 := hom; rw [h]; exact RowIs.nil _ _ _ _
                | some c => exact RowIs.of_own hom
              obtain ⟨Am, cm, rfl⟩ := hsm.shape
              have HSM11 := Lib.hid hsm
              have HIL11 := Lib.hid (HIL10.out.below hb11)
              have HSI11 := Lib.hid (HSI10.out.below hb11)
              have T411 := Lib.hid (T410.out.below hb11)
              have HB11 := Lib.hid (HB10.out.trans (hb11.mono HB10.out.size))
              clear HC hom hsm hb11 x0 x1 x2
              obtain ⟨x0, x1, x2, _, _, _⟩ := T411.out
              go_wp2_with fail
              have HC := near_yes K M Z (.slice (some ⟨gI, 0, none⟩) n cI) Y w11 k1 k8 m6 hZ1 (by omega) HSI11.out HRI.out (by rw [HY.out.1, HNN.out]) HY.out.2
              rw [← HNN.out, ← HDN.out, HDL.out] at HC
              with_reducible refine HC.mono ?_
              rintro e w12 ⟨rfl, hb12⟩
              have HSM12 := Lib.hid (HSM11.out.below hb12)
              have HIL12 := Lib.hid (HIL11.out.below hb12)
              have HSI12 := Lib.hid (HSI11.out.below hb12)
              have T412 := Lib.hid (T411.out.below hb12)
              have HB12 := Lib.hid (HB11.out.trans (hb12.mono HB11.out.size))
              have HSY12 := Lib.hid (HSY.out.below HB12.out)
              clear HC hb12 x0 x1 x2
              obtain ⟨x0, x1, x2, _, _, _⟩ := T412.out
              go_wp2_with fail
              have HC := refWrong_any K M Z n Y k1 k8 m6 hZ1 (by omega) HNN.out HY.out.1 HY.out.2 (.slice (some ⟨gX, 0, none⟩) n cX) w12 HSY12.out
              rw [← HFO.out] at HC
              with_reducible refine HC.mono ?_
              rintro e wt ⟨vx, vy, rfl, htr, hb13⟩
              obtain ⟨wz, rfl⟩ : ∃ wz : World, wz = wt := ⟨_, rfl⟩
              have HTR := Lib.hid htr
              have HSM := Lib.hid (HSM12.out.below hb13)
              have HIL := Lib.hid (HIL12.out.below hb13)
              have HSYi := Lib.hid (HSI12.out.below hb13)
              have HSYx := Lib.hid (HSY12.out.below hb13)
              have T4z := Lib.hid (T412.out.below hb13)
              have HBz := Lib.hid (HB12.out.trans (hb13.mono HB12.out.size))
              clear HC htr hb13 x0 x1 x2
              have hUnl : Hid (∀ c, fo = some c → U = unlN Y c n) := fun c h => by rw [HUU.out, h]; exact unlN_comm c Y n
              obtain ⟨bo, hbo⟩ : ∃ bo, bo = fo.isSome := ⟨_, rfl⟩
              rw [← hbo]
              have HBO := Lib.hid hbo
              clear hbo
              go_upto_if 89 with fail
              go_cut [15, 16, 18] from 88 to 89 (fun vw vd vb wx => ∃ Aw cw Ad cd, vw = .slice Aw C.length cw ∧ vd = .slice Ad U.length cd ∧ vb = .int .i64 E ∧ Hid (Strs6 wx (.slice Aw C.length cw) C) ∧ Hid (Ints6 wx (.slice Ad U.length cd) U) ∧ wz = wx)
              case first =>
                cases bo
                · have hfn : fo = none := by cases fo with
                    | none => rfl
                    | some c => exact absurd HBO.out (by simp)
                  have hC0 : C = [] := by rw [HCC.out, hfn]; rfl
                  have hU0 : U = [] := by rw [HUU.out, hfn]; rfl
                  have hE8 : E = 8 := by rw [HEE.out, hfn]; rfl
                  have HC0 := Lib.hid hC0
                  have HU0 := Lib.hid hU0
                  have HE8 := Lib.hid hE8
                  clear hC0 hU0 hE8 hfn
                  go_wp2_with fail
                  go_meet
                  exact ⟨none, 0, none, 0, by rw [HC0.out]; rfl, by rw [HU0.out]; rfl, by rw [HE8.out], by rw [HC0.out]; exact RowIs.nil _ _ _ _, by rw [HU0.out]; exact RowIs.nil _ _ _ _, rfl⟩
                · obtain ⟨c, hfs⟩ : ∃ c, fo = some c := by cases fo with
                    | none => exact absurd HBO.out (by simp)
                    | some c => exact ⟨c, rfl⟩
                  have hCc : C = c := by rw [HCC.out, hfs]; rfl
                  have hE0 : E = 0 := by rw [HEE.out, hfs]; rfl
                  have hUc := hUnl.out c hfs
                  have htr2 := HTR.out
                  rw [hfs] at htr2
                  obtain ⟨ho1, ho2⟩ : World.ownsRow wz _ _ _ vx c.length (c.map Value.string) ∧ World.ownsRow wz _ _ _ vy (unlN Y c n).length (i64s (unlN Y c n)) := htr2
                  rw [← hCc] at ho1
                  rw [← hUc] at ho2
                  have hsw : Strs6 wz vx C := RowIs.of_own ho1
                  have hid : Ints6 wz vy U := Ints6.own ho2 rfl
                  obtain ⟨Aw, cw, rfl⟩ := hsw.shape
                  obtain ⟨Ad, cd, rfl⟩ := hid.shape
                  have HSW1 := Lib.hid hsw
                  have HID1 := Lib.hid hid
                  have HE0 := Lib.hid hE0
                  clear hCc hE0 hUc ho1 ho2 hsw hid hfs
                  go_wp2_with fail
                  go_meet
                  exact ⟨Aw, cw, Ad, cd, rfl, rfl, by rw [HE0.out], HSW1, HID1, rfl⟩
              case rest =>
                obtain ⟨Aw, cw, Ad, cd, rfl, rfl, rfl, HSW, HID, hwz⟩ := hcut
                subst hwz
                have hEb : ((E : Int) == E) = true := by simp
                have hdb : ((dL : Int) == (dL : Int)) = true := by simp
                clear HTR HBO hUnl
                go_upto_region 20 with fail
                go_cut [135] from 90 to 135 (fun cv wx => cv = .bool false ∧ Hid (Below wz.heap.size wz wx))
                case first =>
                  refine wp_region_held (S := fun W' => Below wz.heap.size wz W') (by kernel_rfl) ?_
                  change wpAnyH _ _ _ _ _ 46 _ _ wz.drew
                  have hcum := (Below.refl wz.heap.size wz).drew
                  generalize wz.drew = V0 at *
                  refine wpAnyH_take (i := 0) (oi := { dst := some 90, op := Op.move (Operand.tmp 10), type := 36, pos := "law.go:47", after := #[], guard := none }) (v := ?_) rfl (by kernel_rfl) (by kernel_rfl) (by kernel_rfl) (fun _ _ _ h => h) (Or.inl ⟨by rfl, fun W' hW' => ?_⟩) hcum ?_
                  rotate_left 1
                  · go_simp
                    try rfl
                  try simp only [Act.put, List.setIfInBounds_toArray, List.set_cons_zero, List.set_cons_succ]
                  refine wpAnyH_take (i := 2) (oi := { dst := some 92, op := Op.move (Operand.tmp 18), type := 3, pos := "law.go:47", after := #[], guard := none }) (v := ?_) rfl (by kernel_rfl) (by kernel_rfl) (by kernel_rfl) (fun _ _ _ h => h) (Or.inl ⟨by rfl, fun W' hW' => ?_⟩) hcum ?_
                  rotate_left 1
                  · go_simp
                    try rfl
                  try simp only [Act.put, List.setIfInBounds_toArray, List.set_cons_zero, List.set_cons_succ]
                  refine wpAnyH_ready (rs := [1]) (by kernel_rfl) (by simp) ?_
                  refine AllReadyH.cons (o := { dst := some 91, op := Op.call { callee := Callee.value (Operand.func 13), args := #[Operand.tmp 90], argTypes := #[36] }, type := 3, pos := "law.go:47", after := #[{ on := 0, ground := Ground.data }], guard := none }) rfl (fun KK hK => ?_) AllReadyH.nil
                  rw [if_pos (by rfl)]
                  go_simp
                  refine (num5_any _ V0).mono ?_
                  rintro e V1 ⟨rfl, hVV⟩
                  have hbe : Below V0.heap.size V0 V1 := hVV ▸ Below.refl _ _
                  clear hVV
                  have hcum := hcum.trans (hbe.mono hcum.size)
                  refine hK.out _ _ hcum (fun _ => ?_)
                  clear hK hbe
                  try simp only [Act.put, List.setIfInBounds_toArray, List.set_cons_zero, List.set_cons_succ]
                  refine wpAnyH_take (i := 3) (oi := { dst := some 93, op := Op.binOp BinOp.neq 3 (Operand.tmp 91) (Operand.tmp 92) 3, type := 4, pos := "law.go:47", after := #[{ on := 1, ground := Ground.data }, { on := 2, ground := Ground.data }], guard := none }) (v := ?_) rfl (by kernel_rfl) (by kernel_rfl) (by kernel_rfl) (fun _ _ _ h => h) (Or.inl ⟨by rfl, fun W' hW' => ?_⟩) hcum ?_
                  rotate_left 1
                  · go_simp
                    try rfl
                  try simp only [Act.put, List.setIfInBounds_toArray, List.set_cons_zero, List.set_cons_succ]
                  refine wpAnyH_take (i := 4) (oi := { dst := some 94, op := Op.move (Operand.tmp 93), type := 4, pos := "law.go:47", after := #[{ on := 3, ground := Ground.data }, { on := 1, ground := Ground.chain }], guard := none }) (v := ?_) rfl (by kernel_rfl) (by kernel_rfl) (by kernel_rfl) (fun _ _ _ h => h) (Or.inl ⟨by rfl, fun W' hW' => ?_⟩) hcum ?_
                  rotate_left 1
                  · go_simp
                    try rfl
                  try simp only [Act.put, List.setIfInBounds_toArray, List.set_cons_zero, List.set_cons_succ]
                  refine wpAnyH_take (i := 5) (oi := { dst := some 95, op := Op.move (Operand.tmp 12), type := 36, pos := "law.go:47", after := #[{ on := 4, ground := Ground.guard }], guard := some (4, false) }) (v := ?_) rfl (by kernel_rfl) (by kernel_rfl) (by kernel_rfl) (fun _ _ _ h => h) (Or.inl ⟨by rfl, fun W' hW' => ?_⟩) hcum ?_
                  rotate_left 1
                  · go_simp
                    try rfl
                  try simp only [Act.put, List.setIfInBounds_toArray, List.set_cons_zero, List.set_cons_succ]
                  refine wpAnyH_take (i := 7) (oi := { dst := some 97, op := Op.move (Operand.tmp 18), type := 3, pos := "law.go:47", after := #[{ on := 4, ground := Ground.guard }], guard := some (4, false) }) (v := ?_) rfl (by kernel_rfl) (by kernel_rfl) (by kernel_rfl) (fun _ _ _ h => h) (Or.inl ⟨by rfl, fun W' hW' => ?_⟩) hcum ?_
                  rotate_left 1
                  · go_simp
                    try rfl
                  try simp only [Act.put, List.setIfInBounds_toArray, List.set_cons_zero, List.set_cons_succ]
                  refine wpAnyH_ready (rs := [6]) (by kernel_rfl) (by simp) ?_
                  refine AllReadyH.cons (o := { dst := some 96, op := Op.call { callee := Callee.value (Operand.func 13), args := #[Operand.tmp 95], argTypes := #[36] }, type := 3, pos := "law.go:47", after := #[{ on := 5, ground := Ground.data }, { on := 4, ground := Ground.chain }, { on := 4, ground := Ground.guard }], guard := some (4, false) }) rfl (fun KK hK => ?_) AllReadyH.nil
                  rw [if_pos (by rfl)]
                  go_simp
                  refine (num5_any _ V1).mono ?_
                  rintro e V2 ⟨rfl, hVV⟩
                  have hbe : Below V1.heap.size V1 V2 := hVV ▸ Below.refl _ _
                  clear hVV
                  have hcum := hcum.trans (hbe.mono hcum.size)
                  refine hK.out _ _ hcum (fun _ => ?_)
                  clear hK hbe
                  try simp only [Act.put, List.setIfInBounds_toArray, List.set_cons_zero, List.set_cons_succ]
                  refine wpAnyH_take (i := 8) (oi := { dst := some 98, op := Op.binOp BinOp.neq 3 (Operand.tmp 96) (Operand.tmp 97) 3, type := 4, pos := "law.go:47", after := #[{ on := 6, ground := Ground.data }, { on := 7, ground := Ground.data }, { on := 4, ground := Ground.guard }], guard := some (4, false) }) (v := ?_) rfl (by kernel_rfl) (by kernel_rfl) (by kernel_rfl) (fun _ _ _ h => h) (Or.inl ⟨by rfl, fun W' hW' => ?_⟩) hcum ?_
                  rotate_left 1
                  · go_simp
                    try rfl
                  try simp only [Act.put, List.setIfInBounds_toArray, List.set_cons_zero, List.set_cons_succ]
                  refine wpAnyH_take (i := 9) (oi := { dst := some 99, op := Op.pick (Operand.tmp 94) (Operand.const (Value.bool true)) (Operand.tmp 98), type := 4, pos := "law.go:47", after := #[{ on := 4, ground := Ground.data }, { on := 8, ground := Ground.data }], guard := none }) (v := ?_) rfl (by kernel_rfl) (by kernel_rfl) (by kernel_rfl) (fun _ _ _ h => h) (Or.inl ⟨by rfl, fun W' hW' => ?_⟩) hcum ?_
                  rotate_left 1
                  · go_simp
                    try rfl
                  try simp only [Act.put, List.setIfInBounds_toArray, List.set_cons_zero, List.set_cons_succ]
                  refine wpAnyH_take (i := 10) (oi := { dst := some 100, op := Op.move (Operand.tmp 99), type := 4, pos := "law.go:47", after := #[{ on := 9, ground := Ground.data }, { on := 6, ground := Ground.chain }], guard := none }) (v := ?_) rfl (by kernel_rfl) (by kernel_rfl) (by kernel_rfl) (fun _ _ _ h => h) (Or.inl ⟨by rfl, fun W' hW' => ?_⟩) hcum ?_
                  rotate_left 1
                  · go_simp
                    try rfl
                  try simp only [Act.put, List.setIfInBounds_toArray, List.set_cons_zero, List.set_cons_succ]
                  refine wpAnyH_take (i := 11) (oi := { dst := some 101, op := Op.move (Operand.tmp 14), type := 36, pos := "law.go:47", after := #[{ on := 10, ground := Ground.guard }], guard := some (10, false) }) (v := ?_) rfl (by kernel_rfl) (by kernel_rfl) (by kernel_rfl) (fun _ _ _ h => h) (Or.inl ⟨by rfl, fun W' hW' => ?_⟩) hcum ?_
                  rotate_left 1
                  · go_simp
                    try rfl
                  try simp only [Act.put, List.setIfInBounds_toArray, List.set_cons_zero, List.set_cons_succ]
                  refine wpAnyH_ready (rs := [12]) (by kernel_rfl) (by simp) ?_
                  refine AllReadyH.cons (o := { dst := some 102, op := Op.call { callee := Callee.value (Operand.func 13), args := #[Operand.tmp 101], argTypes := #[36] }, type := 3, pos := "law.go:47", after := #[{ on := 11, ground := Ground.data }, { on := 10, ground := Ground.chain }, { on := 10, ground := Ground.guard }], guard := some (10, false) }) rfl (fun KK hK => ?_) AllReadyH.nil
                  rw [if_pos (by rfl)]
                  go_simp
                  refine (num5_any _ V2).mono ?_
                  rintro e V3 ⟨rfl, hVV⟩
                  have hbe : Below V2.heap.size V2 V3 := hVV ▸ Below.refl _ _
                  clear hVV
                  have hcum := hcum.trans (hbe.mono hcum.size)
                  refine hK.out _ _ hcum (fun _ => ?_)
                  clear hK hbe
                  try simp only [Act.put, List.setIfInBounds_toArray, List.set_cons_zero, List.set_cons_succ]
                  refine wpAnyH_take (i := 13) (oi := { dst := some 103, op := Op.binOp BinOp.neq 3 (Operand.tmp 102) (Operand.const (Value.int IntKind.i64 0)) 3, type := 4, pos := "law.go:47", after := #[{ on := 12, ground := Ground.data }, { on := 10, ground := Ground.guard }], guard := some (10, false) }) (v := ?_) rfl (by kernel_rfl) (by kernel_rfl) (by kernel_rfl) (fun _ _ _ h => h) (Or.inl ⟨by rfl, fun W' hW' => ?_⟩) hcum ?_
                  rotate_left 1
                  · go_simp
                    try rfl
                  try simp only [Act.put, List.setIfInBounds_toArray, List.set_cons_zero, List.set_cons_succ]
                  refine wpAnyH_take (i := 14) (oi := { dst := some 104, op := Op.pick (Operand.tmp 100) (Operand.const (Value.bool true)) (Operand.tmp 103), type := 4, pos := "law.go:47", after := #[{ on := 10, ground := Ground.data }, { on := 13, ground := Ground.data }], guard := none }) (v := ?_) rfl (by kernel_rfl) (by kernel_rfl) (by kernel_rfl) (fun _ _ _ h => h) (Or.inl ⟨by rfl, fun W' hW' => ?_⟩) hcum ?_
                  rotate_left 1
                  · go_simp
                    try rfl
                  try simp only [Act.put, List.setIfInBounds_toArray, List.set_cons_zero, List.set_cons_succ]
                  refine wpAnyH_take (i := 15) (oi := { dst := some 105, op := Op.move (Operand.tmp 104), type := 4, pos := "law.go:47", after := #[{ on := 14, ground := Ground.data }, { on := 12, ground := Ground.chain }], guard := none }) (v := ?_) rfl (by kernel_rfl) (by kernel_rfl) (by kernel_rfl) (fun _ _ _ h => h) (Or.inl ⟨by rfl, fun W' hW' => ?_⟩) hcum ?_
                  rotate_left 1
                  · go_simp
                    try rfl
                  try simp only [Act.put, List.setIfInBounds_toArray, List.set_cons_zero, List.set_cons_succ]
                  refine wpAnyH_take (i := 16) (oi := { dst := some 106, op := Op.move (Operand.tmp 9), type := 34, pos := "law.go:47", after := #[{ on := 15, ground := Ground.guard }], guard := some (15, false) }) (v := ?_) rfl (by kernel_rfl) (by kernel_rfl) (by kernel_rfl) (fun _ _ _ h => h) (Or.inl ⟨by rfl, fun W' hW' => ?_⟩) hcum ?_
                  rotate_left 1
                  · go_simp
                    try rfl
                  try simp only [Act.put, List.setIfInBounds_toArray, List.set_cons_zero, List.set_cons_succ]
                  refine wpAnyH_take (i := 17) (oi := { dst := some 107, op := Op.move (Operand.tmp 16), type := 34, pos := "law.go:47", after := #[{ on := 15, ground := Ground.guard }], guard := some (15, false) }) (v := ?_) rfl (by kernel_rfl) (by kernel_rfl) (by kernel_rfl) (fun _ _ _ h => h) (Or.inl ⟨by rfl, fun W' hW' => ?_⟩) hcum ?_
                  rotate_left 1
                  · go_simp
                    try rfl
                  try simp only [Act.put, List.setIfInBounds_toArray, List.set_cons_zero, List.set_cons_succ]
                  refine wpAnyH_ready (rs := [18]) (by kernel_rfl) (by simp) ?_
                  refine AllReadyH.cons (o := { dst := some 108, op := Op.call { callee := Callee.value (Operand.func 14), args := #[Operand.tmp 106, Operand.tmp 107], argTypes := #[34, 34] }, type := 4, pos := "law.go:47", after := #[{ on := 16, ground := Ground.data }, { on := 17, ground := Ground.data }, { on := 15, ground := Ground.chain }, { on := 15, ground := Ground.guard }], guard := some (15, false) }) rfl (fun KK hK => ?_) AllReadyH.nil
                  rw [if_pos (by rfl)]
                  go_simp
                  have HQ := eqNums_yes (.slice Al U.length cl) (.slice Ad U.length cd) U V3 (HIL.out.below hcum) (HID.out.below hcum) (by omega)
                  with_reducible refine HQ.mono ?_
                  rintro e V4 ⟨rfl, hbe⟩
                  clear HQ
                  have hcum := hcum.trans (hbe.mono hcum.size)
                  refine hK.out _ _ hcum (fun _ => ?_)
                  clear hK hbe
                  try simp only [Act.put, List.setIfInBounds_toArray, List.set_cons_zero, List.set_cons_succ]
                  refine wpAnyH_take (i := 19) (oi := { dst := some 109, op := Op.unOp UnOp.not 4 (Operand.tmp 108), type := 4, pos := "law.go:47", after := #[{ on := 18, ground := Ground.data }, { on := 15, ground := Ground.guard }], guard := some (15, false) }) (v := ?_) rfl (by kernel_rfl) (by kernel_rfl) (by kernel_rfl) (fun _ _ _ h => h) (Or.inl ⟨by rfl, fun W' hW' => ?_⟩) hcum ?_
                  rotate_left 1
                  · go_simp
                    try rfl
                  try simp only [Act.put, List.setIfInBounds_toArray, List.set_cons_zero, List.set_cons_succ]
                  refine wpAnyH_take (i := 20) (oi := { dst := some 110, op := Op.pick (Operand.tmp 105) (Operand.const (Value.bool true)) (Operand.tmp 109), type := 4, pos := "law.go:47", after := #[{ on := 15, ground := Ground.data }, { on := 19, ground := Ground.data }], guard := none }) (v := ?_) rfl (by kernel_rfl) (by kernel_rfl) (by kernel_rfl) (fun _ _ _ h => h) (Or.inl ⟨by rfl, fun W' hW' => ?_⟩) hcum ?_
                  rotate_left 1
                  · go_simp
                    try rfl
                  try simp only [Act.put, List.setIfInBounds_toArray, List.set_cons_zero, List.set_cons_succ]
                  refine wpAnyH_take (i := 21) (oi := { dst := some 111, op := Op.move (Operand.tmp 110), type := 4, pos := "law.go:47", after := #[{ on := 20, ground := Ground.data }, { on := 18, ground := Ground.chain }], guard := none }) (v := ?_) rfl (by kernel_rfl) (by kernel_rfl) (by kernel_rfl) (fun _ _ _ h => h) (Or.inl ⟨by rfl, fun W' hW' => ?_⟩) hcum ?_
                  rotate_left 1
                  · go_simp
                    try rfl
                  try simp only [Act.put, List.setIfInBounds_toArray, List.set_cons_zero, List.set_cons_succ]
                  refine wpAnyH_take (i := 22) (oi := { dst := some 112, op := Op.move (Operand.tmp 11), type := 23, pos := "law.go:47", after := #[{ on := 21, ground := Ground.guard }], guard := some (21, false) }) (v := ?_) rfl (by kernel_rfl) (by kernel_rfl) (by kernel_rfl) (fun _ _ _ h => h) (Or.inl ⟨by rfl, fun W' hW' => ?_⟩) hcum ?_
                  rotate_left 1
                  · go_simp
                    try rfl
                  try simp only [Act.put, List.setIfInBounds_toArray, List.set_cons_zero, List.set_cons_succ]
                  refine wpAnyH_take (i := 23) (oi := { dst := some 113, op := Op.move (Operand.tmp 15), type := 23, pos := "law.go:47", after := #[{ on := 21, ground := Ground.guard }], guard := some (21, false) }) (v := ?_) rfl (by kernel_rfl) (by kernel_rfl) (by kernel_rfl) (fun _ _ _ h => h) (Or.inl ⟨by rfl, fun W' hW' => ?_⟩) hcum ?_
                  rotate_left 1
                  · go_simp
                    try rfl
                  try simp only [Act.put, List.setIfInBounds_toArray, List.set_cons_zero, List.set_cons_succ]
                  refine wpAnyH_ready (rs := [24]) (by kernel_rfl) (by simp) ?_
                  refine AllReadyH.cons (o := { dst := some 114, op := Op.call { callee := Callee.value (Operand.func 15), args := #[Operand.tmp 112, Operand.tmp 113], argTypes := #[23, 23] }, type := 4, pos := "law.go:47", after := #[{ on := 22, ground := Ground.data }, { on := 23, ground := Ground.data }, { on := 21, ground := Ground.chain }, { on := 21, ground := Ground.guard }], guard := some (21, false) }) rfl (fun KK hK => ?_) AllReadyH.nil
                  rw [if_pos (by rfl)]
                  go_simp
                  have HQ := eqStrs6_yes (.slice Am C.length cm) (.slice Aw C.length cw) C V4 (HSM.out.below hcum) (HSW.out.below hcum) (by omega)
                  with_reducible refine HQ.mono ?_
                  rintro e V5 ⟨rfl, hbe⟩
                  clear HQ
                  have hcum := hcum.trans (hbe.mono hcum.size)
                  refine hK.out _ _ hcum (fun _ => ?_)
                  clear hK hbe
                  try simp only [Act.put, List.setIfInBounds_toArray, List.set_cons_zero, List.set_cons_succ]
                  refine wpAnyH_take (i := 25) (oi := { dst := some 115, op := Op.unOp UnOp.not 4 (Operand.tmp 114), type := 4, pos := "law.go:47", after := #[{ on := 24, ground := Ground.data }, { on := 21, ground := Ground.guard }], guard := some (21, false) }) (v := ?_) rfl (by kernel_rfl) (by kernel_rfl) (by kernel_rfl) (fun _ _ _ h => h) (Or.inl ⟨by rfl, fun W' hW' => ?_⟩) hcum ?_
                  rotate_left 1
                  · go_simp
                    try rfl
                  try simp only [Act.put, List.setIfInBounds_toArray, List.set_cons_zero, List.set_cons_succ]
                  refine wpAnyH_take (i := 26) (oi := { dst := some 116, op := Op.pick (Operand.tmp 111) (Operand.const (Value.bool true)) (Operand.tmp 115), type := 4, pos := "law.go:47", after := #[{ on := 21, ground := Ground.data }, { on := 25, ground := Ground.data }], guard := none }) (v := ?_) rfl (by kernel_rfl) (by kernel_rfl) (by kernel_rfl) (fun _ _ _ h => h) (Or.inl ⟨by rfl, fun W' hW' => ?_⟩) hcum ?_
                  rotate_left 1
                  · go_simp
                    try rfl
                  try simp only [Act.put, List.setIfInBounds_toArray, List.set_cons_zero, List.set_cons_succ]
                  refine wpAnyH_take (i := 27) (oi := { dst := some 117, op := Op.move (Operand.tmp 116), type := 4, pos := "law.go:47", after := #[{ on := 26, ground := Ground.data }, { on := 24, ground := Ground.chain }], guard := none }) (v := ?_) rfl (by kernel_rfl) (by kernel_rfl) (by kernel_rfl) (fun _ _ _ h => h) (Or.inl ⟨by rfl, fun W' hW' => ?_⟩) hcum ?_
                  rotate_left 1
                  · go_simp
                    try rfl
                  try simp only [Act.put, List.setIfInBounds_toArray, List.set_cons_zero, List.set_cons_succ]
                  refine wpAnyH_take (i := 28) (oi := { dst := some 118, op := Op.move (Operand.tmp 13), type := 3, pos := "law.go:47", after := #[{ on := 27, ground := Ground.guard }], guard := some (27, false) }) (v := ?_) rfl (by kernel_rfl) (by kernel_rfl) (by kernel_rfl) (fun _ _ _ h => h) (Or.inl ⟨by rfl, fun W' hW' => ?_⟩) hcum ?_
                  rotate_left 1
                  · go_simp
                    try rfl
                  try simp only [Act.put, List.setIfInBounds_toArray, List.set_cons_zero, List.set_cons_succ]
                  refine wpAnyH_take (i := 29) (oi := { dst := some 119, op := Op.move (Operand.tmp 6), type := 23, pos := "law.go:47", after := #[{ on := 27, ground := Ground.guard }], guard := some (27, false) }) (v := ?_) rfl (by kernel_rfl) (by kernel_rfl) (by kernel_rfl) (fun _ _ _ h => h) (Or.inl ⟨by rfl, fun W' hW' => ?_⟩) hcum ?_
                  rotate_left 1
                  · go_simp
                    try rfl
                  try simp only [Act.put, List.setIfInBounds_toArray, List.set_cons_zero, List.set_cons_succ]
                  refine wpAnyH_take (i := 30) (oi := { dst := some 120, op := Op.load 29 (Operand.tmp 4), type := 29, pos := "law.go:47", after := #[{ on := 27, ground := Ground.guard }], guard := some (27, false) }) (v := ?_) rfl (by kernel_rfl) (by kernel_rfl) (by kernel_rfl) (fun _ _ _ h => h) (Or.inl ⟨by rfl, fun W' hW' => ?_⟩) hcum ?_
                  rotate_left 1
                  · (obtain ⟨x0, x1, x2, _, _, _⟩ := T4z.out.below hW'; go_simp)
                    try rfl
                  try simp only [Act.put, List.setIfInBounds_toArray, List.set_cons_zero, List.set_cons_succ]
                  refine wpAnyH_take (i := 31) (oi := { dst := some 121, op := Op.move (Operand.tmp 6), type := 23, pos := "law.go:47", after := #[{ on := 27, ground := Ground.guard }], guard := some (27, false) }) (v := ?_) rfl (by kernel_rfl) (by kernel_rfl) (by kernel_rfl) (fun _ _ _ h => h) (Or.inl ⟨by rfl, fun W' hW' => ?_⟩) hcum ?_
                  rotate_left 1
                  · go_simp
                    try rfl
                  try simp only [Act.put, List.setIfInBounds_toArray, List.set_cons_zero, List.set_cons_succ]
                  refine wpAnyH_take (i := 32) (oi := { dst := some 122, op := Op.fieldAddr 29 (Operand.tmp 4) 0, type := 0, pos := "law.go:47", after := #[{ on := 27, ground := Ground.guard }], guard := some (27, false) }) (v := ?_) rfl (by kernel_rfl) (by kernel_rfl) (by kernel_rfl) (fun _ _ _ h => h) (Or.inl ⟨by rfl, fun W' hW' => ?_⟩) hcum ?_
                  rotate_left 1
                  · go_simp
                    try rfl
                  try simp only [Act.put, List.setIfInBounds_toArray, List.set_cons_zero, List.set_cons_succ]
                  refine wpAnyH_take (i := 33) (oi := { dst := some 123, op := Op.load 3 (Operand.tmp 122), type := 3, pos := "law.go:47", after := #[{ on := 32, ground := Ground.data }, { on := 27, ground := Ground.guard }], guard := some (27, false) }) (v := ?_) rfl (by kernel_rfl) (by kernel_rfl) (by kernel_rfl) (fun _ _ _ h => h) (Or.inl ⟨by rfl, fun W' hW' => ?_⟩) hcum ?_
                  rotate_left 1
                  · (obtain ⟨x0, x1, x2, _, _, _⟩ := T4z.out.below hW'; go_simp)
                    try rfl
                  try simp only [Act.put, List.setIfInBounds_toArray, List.set_cons_zero, List.set_cons_succ]
                  refine wpAnyH_take (i := 34) (oi := { dst := some 124, op := Op.slice 23 (Operand.tmp 121) none (some (Operand.tmp 123)) none, type := 23, pos := "law.go:47", after := #[{ on := 31, ground := Ground.data }, { on := 33, ground := Ground.data }, { on := 27, ground := Ground.guard }], guard := some (27, false) }) (v := ?_) rfl (by kernel_rfl) (by kernel_rfl) (by kernel_rfl) (fun _ _ _ h => h) (Or.inl ⟨by rfl, fun W' hW' => ?_⟩) hcum ?_
                  rotate_left 1
                  · go_simp
                    try rfl
                  try simp only [Act.put, List.setIfInBounds_toArray, List.set_cons_zero, List.set_cons_succ]
                  refine wpAnyH_ready (rs := [35]) (by kernel_rfl) (by simp) ?_
                  refine AllReadyH.cons (o := { dst := some 125, op := Op.call { callee := Callee.value (Operand.func 8), args := #[Operand.tmp 120, Operand.tmp 124], argTypes := #[29, 23] }, type := 23, pos := "law.go:47", after := #[{ on := 30, ground := Ground.data }, { on := 34, ground := Ground.data }, { on := 27, ground := Ground.chain }, { on := 27, ground := Ground.guard }], guard := some (27, false) }) rfl (fun KK hK => ?_) AllReadyH.nil
                  rw [if_pos (by rfl)]
                  go_simp
                  refine (refEncode_any K M (Z : Int) (.slice (some ⟨gX, 0, none⟩) K cX) (Y.take K) V5 k1 k8 m6 (by omega) (by omega) (Strs6.take (by rw [HY.out.1]; exact HSYx.out.below hcum) (by rw [HY.out.1]; exact hKn)) (by rw [List.length_take, HY.out.1]; omega) (fun s hs => by rw [Int.toNat_natCast]; exact HY.out.2 s (List.mem_of_mem_take hs))).mono ?_
                  rintro e V6 ⟨re, rfl, hoe, hbe⟩
                  rw [← HNN.out] at hoe
                  have hse0 := RowIs.of_own hoe
                  obtain ⟨Ae, ce, rfl⟩ := own_shape hoe
                  have hse : Strs6 V6 (.slice Ae n ce) (encL (K : Int) (M : Int) (Z : Int) (Y.take K)) := by
                    show RowIs _ _ (encL _ _ _ _).length 1 _
                    rw [encL_len, show ((K : Int) + (M : Int)).toNat = n by rw [HNN.out]; omega]
                    exact hse0
                  have HSE := Lib.hid hse
                  clear hoe hse hse0
                  have hcum := hcum.trans (hbe.mono hcum.size)
                  refine hK.out _ _ hcum (fun _ => ?_)
                  clear hK hbe
                  try simp only [Act.put, List.setIfInBounds_toArray, List.set_cons_zero, List.set_cons_succ]
                  refine wpAnyH_ready (rs := [36]) (by kernel_rfl) (by simp) ?_
                  refine AllReadyH.cons (o := { dst := some 126, op := Op.call { callee := Callee.value (Operand.func 19), args := #[Operand.tmp 119, Operand.tmp 125], argTypes := #[23, 23] }, type := 34, pos := "law.go:47", after := #[{ on := 29, ground := Ground.data }, { on := 35, ground := Ground.data }, { on := 35, ground := Ground.chain }, { on := 27, ground := Ground.guard }], guard := some (27, false) }) rfl (fun KK hK => ?_) AllReadyH.nil
                  rw [if_pos (by rfl)]
                  go_simp
                  refine (refUnlike_any (.slice (some ⟨gX, 0, none⟩) n cX) (.slice Ae n ce) Y (encL (K : Int) (M : Int) (Z : Int) (Y.take K)) n V6 (HSYx.out.below hcum) HSE.out HY.out.1 (by rw [encL_len, HNN.out]; omega) (by omega)).mono ?_
                  rintro e V7 ⟨ru, rfl, hou, hbe⟩
                  rw [unlN_comm, ← HDN.out] at hou
                  obtain ⟨Au, cu, rfl⟩ := own_shape hou
                  rw [HDL.out]
                  clear hou
                  have hcum := hcum.trans (hbe.mono hcum.size)
                  refine hK.out _ _ hcum (fun _ => ?_)
                  clear hK hbe
                  try simp only [Act.put, List.setIfInBounds_toArray, List.set_cons_zero, List.set_cons_succ]
                  refine wpAnyH_take (i := 37) (oi := { dst := some 127, op := Op.call { callee := Callee.builtin Builtin.len, args := #[Operand.tmp 126], argTypes := #[34] }, type := 3, pos := "law.go:47", after := #[{ on := 36, ground := Ground.data }, { on := 27, ground := Ground.guard }], guard := some (27, false) }) (v := ?_) rfl (by kernel_rfl) (by kernel_rfl) (by kernel_rfl) (fun _ _ _ h => h) (Or.inl ⟨by rfl, fun W' hW' => ?_⟩) hcum ?_
                  rotate_left 1
                  · go_simp
                    try rfl
                  try simp only [Act.put, List.setIfInBounds_toArray, List.set_cons_zero, List.set_cons_succ]
                  refine wpAnyH_take (i := 38) (oi := { dst := some 128, op := Op.binOp BinOp.neq 3 (Operand.tmp 118) (Operand.tmp 127) 3, type := 4, pos := "law.go:47", after := #[{ on := 28, ground := Ground.data }, { on := 37, ground := Ground.data }, { on := 27, ground := Ground.guard }], guard := some (27, false) }) (v := ?_) rfl (by kernel_rfl) (by kernel_rfl) (by kernel_rfl) (fun _ _ _ h => h) (Or.inl ⟨by rfl, fun W' hW' => ?_⟩) hcum ?_
                  rotate_left 1
                  · go_simp
                    try rfl
                  try simp only [Act.put, List.setIfInBounds_toArray, List.set_cons_zero, List.set_cons_succ]
                  refine wpAnyH_take (i := 39) (oi := { dst := some 129, op := Op.pick (Operand.tmp 117) (Operand.const (Value.bool true)) (Operand.tmp 128), type := 4, pos := "law.go:47", after := #[{ on := 27, ground := Ground.data }, { on := 38, ground := Ground.data }], guard := none }) (v := ?_) rfl (by kernel_rfl) (by kernel_rfl) (by kernel_rfl) (fun _ _ _ h => h) (Or.inl ⟨by rfl, fun W' hW' => ?_⟩) hcum ?_
                  rotate_left 1
                  · go_simp
                    try rfl
                  try simp only [Act.put, List.setIfInBounds_toArray, List.set_cons_zero, List.set_cons_succ]
                  refine wpAnyH_take (i := 40) (oi := { dst := some 130, op := Op.move (Operand.tmp 129), type := 4, pos := "law.go:47", after := #[{ on := 39, ground := Ground.data }, { on := 36, ground := Ground.chain }], guard := none }) (v := ?_) rfl (by kernel_rfl) (by kernel_rfl) (by kernel_rfl) (fun _ _ _ h => h) (Or.inl ⟨by rfl, fun W' hW' => ?_⟩) hcum ?_
                  rotate_left 1
                  · go_simp
                    try rfl
                  try simp only [Act.put, List.setIfInBounds_toArray, List.set_cons_zero, List.set_cons_succ]
                  refine wpAnyH_take (i := 41) (oi := { dst := some 131, op := Op.move (Operand.tmp 8), type := 23, pos := "law.go:47", after := #[{ on := 40, ground := Ground.guard }], guard := some (40, false) }) (v := ?_) rfl (by kernel_rfl) (by kernel_rfl) (by kernel_rfl) (fun _ _ _ h => h) (Or.inl ⟨by rfl, fun W' hW' => ?_⟩) hcum ?_
                  rotate_left 1
                  · go_simp
                    try rfl
                  try simp only [Act.put, List.setIfInBounds_toArray, List.set_cons_zero, List.set_cons_succ]
                  refine wpAnyH_take (i := 42) (oi := { dst := some 132, op := Op.move (Operand.tmp 6), type := 23, pos := "law.go:47", after := #[{ on := 40, ground := Ground.guard }], guard := some (40, false) }) (v := ?_) rfl (by kernel_rfl) (by kernel_rfl) (by kernel_rfl) (fun _ _ _ h => h) (Or.inl ⟨by rfl, fun W' hW' => ?_⟩) hcum ?_
                  rotate_left 1
                  · go_simp
                    try rfl
                  try simp only [Act.put, List.setIfInBounds_toArray, List.set_cons_zero, List.set_cons_succ]
                  refine wpAnyH_ready (rs := [43]) (by kernel_rfl) (by simp) ?_
                  refine AllReadyH.cons (o := { dst := some 133, op := Op.call { callee := Callee.value (Operand.func 15), args := #[Operand.tmp 131, Operand.tmp 132], argTypes := #[23, 23] }, type := 4, pos := "law.go:47", after := #[{ on := 41, ground := Ground.data }, { on := 42, ground := Ground.data }, { on := 40, ground := Ground.chain }, { on := 40, ground := Ground.guard }], guard := some (40, false) }) rfl (fun KK hK => ?_) AllReadyH.nil
                  rw [if_pos (by rfl)]
                  go_simp
                  have HQ := eqStrs6_yes (.slice (some ⟨gI, 0, none⟩) n cI) (.slice (some ⟨gX, 0, none⟩) n cX) Y V7 (HSYi.out.below hcum) (HSYx.out.below hcum) (by rw [HY.out.1]; omega)
                  with_reducible refine HQ.mono ?_
                  rintro e V8 ⟨rfl, hbe⟩
                  clear HQ
                  have hcum := hcum.trans (hbe.mono hcum.size)
                  refine hK.out _ _ hcum (fun _ => ?_)
                  clear hK hbe
                  try simp only [Act.put, List.setIfInBounds_toArray, List.set_cons_zero, List.set_cons_succ]
                  refine wpAnyH_take (i := 44) (oi := { dst := some 134, op := Op.unOp UnOp.not 4 (Operand.tmp 133), type := 4, pos := "law.go:47", after := #[{ on := 43, ground := Ground.data }, { on := 40, ground := Ground.guard }], guard := some (40, false) }) (v := ?_) rfl (by kernel_rfl) (by kernel_rfl) (by kernel_rfl) (fun _ _ _ h => h) (Or.inl ⟨by rfl, fun W' hW' => ?_⟩) hcum ?_
                  rotate_left 1
                  · go_simp
                    try rfl
                  try simp only [Act.put, List.setIfInBounds_toArray, List.set_cons_zero, List.set_cons_succ]
                  refine wpAnyH_take (i := 45) (oi := { dst := some 135, op := Op.pick (Operand.tmp 130) (Operand.const (Value.bool true)) (Operand.tmp 134), type := 4, pos := "law.go:47", after := #[{ on := 40, ground := Ground.data }, { on := 44, ground := Ground.data }], guard := none }) (v := ?_) rfl (by kernel_rfl) (by kernel_rfl) (by kernel_rfl) (fun _ _ _ h => h) (Or.inl ⟨by rfl, fun W' hW' => ?_⟩) hcum ?_
                  rotate_left 1
                  · go_simp
                    try rfl
                  try simp only [Act.put, List.setIfInBounds_toArray, List.set_cons_zero, List.set_cons_succ]
                  refine wpAnyH_done (by kernel_rfl) ?_ _
                  go_wp2_with fail
                  go_meet
                  exact ⟨rfl, Lib.hid hcum⟩
                case rest =>
                  obtain ⟨wk, rfl⟩ : ∃ wk : World, wk = wc := ⟨_, rfl⟩
                  obtain ⟨rfl, HBk0⟩ := hcut
                  have HBk1 := Lib.hid (HBz.out.trans (HBk0.out.mono HBz.out.size))
                  have HBk := Lib.hid (HBr.out.trans (HBk1.out.mono HBr.out.size))
                  have T4k := Lib.hid (T4c.out)
                  have T1k := Lib.hid (T1c.out)
                  have HOk := Lib.hid (own_below HOr.out HBk1.out)
                  clear HSM HIL HSYi HSYx T4z HBz HBk0 HSW HID hEb hdb T4r T1r HSY HSI9 HRI T49 HB9 HIL10 HSI10 T410 HB10 HSM11 HIL11 HSI11 T411 HB11 HSM12 HIL12 HSI12 T412 HB12 HSY12 HOr HBk1
                  obtain ⟨qq, hqq⟩ : ∃ qq, qq = q * q := ⟨_, rfl⟩
                  have hq49 : qq ≤ 7 * 7 := by rw [hqq]; exact Nat.mul_le_mul (by omega) (by omega)
                  have wqq : IntKind.i64.wrap ((q : Int) * (q : Int)) = (qq : Int) := by rw [hqq, IntWalk.i64_in _ (by have h : ((q * q : Nat) : Int) = (q : Int) * (q : Int) := Int.natCast_mul q q; rw [← h, ← hqq]; omega)]; exact (Int.natCast_mul q q).symm
                  obtain ⟨tt, htt⟩ : ∃ tt, tt = qq + L.length := ⟨_, rfl⟩
                  have wtt : IntKind.i64.wrap ((qq : Int) + (L.length : Int)) = (tt : Int) := by rw [IntWalk.i64_in _ (by omega)]; omega
                  obtain ⟨ix, hix0⟩ : ∃ ix, tt % n = ix := ⟨_, rfl⟩
                  have hix : ix < n := by rw [← hix0]; exact Nat.mod_lt _ (by omega)
                  have e1 : (tt : Int).tmod (n : Int) = (ix : Int) := by rw [Int.tmod_eq_emod_of_nonneg (by omega), ← hix0]; exact (Int.natCast_emod tt n).symm
                  have hn0 : ((n : Int) == 0) = false := beq_eq_false_iff_ne.2 (by omega)
                  have hnz : ¬ (n = 0) := by omega
                  have i0 : (0 : Int) ≤ (ix : Int) := by omega
                  have i1 : (ix : Int) < (n : Int) := by omega
                  obtain ⟨p1, hp1⟩ : ∃ p1, p1 = 97 + q := ⟨_, rfl⟩
                  have wp1 : IntKind.i64.wrap (97 + (q : Int)) = (p1 : Int) := by rw [IntWalk.i64_in _ (by omega)]; omega
                  have hpm : (p1 : Int) % 256 = (p1 : Int) := by omega
                  have hp256 : p1 < 256 := by omega
                  have hpw : IntKind.u8.wrap (p1 : Int) = (p1 : Int) := IntWalk.u8_in _ (by omega)
                  obtain ⟨Z1, hZe⟩ : ∃ Z1, Z1 + 1 = Z := ⟨Z - 1, by omega⟩
                  have wZ : IntKind.i64.wrap ((Z : Int) - 1) = (Z1 : Int) := by rw [IntWalk.i64_in _ (by omega)]; omega
                  have hZ1s : Z1 ≤ 2 := by omega
                  have hmk := hmk8 (n := Z1) (by omega)
                  have hz7 : (strOf8 [p1]).size = 1 := by rw [strOf8_size]; rfl
                  have hzz : (zeroN Z1).size = Z1 := zeroN_size Z1
                  have hcat : (strOf8 [p1]).size + (zeroN Z1).size ≤ 110000 := by rw [hz7, hzz]; omega
                  have hlim : ¬ (9223372036854775807 < 1 + Z1) := by omega
                  have HYn : Hid ((Y.set ix (strOf8 [p1] ++ zeroN Z1)).length = n ∧ ∀ s ∈ Y.set ix (strOf8 [p1] ++ zeroN Z1), s.size = Z) := ⟨by rw [List.length_set]; exact HY.out.1, fun s hs => by
                    rcases List.mem_or_eq_of_mem_set hs with h | h
                    · exact HY.out.2 s h
                    · rw [h, app_size, hz7, hzz]; omega⟩
                  clear hqq htt hix0 hp1 hZe
                  go_upto_region 22 with fail
                  refine wp_region_held (S := fun W' => Below wcc.heap.size wcc W') (by kernel_rfl) ?_
                  change wpAnyH _ _ _ _ _ 23 _ _ wk.drew
                  have hcum := HBk.out.drew
                  have hown := HOk.out.drew
                  generalize wk.drew = V0 at *
                  refine wpAnyH_take (i := 0) (oi := { dst := some 136, op := Op.move (Operand.tmp 6), type := 23, pos := "law.go:51", after := #[], guard := none }) (v := ?_) rfl (by kernel_rfl) (by kernel_rfl) (by kernel_rfl) (fun _ _ _ h => h) (Or.inl ⟨by rfl, fun W' hW' => ?_⟩) hcum ?_
                  rotate_left 1
                  · go_simp
                    try rw [if_neg hlim]
                    try rfl
                  try simp only [Act.put, List.setIfInBounds_toArray, List.set_cons_zero, List.set_cons_succ]
                  refine wpAnyH_take (i := 1) (oi := { dst := some 137, op := Op.move (Operand.tmp 7), type := 3, pos := "law.go:51", after := #[], guard := none }) (v := ?_) rfl (by kernel_rfl) (by kernel_rfl) (by kernel_rfl) (fun _ _ _ h => h) (Or.inl ⟨by rfl, fun W' hW' => ?_⟩) hcum ?_
                  rotate_left 1
                  · go_simp
                    try rw [if_neg hlim]
                    try rfl
                  try simp only [Act.put, List.setIfInBounds_toArray, List.set_cons_zero, List.set_cons_succ]
                  refine wpAnyH_take (i := 2) (oi := { dst := some 138, op := Op.move (Operand.tmp 7), type := 3, pos := "law.go:51", after := #[], guard := none }) (v := ?_) rfl (by kernel_rfl) (by kernel_rfl) (by kernel_rfl) (fun _ _ _ h => h) (Or.inl ⟨by rfl, fun W' hW' => ?_⟩) hcum ?_
                  rotate_left 1
                  · go_simp
                    try rw [if_neg hlim]
                    try rfl
                  try simp only [Act.put, List.setIfInBounds_toArray, List.set_cons_zero, List.set_cons_succ]
                  refine wpAnyH_take (i := 3) (oi := { dst := some 139, op := Op.binOp BinOp.mul 3 (Operand.tmp 137) (Operand.tmp 138) 3, type := 3, pos := "law.go:51", after := #[{ on := 1, ground := Ground.data }, { on := 2, ground := Ground.data }], guard := none }) (v := ?_) rfl (by kernel_rfl) (by kernel_rfl) (by kernel_rfl) (fun _ _ _ h => h) (Or.inl ⟨by rfl, fun W' hW' => ?_⟩) hcum ?_
                  rotate_left 1
                  · go_simp
                    try rw [if_neg hlim]
                    try rfl
                  try simp only [Act.put, List.setIfInBounds_toArray, List.set_cons_zero, List.set_cons_succ]
                  refine wpAnyH_take (i := 4) (oi := { dst := some 140, op := Op.fieldAddr 26 (Operand.tmp 1) 1, type := 0, pos := "law.go:51", after := #[], guard := none }) (v := ?_) rfl (by kernel_rfl) (by kernel_rfl) (by kernel_rfl) (fun _ _ _ h => h) (Or.inl ⟨by rfl, fun W' hW' => ?_⟩) hcum ?_
                  rotate_left 1
                  · go_simp
                    try rw [if_neg hlim]
                    try rfl
                  try simp only [Act.put, List.setIfInBounds_toArray, List.set_cons_zero, List.set_cons_succ]
                  refine wpAnyH_take (i := 5) (oi := { dst := some 141, op := Op.load 23 (Operand.tmp 140), type := 23, pos := "law.go:51", after := #[{ on := 4, ground := Ground.data }], guard := none }) (v := ?_) rfl (by kernel_rfl) (by kernel_rfl) (by kernel_rfl) (fun _ _ _ h => h) (Or.inl ⟨by rfl, fun W' hW' => ?_⟩) hcum ?_
                  rotate_left 1
                  · (obtain ⟨a0, a1, a2, _, _, _⟩ := T1k.out.below hW'; obtain ⟨x0, x1, x2, _, _, _⟩ := T4k.out.below hW'; go_simp)
                    try rw [if_neg hlim]
                    try rfl
                  try simp only [Act.put, List.setIfInBounds_toArray, List.set_cons_zero, List.set_cons_succ]
                  refine wpAnyH_take (i := 6) (oi := { dst := some 142, op := Op.call { callee := Callee.builtin Builtin.len, args := #[Operand.tmp 141], argTypes := #[23] }, type := 3, pos := "law.go:51", after := #[{ on := 5, ground := Ground.data }], guard := none }) (v := ?_) rfl (by kernel_rfl) (by kernel_rfl) (by kernel_rfl) (fun _ _ _ h => h) (Or.inl ⟨by rfl, fun W' hW' => ?_⟩) hcum ?_
                  rotate_left 1
                  · go_simp
                    try rw [if_neg hlim]
                    try rfl
                  try simp only [Act.put, List.setIfInBounds_toArray, List.set_cons_zero, List.set_cons_succ]
                  refine wpAnyH_take (i := 7) (oi := { dst := some 143, op := Op.binOp BinOp.add 3 (Operand.tmp 139) (Operand.tmp 142) 3, type := 3, pos := "law.go:51", after := #[{ on := 3, ground := Ground.data }, { on := 6, ground := Ground.data }], guard := none }) (v := ?_) rfl (by kernel_rfl) (by kernel_rfl) (by kernel_rfl) (fun _ _ _ h => h) (Or.inl ⟨by rfl, fun W' hW' => ?_⟩) hcum ?_
                  rotate_left 1
                  · go_simp
                    try rw [if_neg hlim]
                    try rfl
                  try simp only [Act.put, List.setIfInBounds_toArray, List.set_cons_zero, List.set_cons_succ]
                  refine wpAnyH_take (i := 8) (oi := { dst := some 144, op := Op.move (Operand.tmp 5), type := 3, pos := "law.go:51", after := #[], guard := none }) (v := ?_) rfl (by kernel_rfl) (by kernel_rfl) (by kernel_rfl) (fun _ _ _ h => h) (Or.inl ⟨by rfl, fun W' hW' => ?_⟩) hcum ?_
                  rotate_left 1
                  · go_simp
                    try rw [if_neg hlim]
                    try rfl
                  try simp only [Act.put, List.setIfInBounds_toArray, List.set_cons_zero, List.set_cons_succ]
                  refine wpAnyH_take (i := 9) (oi := { dst := some 145, op := Op.binOp BinOp.rem 3 (Operand.tmp 143) (Operand.tmp 144) 3, type := 3, pos := "law.go:51", after := #[{ on := 7, ground := Ground.data }, { on := 8, ground := Ground.data }], guard := none }) (v := ?_) rfl (by kernel_rfl) (by kernel_rfl) (by kernel_rfl) (fun _ _ _ h => h) (Or.inl ⟨by rfl, fun W' hW' => ?_⟩) hcum ?_
                  rotate_left 1
                  · go_simp
                    try rw [if_neg hlim]
                    try rfl
                  try simp only [Act.put, List.setIfInBounds_toArray, List.set_cons_zero, List.set_cons_succ]
                  refine wpAnyH_take (i := 10) (oi := { dst := some 146, op := Op.move (Operand.tmp 7), type := 3, pos := "law.go:51", after := #[], guard := none }) (v := ?_) rfl (by kernel_rfl) (by kernel_rfl) (by kernel_rfl) (fun _ _ _ h => h) (Or.inl ⟨by rfl, fun W' hW' => ?_⟩) hcum ?_
                  rotate_left 1
                  · go_simp
                    try rw [if_neg hlim]
                    try rfl
                  try simp only [Act.put, List.setIfInBounds_toArray, List.set_cons_zero, List.set_cons_succ]
                  refine wpAnyH_take (i := 11) (oi := { dst := some 147, op := Op.binOp BinOp.add 3 (Operand.const (Value.int IntKind.i64 97)) (Operand.tmp 146) 3, type := 3, pos := "law.go:51", after := #[{ on := 10, ground := Ground.data }], guard := none }) (v := ?_) rfl (by kernel_rfl) (by kernel_rfl) (by kernel_rfl) (fun _ _ _ h => h) (Or.inl ⟨by rfl, fun W' hW' => ?_⟩) hcum ?_
                  rotate_left 1
                  · go_simp
                    try rw [if_neg hlim]
                    try rfl
                  try simp only [Act.put, List.setIfInBounds_toArray, List.set_cons_zero, List.set_cons_succ]
                  refine wpAnyH_take (i := 12) (oi := { dst := some 148, op := Op.convert 3 5 (Operand.tmp 147), type := 5, pos := "law.go:51", after := #[{ on := 11, ground := Ground.data }], guard := none }) (v := ?_) rfl (by kernel_rfl) (by kernel_rfl) (by kernel_rfl) (fun _ _ _ h => h) (Or.inl ⟨by rfl, fun W' hW' => ?_⟩) hcum ?_
                  rotate_left 1
                  · (obtain ⟨a0, a1, a2, _, _, _⟩ := T1k.out.below hW'; obtain ⟨x0, x1, x2, _, _, _⟩ := T4k.out.below hW'; go_simp)
                    try rw [if_neg hlim]
                    try rfl
                  try simp only [Act.put, List.setIfInBounds_toArray, List.set_cons_zero, List.set_cons_succ]
                  refine wpAnyH_take (i := 15) (oi := { dst := some 151, op := Op.fieldAddr 29 (Operand.tmp 4) 2, type := 0, pos := "law.go:51", after := #[], guard := none }) (v := ?_) rfl (by kernel_rfl) (by kernel_rfl) (by kernel_rfl) (fun _ _ _ h => h) (Or.inl ⟨by rfl, fun W' hW' => ?_⟩) hcum ?_
                  rotate_left 1
                  · go_simp
                    try rw [if_neg hlim]
                    try rfl
                  try simp only [Act.put, List.setIfInBounds_toArray, List.set_cons_zero, List.set_cons_succ]
                  refine wpAnyH_take (i := 16) (oi := { dst := some 152, op := Op.load 3 (Operand.tmp 151), type := 3, pos := "law.go:51", after := #[{ on := 15, ground := Ground.data }], guard := none }) (v := ?_) rfl (by kernel_rfl) (by kernel_rfl) (by kernel_rfl) (fun _ _ _ h => h) (Or.inl ⟨by rfl, fun W' hW' => ?_⟩) hcum ?_
                  rotate_left 1
                  · (obtain ⟨a0, a1, a2, _, _, _⟩ := T1k.out.below hW'; obtain ⟨x0, x1, x2, _, _, _⟩ := T4k.out.below hW'; go_simp)
                    try rw [if_neg hlim]
                    try rfl
                  try simp only [Act.put, List.setIfInBounds_toArray, List.set_cons_zero, List.set_cons_succ]
                  refine wpAnyH_take (i := 17) (oi := { dst := some 153, op := Op.binOp BinOp.sub 3 (Operand.tmp 152) (Operand.const (Value.int IntKind.i64 1)) 3, type := 3, pos := "law.go:51", after := #[{ on := 16, ground := Ground.data }], guard := none }) (v := ?_) rfl (by kernel_rfl) (by kernel_rfl) (by kernel_rfl) (fun _ _ _ h => h) (Or.inl ⟨by rfl, fun W' hW' => ?_⟩) hcum ?_
                  rotate_left 1
                  · go_simp
                    try rw [if_neg hlim]
                    try rfl
                  try simp only [Act.put, List.setIfInBounds_toArray, List.set_cons_zero, List.set_cons_succ]
                  refine wpAnyH_ready (rs := [13, 18]) (by kernel_rfl) (by simp) ?_
                  refine AllReadyH.cons (o := { dst := some 149, op := Op.buildSlice 35 1 #[(0, Operand.tmp 148)], type := 35, pos := "law.go:51", after := #[{ on := 12, ground := Ground.data }], guard := none }) rfl (fun KK hK => ?_) (AllReadyH.cons (o := { dst := some 154, op := Op.makeSlice 35 (Operand.tmp 153) (Operand.tmp 153), type := 35, pos := "law.go:51", after := #[{ on := 17, ground := Ground.data }, { on := 17, ground := Ground.data }], guard := none }) rfl (fun KK hK => ?_) AllReadyH.nil)
                  · rw [if_pos (by rfl)]
                    go_simp
                    have hbe := (Below.refl V0.heap.size V0).alloc (Nat.le_refl _) (.cells #[.int .u8 (p1 : Int)] 5)
                    have hbm1 : BytesBlk (V0.alloc (.cells #[.int .u8 (p1 : Int)] 5)) V0.heap.size [p1] := bytesBlk_new V0 (ns := [p1]) rfl 5 (by intro y hy; simp at hy; omega)
                    have hbl1 : V0.heap.size < (V0.alloc (.cells #[.int .u8 (p1 : Int)] 5)).heap.size := by simp
                    try (replace hbm2 := blk_below hbm2 hbl2 hbe)
                    try (replace hbl2 := Nat.lt_of_lt_of_le hbl2 hbe.size)
                    try (replace hcv2 := conv_bytes hbm2)
                    replace hown := hown.alloc (.cells #[.int .u8 (p1 : Int)] 5)
                    replace hcum := hcum.trans (hbe.mono hcum.size)
                    have hcv1 := conv_one hbm1
                    refine hK.out _ _ hcum (fun _ => ?_)
                    clear hK hbe
                    generalize V0.alloc (.cells #[.int .u8 (p1 : Int)] 5) = V1 at *
                    generalize V0.heap.size = bm1 at *
                    try simp only [Act.put, List.setIfInBounds_toArray, List.set_cons_zero, List.set_cons_succ]
                    refine wpAnyH_ready (rs := [14, 18]) (by kernel_rfl) (by simp) ?_
                    refine AllReadyH.cons (o := { dst := some 150, op := Op.convert 35 9 (Operand.tmp 149), type := 9, pos := "law.go:51", after := #[{ on := 13, ground := Ground.data }], guard := none }) rfl (fun KK hK => ?_) (AllReadyH.cons (o := { dst := some 154, op := Op.makeSlice 35 (Operand.tmp 153) (Operand.tmp 153), type := 35, pos := "law.go:51", after := #[{ on := 17, ground := Ground.data }, { on := 17, ground := Ground.data }], guard := none }) rfl (fun KK hK => ?_) AllReadyH.nil)
                    · rw [if_pos (by rfl)]
                      go_simp
                      refine hK.out _ _ hcum (fun _ => ?_)
                      clear hK
                      obtain ⟨V2, rfl⟩ : ∃ V, V = V1 := ⟨_, rfl⟩
                      try simp only [Act.put, List.setIfInBounds_toArray, List.set_cons_zero, List.set_cons_succ]
                      refine wpAnyH_ready (rs := [18]) (by kernel_rfl) (by simp) ?_
                      refine AllReadyH.cons (o := { dst := some 154, op := Op.makeSlice 35 (Operand.tmp 153) (Operand.tmp 153), type := 35, pos := "law.go:51", after := #[{ on := 17, ground := Ground.data }, { on := 17, ground := Ground.data }], guard := none }) rfl (fun KK hK => ?_) AllReadyH.nil
                      rw [if_pos (by rfl)]
                      go_simp
                      have hbe := (Below.refl V2.heap.size V2).alloc (Nat.le_refl _) (.cells (cellsOf8 (List.replicate Z1 0)) 5)
                      have hbm2 := bytesBlk_new V2 (ns := List.replicate Z1 0) rfl 5 (by intro y hy; rw [List.eq_of_mem_replicate hy]; decide)
                      have hbl2 : V2.heap.size < (V2.alloc (.cells (cellsOf8 (List.replicate Z1 0)) 5)).heap.size := by simp
                      try (replace hbm1 := blk_below hbm1 hbl1 hbe)
                      try (replace hbl1 := Nat.lt_of_lt_of_le hbl1 hbe.size)
                      try (replace hcv1 := conv_one hbm1)
                      replace hown := hown.alloc (.cells (cellsOf8 (List.replicate Z1 0)) 5)
                      replace hcum := hcum.trans (hbe.mono hcum.size)
                      have hcv2 := conv_bytes hbm2
                      refine hK.out _ _ hcum (fun _ => ?_)
                      clear hK hbe
                      generalize V2.alloc (.cells (cellsOf8 (List.replicate Z1 0)) 5) = V3 at *
                      generalize V2.heap.size = bm2 at *
                      try simp only [Act.put, List.setIfInBounds_toArray, List.set_cons_zero, List.set_cons_succ]
                      refine wpAnyH_ready (rs := [19]) (by kernel_rfl) (by simp) ?_
                      refine AllReadyH.cons (o := { dst := some 155, op := Op.convert 35 9 (Operand.tmp 154), type := 9, pos := "law.go:51", after := #[{ on := 18, ground := Ground.data }], guard := none }) rfl (fun KK hK => ?_) AllReadyH.nil
                      rw [if_pos (by rfl)]
                      go_simp
                      refine hK.out _ _ hcum (fun _ => ?_)
                      clear hK
                      obtain ⟨V4, rfl⟩ : ∃ V, V = V3 := ⟨_, rfl⟩
                      try simp only [Act.put, List.setIfInBounds_toArray, List.set_cons_zero, List.set_cons_succ]
                      refine wpAnyH_take (i := 20) (oi := { dst := some 156, op := Op.binOp BinOp.add 9 (Operand.tmp 150) (Operand.tmp 155) 9, type := 9, pos := "law.go:51", after := #[{ on := 14, ground := Ground.data }, { on := 19, ground := Ground.data }], guard := none }) (v := ?_) rfl (by kernel_rfl) (by kernel_rfl) (by kernel_rfl) (fun _ _ _ h => h) (Or.inl ⟨by rfl, fun W' hW' => ?_⟩) hcum ?_
                      rotate_left 1
                      · go_simp
                        try rw [if_neg hlim]
                        try rfl
                      try simp only [Act.put, List.setIfInBounds_toArray, List.set_cons_zero, List.set_cons_succ]
                      refine wpAnyH_take (i := 21) (oi := { dst := some 157, op := Op.indexAddr 23 (Operand.tmp 136) (Operand.tmp 145), type := 0, pos := "law.go:51", after := #[{ on := 0, ground := Ground.data }, { on := 9, ground := Ground.data }, { on := 0, ground := Ground.phase }, { on := 1, ground := Ground.phase }, { on := 2, ground := Ground.phase }, { on := 3, ground := Ground.phase }, { on := 4, ground := Ground.phase }, { on := 5, ground := Ground.phase }, { on := 6, ground := Ground.phase }, { on := 7, ground := Ground.phase }, { on := 8, ground := Ground.phase }, { on := 9, ground := Ground.phase }, { on := 10, ground := Ground.phase }, { on := 11, ground := Ground.phase }, { on := 12, ground := Ground.phase }, { on := 13, ground := Ground.phase }, { on := 14, ground := Ground.phase }, { on := 15, ground := Ground.phase }, { on := 16, ground := Ground.phase }, { on := 17, ground := Ground.phase }, { on := 18, ground := Ground.phase }, { on := 19, ground := Ground.phase }, { on := 20, ground := Ground.phase }], guard := none }) (v := ?_) rfl (by kernel_rfl) (by kernel_rfl) (by kernel_rfl) (fun _ _ _ h => h) (Or.inl ⟨by rfl, fun W' hW' => ?_⟩) hcum ?_
                      rotate_left 1
                      · go_simp
                        try rw [if_neg hlim]
                        try rfl
                      try simp only [Act.put, List.setIfInBounds_toArray, List.set_cons_zero, List.set_cons_succ]
                      refine wpAnyH_ready (rs := [22]) (by kernel_rfl) (by simp) ?_
                      refine AllReadyH.cons (o := { dst := none, op := Op.store 9 (Operand.tmp 157) (Operand.tmp 156), type := 0, pos := "law.go:51", after := #[{ on := 21, ground := Ground.data }, { on := 20, ground := Ground.data }, { on := 0, ground := Ground.phase }, { on := 1, ground := Ground.phase }, { on := 2, ground := Ground.phase }, { on := 3, ground := Ground.phase }, { on := 4, ground := Ground.phase }, { on := 5, ground := Ground.phase }, { on := 6, ground := Ground.phase }, { on := 7, ground := Ground.phase }, { on := 8, ground := Ground.phase }, { on := 9, ground := Ground.phase }, { on := 10, ground := Ground.phase }, { on := 11, ground := Ground.phase }, { on := 12, ground := Ground.phase }, { on := 13, ground := Ground.phase }, { on := 14, ground := Ground.phase }, { on := 15, ground := Ground.phase }, { on := 16, ground := Ground.phase }, { on := 17, ground := Ground.phase }, { on := 18, ground := Ground.phase }, { on := 19, ground := Ground.phase }, { on := 20, ground := Ground.phase }], guard := none }) rfl (fun KK hK => ?_) AllReadyH.nil
                      obtain ⟨d1, d2⟩ := own_cell_at hown hix HY.out.1
                      rw [if_pos (by rfl)]
                      go_simp
                      clear d1 d2
                      have hst := (hown.stored ix (.string (strOf8 [p1] ++ zeroN Z1))).1
                      rw [← List.map_set] at hst
                      replace hcum := hcum.setCell (p := ⟨gX, ix, none⟩) hgX (.string (strOf8 [p1] ++ zeroN Z1))
                      refine hK.out _ _ hcum (fun _ => ?_)
                      clear hK hown
                      generalize V4.setCell ⟨gX, ix, none⟩ (.string (strOf8 [p1] ++ zeroN Z1)) = V5 at *
                      try simp only [Act.put, List.setIfInBounds_toArray, List.set_cons_zero, List.set_cons_succ]
                      refine wpAnyH_done (by kernel_rfl) ?_ _
                      go_wp2_with fail
                      go_roundw
                      case rel => exact ⟨q + 1, Y.set ix (strOf8 [p1] ++ zeroN Z1), by go_num, by omega, HYn, Lib.hid hst, Lib.hid hcum⟩
                      case measure => simp [intOf]; omega
                    · rw [if_pos (by rfl)]
                      go_simp
                      have hbe := (Below.refl V1.heap.size V1).alloc (Nat.le_refl _) (.cells (cellsOf8 (List.replicate Z1 0)) 5)
                      have hbm2 := bytesBlk_new V1 (ns := List.replicate Z1 0) rfl 5 (by intro y hy; rw [List.eq_of_mem_replicate hy]; decide)
                      have hbl2 : V1.heap.size < (V1.alloc (.cells (cellsOf8 (List.replicate Z1 0)) 5)).heap.size := by simp
                      try (replace hbm1 := blk_below hbm1 hbl1 hbe)
                      try (replace hbl1 := Nat.lt_of_lt_of_le hbl1 hbe.size)
                      try (replace hcv1 := conv_one hbm1)
                      replace hown := hown.alloc (.cells (cellsOf8 (List.replicate Z1 0)) 5)
                      replace hcum := hcum.trans (hbe.mono hcum.size)
                      have hcv2 := conv_bytes hbm2
                      refine hK.out _ _ hcum (fun _ => ?_)
                      clear hK hbe
                      generalize V1.alloc (.cells (cellsOf8 (List.replicate Z1 0)) 5) = V2 at *
                      generalize V1.heap.size = bm2 at *
                      try simp only [Act.put, List.setIfInBounds_toArray, List.set_cons_zero, List.set_cons_succ]
                      refine wpAnyH_ready (rs := [14, 19]) (by kernel_rfl) (by simp) ?_
                      refine AllReadyH.cons (o := { dst := some 150, op := Op.convert 35 9 (Operand.tmp 149), type := 9, pos := "law.go:51", after := #[{ on := 13, ground := Ground.data }], guard := none }) rfl (fun KK hK => ?_) (AllReadyH.cons (o := { dst := some 155, op := Op.convert 35 9 (Operand.tmp 154), type := 9, pos := "law.go:51", after := #[{ on := 18, ground := Ground.data }], guard := none }) rfl (fun KK hK => ?_) AllReadyH.nil)
                      · rw [if_pos (by rfl)]
                        go_simp
                        refine hK.out _ _ hcum (fun _ => ?_)
                        clear hK
                        obtain ⟨V3, rfl⟩ : ∃ V, V = V2 := ⟨_, rfl⟩
                        try simp only [Act.put, List.setIfInBounds_toArray, List.set_cons_zero, List.set_cons_succ]
                        refine wpAnyH_ready (rs := [19]) (by kernel_rfl) (by simp) ?_
                        refine AllReadyH.cons (o := { dst := some 155, op := Op.convert 35 9 (Operand.tmp 154), type := 9, pos := "law.go:51", after := #[{ on := 18, ground := Ground.data }], guard := none }) rfl (fun KK hK => ?_) AllReadyH.nil
                        rw [if_pos (by rfl)]
                        go_simp
                        refine hK.out _ _ hcum (fun _ => ?_)
                        clear hK
                        obtain ⟨V4, rfl⟩ : ∃ V, V = V3 := ⟨_, rfl⟩
                        try simp only [Act.put, List.setIfInBounds_toArray, List.set_cons_zero, List.set_cons_succ]
                        refine wpAnyH_take (i := 20) (oi := { dst := some 156, op := Op.binOp BinOp.add 9 (Operand.tmp 150) (Operand.tmp 155) 9, type := 9, pos := "law.go:51", after := #[{ on := 14, ground := Ground.data }, { on := 19, ground := Ground.data }], guard := none }) (v := ?_) rfl (by kernel_rfl) (by kernel_rfl) (by kernel_rfl) (fun _ _ _ h => h) (Or.inl ⟨by rfl, fun W' hW' => ?_⟩) hcum ?_
                        rotate_left 1
                        · go_simp
                          try rw [if_neg hlim]
                          try rfl
                        try simp only [Act.put, List.setIfInBounds_toArray, List.set_cons_zero, List.set_cons_succ]
                        refine wpAnyH_take (i := 21) (oi := { dst := some 157, op := Op.indexAddr 23 (Operand.tmp 136) (Operand.tmp 145), type := 0, pos := "law.go:51", after := #[{ on := 0, ground := Ground.data }, { on := 9, ground := Ground.data }, { on := 0, ground := Ground.phase }, { on := 1, ground := Ground.phase }, { on := 2, ground := Ground.phase }, { on := 3, ground := Ground.phase }, { on := 4, ground := Ground.phase }, { on := 5, ground := Ground.phase }, { on := 6, ground := Ground.phase }, { on := 7, ground := Ground.phase }, { on := 8, ground := Ground.phase }, { on := 9, ground := Ground.phase }, { on := 10, ground := Ground.phase }, { on := 11, ground := Ground.phase }, { on := 12, ground := Ground.phase }, { on := 13, ground := Ground.phase }, { on := 14, ground := Ground.phase }, { on := 15, ground := Ground.phase }, { on := 16, ground := Ground.phase }, { on := 17, ground := Ground.phase }, { on := 18, ground := Ground.phase }, { on := 19, ground := Ground.phase }, { on := 20, ground := Ground.phase }], guard := none }) (v := ?_) rfl (by kernel_rfl) (by kernel_rfl) (by kernel_rfl) (fun _ _ _ h => h) (Or.inl ⟨by rfl, fun W' hW' => ?_⟩) hcum ?_
                        rotate_left 1
                        · go_simp
                          try rw [if_neg hlim]
                          try rfl
                        try simp only [Act.put, List.setIfInBounds_toArray, List.set_cons_zero, List.set_cons_succ]
                        refine wpAnyH_ready (rs := [22]) (by kernel_rfl) (by simp) ?_
                        refine AllReadyH.cons (o := { dst := none, op := Op.store 9 (Operand.tmp 157) (Operand.tmp 156), type := 0, pos := "law.go:51", after := #[{ on := 21, ground := Ground.data }, { on := 20, ground := Ground.data }, { on := 0, ground := Ground.phase }, { on := 1, ground := Ground.phase }, { on := 2, ground := Ground.phase }, { on := 3, ground := Ground.phase }, { on := 4, ground := Ground.phase }, { on := 5, ground := Ground.phase }, { on := 6, ground := Ground.phase }, { on := 7, ground := Ground.phase }, { on := 8, ground := Ground.phase }, { on := 9, ground := Ground.phase }, { on := 10, ground := Ground.phase }, { on := 11, ground := Ground.phase }, { on := 12, ground := Ground.phase }, { on := 13, ground := Ground.phase }, { on := 14, ground := Ground.phase }, { on := 15, ground := Ground.phase }, { on := 16, ground := Ground.phase }, { on := 17, ground := Ground.phase }, { on := 18, ground := Ground.phase }, { on := 19, ground := Ground.phase }, { on := 20, ground := Ground.phase }], guard := none }) rfl (fun KK hK => ?_) AllReadyH.nil
                        obtain ⟨d1, d2⟩ := own_cell_at hown hix HY.out.1
                        rw [if_pos (by rfl)]
                        go_simp
                        clear d1 d2
                        have hst := (hown.stored ix (.string (strOf8 [p1] ++ zeroN Z1))).1
                        rw [← List.map_set] at hst
                        replace hcum := hcum.setCell (p := ⟨gX, ix, none⟩) hgX (.string (strOf8 [p1] ++ zeroN Z1))
                        refine hK.out _ _ hcum (fun _ => ?_)
                        clear hK hown
                        generalize V4.setCell ⟨gX, ix, none⟩ (.string (strOf8 [p1] ++ zeroN Z1)) = V5 at *
                        try simp only [Act.put, List.setIfInBounds_toArray, List.set_cons_zero, List.set_cons_succ]
                        refine wpAnyH_done (by kernel_rfl) ?_ _
                        go_wp2_with fail
                        go_roundw
                        case rel => exact ⟨q + 1, Y.set ix (strOf8 [p1] ++ zeroN Z1), by go_num, by omega, HYn, Lib.hid hst, Lib.hid hcum⟩
                        case measure => simp [intOf]; omega
                      · rw [if_pos (by rfl)]
                        go_simp
                        refine hK.out _ _ hcum (fun _ => ?_)
                        clear hK
                        obtain ⟨V3, rfl⟩ : ∃ V, V = V2 := ⟨_, rfl⟩
                        try simp only [Act.put, List.setIfInBounds_toArray, List.set_cons_zero, List.set_cons_succ]
                        refine wpAnyH_ready (rs := [14]) (by kernel_rfl) (by simp) ?_
                        refine AllReadyH.cons (o := { dst := some 150, op := Op.convert 35 9 (Operand.tmp 149), type := 9, pos := "law.go:51", after := #[{ on := 13, ground := Ground.data }], guard := none }) rfl (fun KK hK => ?_) AllReadyH.nil
                        rw [if_pos (by rfl)]
                        go_simp
                        refine hK.out _ _ hcum (fun _ => ?_)
                        clear hK
                        obtain ⟨V4, rfl⟩ : ∃ V, V = V3 := ⟨_, rfl⟩
                        try simp only [Act.put, List.setIfInBounds_toArray, List.set_cons_zero, List.set_cons_succ]
                        refine wpAnyH_take (i := 20) (oi := { dst := some 156, op := Op.binOp BinOp.add 9 (Operand.tmp 150) (Operand.tmp 155) 9, type := 9, pos := "law.go:51", after := #[{ on := 14, ground := Ground.data }, { on := 19, ground := Ground.data }], guard := none }) (v := ?_) rfl (by kernel_rfl) (by kernel_rfl) (by kernel_rfl) (fun _ _ _ h => h) (Or.inl ⟨by rfl, fun W' hW' => ?_⟩) hcum ?_
                        rotate_left 1
                        · go_simp
                          try rw [if_neg hlim]
                          try rfl
                        try simp only [Act.put, List.setIfInBounds_toArray, List.set_cons_zero, List.set_cons_succ]
                        refine wpAnyH_take (i := 21) (oi := { dst := some 157, op := Op.indexAddr 23 (Operand.tmp 136) (Operand.tmp 145), type := 0, pos := "law.go:51", after := #[{ on := 0, ground := Ground.data }, { on := 9, ground := Ground.data }, { on := 0, ground := Ground.phase }, { on := 1, ground := Ground.phase }, { on := 2, ground := Ground.phase }, { on := 3, ground := Ground.phase }, { on := 4, ground := Ground.phase }, { on := 5, ground := Ground.phase }, { on := 6, ground := Ground.phase }, { on := 7, ground := Ground.phase }, { on := 8, ground := Ground.phase }, { on := 9, ground := Ground.phase }, { on := 10, ground := Ground.phase }, { on := 11, ground := Ground.phase }, { on := 12, ground := Ground.phase }, { on := 13, ground := Ground.phase }, { on := 14, ground := Ground.phase }, { on := 15, ground := Ground.phase }, { on := 16, ground := Ground.phase }, { on := 17, ground := Ground.phase }, { on := 18, ground := Ground.phase }, { on := 19, ground := Ground.phase }, { on := 20, ground := Ground.phase }], guard := none }) (v := ?_) rfl (by kernel_rfl) (by kernel_rfl) (by kernel_rfl) (fun _ _ _ h => h) (Or.inl ⟨by rfl, fun W' hW' => ?_⟩) hcum ?_
                        rotate_left 1
                        · go_simp
                          try rw [if_neg hlim]
                          try rfl
                        try simp only [Act.put, List.setIfInBounds_toArray, List.set_cons_zero, List.set_cons_succ]
                        refine wpAnyH_ready (rs := [22]) (by kernel_rfl) (by simp) ?_
                        refine AllReadyH.cons (o := { dst := none, op := Op.store 9 (Operand.tmp 157) (Operand.tmp 156), type := 0, pos := "law.go:51", after := #[{ on := 21, ground := Ground.data }, { on := 20, ground := Ground.data }, { on := 0, ground := Ground.phase }, { on := 1, ground := Ground.phase }, { on := 2, ground := Ground.phase }, { on := 3, ground := Ground.phase }, { on := 4, ground := Ground.phase }, { on := 5, ground := Ground.phase }, { on := 6, ground := Ground.phase }, { on := 7, ground := Ground.phase }, { on := 8, ground := Ground.phase }, { on := 9, ground := Ground.phase }, { on := 10, ground := Ground.phase }, { on := 11, ground := Ground.phase }, { on := 12, ground := Ground.phase }, { on := 13, ground := Ground.phase }, { on := 14, ground := Ground.phase }, { on := 15, ground := Ground.phase }, { on := 16, ground := Ground.phase }, { on := 17, ground := Ground.phase }, { on := 18, ground := Ground.phase }, { on := 19, ground := Ground.phase }, { on := 20, ground := Ground.phase }], guard := none }) rfl (fun KK hK => ?_) AllReadyH.nil
                        obtain ⟨d1, d2⟩ := own_cell_at hown hix HY.out.1
                        rw [if_pos (by rfl)]
                        go_simp
                        clear d1 d2
                        have hst := (hown.stored ix (.string (strOf8 [p1] ++ zeroN Z1))).1
                        rw [← List.map_set] at hst
                        replace hcum := hcum.setCell (p := ⟨gX, ix, none⟩) hgX (.string (strOf8 [p1] ++ zeroN Z1))
                        refine hK.out _ _ hcum (fun _ => ?_)
                        clear hK hown
                        generalize V4.setCell ⟨gX, ix, none⟩ (.string (strOf8 [p1] ++ zeroN Z1)) = V5 at *
                        try simp only [Act.put, List.setIfInBounds_toArray, List.set_cons_zero, List.set_cons_succ]
                        refine wpAnyH_done (by kernel_rfl) ?_ _
                        go_wp2_with fail
                        go_roundw
                        case rel => exact ⟨q + 1, Y.set ix (strOf8 [p1] ++ zeroN Z1), by go_num, by omega, HYn, Lib.hid hst, Lib.hid hcum⟩
                        case measure => simp [intOf]; omega
                  · rw [if_pos (by rfl)]
                    go_simp
                    have hbe := (Below.refl V0.heap.size V0).alloc (Nat.le_refl _) (.cells (cellsOf8 (List.replicate Z1 0)) 5)
                    have hbm2 := bytesBlk_new V0 (ns := List.replicate Z1 0) rfl 5 (by intro y hy; rw [List.eq_of_mem_replicate hy]; decide)
                    have hbl2 : V0.heap.size < (V0.alloc (.cells (cellsOf8 (List.replicate Z1 0)) 5)).heap.size := by simp
                    try (replace hbm1 := blk_below hbm1 hbl1 hbe)
                    try (replace hbl1 := Nat.lt_of_lt_of_le hbl1 hbe.size)
                    try (replace hcv1 := conv_one hbm1)
                    replace hown := hown.alloc (.cells (cellsOf8 (List.replicate Z1 0)) 5)
                    replace hcum := hcum.trans (hbe.mono hcum.size)
                    have hcv2 := conv_bytes hbm2
                    refine hK.out _ _ hcum (fun _ => ?_)
                    clear hK hbe
                    generalize V0.alloc (.cells (cellsOf8 (List.replicate Z1 0)) 5) = V1 at *
                    generalize V0.heap.size = bm2 at *
                    try simp only [Act.put, List.setIfInBounds_toArray, List.set_cons_zero, List.set_cons_succ]
                    refine wpAnyH_ready (rs := [13, 19]) (by kernel_rfl) (by simp) ?_
                    refine AllReadyH.cons (o := { dst := some 149, op := Op.buildSlice 35 1 #[(0, Operand.tmp 148)], type := 35, pos := "law.go:51", after := #[{ on := 12, ground := Ground.data }], guard := none }) rfl (fun KK hK => ?_) (AllReadyH.cons (o := { dst := some 155, op := Op.convert 35 9 (Operand.tmp 154), type := 9, pos := "law.go:51", after := #[{ on := 18, ground := Ground.data }], guard := none }) rfl (fun KK hK => ?_) AllReadyH.nil)
                    · rw [if_pos (by rfl)]
                      go_simp
                      have hbe := (Below.refl V1.heap.size V1).alloc (Nat.le_refl _) (.cells #[.int .u8 (p1 : Int)] 5)
                      have hbm1 : BytesBlk (V1.alloc (.cells #[.int .u8 (p1 : Int)] 5)) V1.heap.size [p1] := bytesBlk_new V1 (ns := [p1]) rfl 5 (by intro y hy; simp at hy; omega)
                      have hbl1 : V1.heap.size < (V1.alloc (.cells #[.int .u8 (p1 : Int)] 5)).heap.size := by simp
                      try (replace hbm2 := blk_below hbm2 hbl2 hbe)
                      try (replace hbl2 := Nat.lt_of_lt_of_le hbl2 hbe.size)
                      try (replace hcv2 := conv_bytes hbm2)
                      replace hown := hown.alloc (.cells #[.int .u8 (p1 : Int)] 5)
                      replace hcum := hcum.trans (hbe.mono hcum.size)
                      have hcv1 := conv_one hbm1
                      refine hK.out _ _ hcum (fun _ => ?_)
                      clear hK hbe
                      generalize V1.alloc (.cells #[.int .u8 (p1 : Int)] 5) = V2 at *
                      generalize V1.heap.size = bm1 at *
                      try simp only [Act.put, List.setIfInBounds_toArray, List.set_cons_zero, List.set_cons_succ]
                      refine wpAnyH_ready (rs := [14, 19]) (by kernel_rfl) (by simp) ?_
                      refine AllReadyH.cons (o := { dst := some 150, op := Op.convert 35 9 (Operand.tmp 149), type := 9, pos := "law.go:51", after := #[{ on := 13, ground := Ground.data }], guard := none }) rfl (fun KK hK => ?_) (AllReadyH.cons (o := { dst := some 155, op := Op.convert 35 9 (Operand.tmp 154), type := 9, pos := "law.go:51", after := #[{ on := 18, ground := Ground.data }], guard := none }) rfl (fun KK hK => ?_) AllReadyH.nil)
                      · rw [if_pos (by rfl)]
                        go_simp
                        refine hK.out _ _ hcum (fun _ => ?_)
                        clear hK
                        obtain ⟨V3, rfl⟩ : ∃ V, V = V2 := ⟨_, rfl⟩
                        try simp only [Act.put, List.setIfInBounds_toArray, List.set_cons_zero, List.set_cons_succ]
                        refine wpAnyH_ready (rs := [19]) (by kernel_rfl) (by simp) ?_
                        refine AllReadyH.cons (o := { dst := some 155, op := Op.convert 35 9 (Operand.tmp 154), type := 9, pos := "law.go:51", after := #[{ on := 18, ground := Ground.data }], guard := none }) rfl (fun KK hK => ?_) AllReadyH.nil
                        rw [if_pos (by rfl)]
                        go_simp
                        refine hK.out _ _ hcum (fun _ => ?_)
                        clear hK
                        obtain ⟨V4, rfl⟩ : ∃ V, V = V3 := ⟨_, rfl⟩
                        try simp only [Act.put, List.setIfInBounds_toArray, List.set_cons_zero, List.set_cons_succ]
                        refine wpAnyH_take (i := 20) (oi := { dst := some 156, op := Op.binOp BinOp.add 9 (Operand.tmp 150) (Operand.tmp 155) 9, type := 9, pos := "law.go:51", after := #[{ on := 14, ground := Ground.data }, { on := 19, ground := Ground.data }], guard := none }) (v := ?_) rfl (by kernel_rfl) (by kernel_rfl) (by kernel_rfl) (fun _ _ _ h => h) (Or.inl ⟨by rfl, fun W' hW' => ?_⟩) hcum ?_
                        rotate_left 1
                        · go_simp
                          try rw [if_neg hlim]
                          try rfl
                        try simp only [Act.put, List.setIfInBounds_toArray, List.set_cons_zero, List.set_cons_succ]
                        refine wpAnyH_take (i := 21) (oi := { dst := some 157, op := Op.indexAddr 23 (Operand.tmp 136) (Operand.tmp 145), type := 0, pos := "law.go:51", after := #[{ on := 0, ground := Ground.data }, { on := 9, ground := Ground.data }, { on := 0, ground := Ground.phase }, { on := 1, ground := Ground.phase }, { on := 2, ground := Ground.phase }, { on := 3, ground := Ground.phase }, { on := 4, ground := Ground.phase }, { on := 5, ground := Ground.phase }, { on := 6, ground := Ground.phase }, { on := 7, ground := Ground.phase }, { on := 8, ground := Ground.phase }, { on := 9, ground := Ground.phase }, { on := 10, ground := Ground.phase }, { on := 11, ground := Ground.phase }, { on := 12, ground := Ground.phase }, { on := 13, ground := Ground.phase }, { on := 14, ground := Ground.phase }, { on := 15, ground := Ground.phase }, { on := 16, ground := Ground.phase }, { on := 17, ground := Ground.phase }, { on := 18, ground := Ground.phase }, { on := 19, ground := Ground.phase }, { on := 20, ground := Ground.phase }], guard := none }) (v := ?_) rfl (by kernel_rfl) (by kernel_rfl) (by kernel_rfl) (fun _ _ _ h => h) (Or.inl ⟨by rfl, fun W' hW' => ?_⟩) hcum ?_
                        rotate_left 1
                        · go_simp
                          try rw [if_neg hlim]
                          try rfl
                        try simp only [Act.put, List.setIfInBounds_toArray, List.set_cons_zero, List.set_cons_succ]
                        refine wpAnyH_ready (rs := [22]) (by kernel_rfl) (by simp) ?_
                        refine AllReadyH.cons (o := { dst := none, op := Op.store 9 (Operand.tmp 157) (Operand.tmp 156), type := 0, pos := "law.go:51", after := #[{ on := 21, ground := Ground.data }, { on := 20, ground := Ground.data }, { on := 0, ground := Ground.phase }, { on := 1, ground := Ground.phase }, { on := 2, ground := Ground.phase }, { on := 3, ground := Ground.phase }, { on := 4, ground := Ground.phase }, { on := 5, ground := Ground.phase }, { on := 6, ground := Ground.phase }, { on := 7, ground := Ground.phase }, { on := 8, ground := Ground.phase }, { on := 9, ground := Ground.phase }, { on := 10, ground := Ground.phase }, { on := 11, ground := Ground.phase }, { on := 12, ground := Ground.phase }, { on := 13, ground := Ground.phase }, { on := 14, ground := Ground.phase }, { on := 15, ground := Ground.phase }, { on := 16, ground := Ground.phase }, { on := 17, ground := Ground.phase }, { on := 18, ground := Ground.phase }, { on := 19, ground := Ground.phase }, { on := 20, ground := Ground.phase }], guard := none }) rfl (fun KK hK => ?_) AllReadyH.nil
                        obtain ⟨d1, d2⟩ := own_cell_at hown hix HY.out.1
                        rw [if_pos (by rfl)]
                        go_simp
                        clear d1 d2
                        have hst := (hown.stored ix (.string (strOf8 [p1] ++ zeroN Z1))).1
                        rw [← List.map_set] at hst
                        replace hcum := hcum.setCell (p := ⟨gX, ix, none⟩) hgX (.string (strOf8 [p1] ++ zeroN Z1))
                        refine hK.out _ _ hcum (fun _ => ?_)
                        clear hK hown
                        generalize V4.setCell ⟨gX, ix, none⟩ (.string (strOf8 [p1] ++ zeroN Z1)) = V5 at *
                        try simp only [Act.put, List.setIfInBounds_toArray, List.set_cons_zero, List.set_cons_succ]
                        refine wpAnyH_done (by kernel_rfl) ?_ _
                        go_wp2_with fail
                        go_roundw
                        case rel => exact ⟨q + 1, Y.set ix (strOf8 [p1] ++ zeroN Z1), by go_num, by omega, HYn, Lib.hid hst, Lib.hid hcum⟩
                        case measure => simp [intOf]; omega
                      · rw [if_pos (by rfl)]
                        go_simp
                        refine hK.out _ _ hcum (fun _ => ?_)
                        clear hK
                        obtain ⟨V3, rfl⟩ : ∃ V, V = V2 := ⟨_, rfl⟩
                        try simp only [Act.put, List.setIfInBounds_toArray, List.set_cons_zero, List.set_cons_succ]
                        refine wpAnyH_ready (rs := [14]) (by kernel_rfl) (by simp) ?_
                        refine AllReadyH.cons (o := { dst := some 150, op := Op.convert 35 9 (Operand.tmp 149), type := 9, pos := "law.go:51", after := #[{ on := 13, ground := Ground.data }], guard := none }) rfl (fun KK hK => ?_) AllReadyH.nil
                        rw [if_pos (by rfl)]
                        go_simp
                        refine hK.out _ _ hcum (fun _ => ?_)
                        clear hK
                        obtain ⟨V4, rfl⟩ : ∃ V, V = V3 := ⟨_, rfl⟩
                        try simp only [Act.put, List.setIfInBounds_toArray, List.set_cons_zero, List.set_cons_succ]
                        refine wpAnyH_take (i := 20) (oi := { dst := some 156, op := Op.binOp BinOp.add 9 (Operand.tmp 150) (Operand.tmp 155) 9, type := 9, pos := "law.go:51", after := #[{ on := 14, ground := Ground.data }, { on := 19, ground := Ground.data }], guard := none }) (v := ?_) rfl (by kernel_rfl) (by kernel_rfl) (by kernel_rfl) (fun _ _ _ h => h) (Or.inl ⟨by rfl, fun W' hW' => ?_⟩) hcum ?_
                        rotate_left 1
                        · go_simp
                          try rw [if_neg hlim]
                          try rfl
                        try simp only [Act.put, List.setIfInBounds_toArray, List.set_cons_zero, List.set_cons_succ]
                        refine wpAnyH_take (i := 21) (oi := { dst := some 157, op := Op.indexAddr 23 (Operand.tmp 136) (Operand.tmp 145), type := 0, pos := "law.go:51", after := #[{ on := 0, ground := Ground.data }, { on := 9, ground := Ground.data }, { on := 0, ground := Ground.phase }, { on := 1, ground := Ground.phase }, { on := 2, ground := Ground.phase }, { on := 3, ground := Ground.phase }, { on := 4, ground := Ground.phase }, { on := 5, ground := Ground.phase }, { on := 6, ground := Ground.phase }, { on := 7, ground := Ground.phase }, { on := 8, ground := Ground.phase }, { on := 9, ground := Ground.phase }, { on := 10, ground := Ground.phase }, { on := 11, ground := Ground.phase }, { on := 12, ground := Ground.phase }, { on := 13, ground := Ground.phase }, { on := 14, ground := Ground.phase }, { on := 15, ground := Ground.phase }, { on := 16, ground := Ground.phase }, { on := 17, ground := Ground.phase }, { on := 18, ground := Ground.phase }, { on := 19, ground := Ground.phase }, { on := 20, ground := Ground.phase }], guard := none }) (v := ?_) rfl (by kernel_rfl) (by kernel_rfl) (by kernel_rfl) (fun _ _ _ h => h) (Or.inl ⟨by rfl, fun W' hW' => ?_⟩) hcum ?_
                        rotate_left 1
                        · go_simp
                          try rw [if_neg hlim]
                          try rfl
                        try simp only [Act.put, List.setIfInBounds_toArray, List.set_cons_zero, List.set_cons_succ]
                        refine wpAnyH_ready (rs := [22]) (by kernel_rfl) (by simp) ?_
                        refine AllReadyH.cons (o := { dst := none, op := Op.store 9 (Operand.tmp 157) (Operand.tmp 156), type := 0, pos := "law.go:51", after := #[{ on := 21, ground := Ground.data }, { on := 20, ground := Ground.data }, { on := 0, ground := Ground.phase }, { on := 1, ground := Ground.phase }, { on := 2, ground := Ground.phase }, { on := 3, ground := Ground.phase }, { on := 4, ground := Ground.phase }, { on := 5, ground := Ground.phase }, { on := 6, ground := Ground.phase }, { on := 7, ground := Ground.phase }, { on := 8, ground := Ground.phase }, { on := 9, ground := Ground.phase }, { on := 10, ground := Ground.phase }, { on := 11, ground := Ground.phase }, { on := 12, ground := Ground.phase }, { on := 13, ground := Ground.phase }, { on := 14, ground := Ground.phase }, { on := 15, ground := Ground.phase }, { on := 16, ground := Ground.phase }, { on := 17, ground := Ground.phase }, { on := 18, ground := Ground.phase }, { on := 19, ground := Ground.phase }, { on := 20, ground := Ground.phase }], guard := none }) rfl (fun KK hK => ?_) AllReadyH.nil
                        obtain ⟨d1, d2⟩ := own_cell_at hown hix HY.out.1
                        rw [if_pos (by rfl)]
                        go_simp
                        clear d1 d2
                        have hst := (hown.stored ix (.string (strOf8 [p1] ++ zeroN Z1))).1
                        rw [← List.map_set] at hst
                        replace hcum := hcum.setCell (p := ⟨gX, ix, none⟩) hgX (.string (strOf8 [p1] ++ zeroN Z1))
                        refine hK.out _ _ hcum (fun _ => ?_)
                        clear hK hown
                        generalize V4.setCell ⟨gX, ix, none⟩ (.string (strOf8 [p1] ++ zeroN Z1)) = V5 at *
                        try simp only [Act.put, List.setIfInBounds_toArray, List.set_cons_zero, List.set_cons_succ]
                        refine wpAnyH_done (by kernel_rfl) ?_ _
                        go_wp2_with fail
                        go_roundw
                        case rel => exact ⟨q + 1, Y.set ix (strOf8 [p1] ++ zeroN Z1), by go_num, by omega, HYn, Lib.hid hst, Lib.hid hcum⟩
                        case measure => simp [intOf]; omega
                    · rw [if_pos (by rfl)]
                      go_simp
                      refine hK.out _ _ hcum (fun _ => ?_)
                      clear hK
                      obtain ⟨V2, rfl⟩ : ∃ V, V = V1 := ⟨_, rfl⟩
                      try simp only [Act.put, List.setIfInBounds_toArray, List.set_cons_zero, List.set_cons_succ]
                      refine wpAnyH_ready (rs := [13]) (by kernel_rfl) (by simp) ?_
                      refine AllReadyH.cons (o := { dst := some 149, op := Op.buildSlice 35 1 #[(0, Operand.tmp 148)], type := 35, pos := "law.go:51", after := #[{ on := 12, ground := Ground.data }], guard := none }) rfl (fun KK hK => ?_) AllReadyH.nil
                      rw [if_pos (by rfl)]
                      go_simp
                      have hbe := (Below.refl V2.heap.size V2).alloc (Nat.le_refl _) (.cells #[.int .u8 (p1 : Int)] 5)
                      have hbm1 : BytesBlk (V2.alloc (.cells #[.int .u8 (p1 : Int)] 5)) V2.heap.size [p1] := bytesBlk_new V2 (ns := [p1]) rfl 5 (by intro y hy; simp at hy; omega)
                      have hbl1 : V2.heap.size < (V2.alloc (.cells #[.int .u8 (p1 : Int)] 5)).heap.size := by simp
                      try (replace hbm2 := blk_below hbm2 hbl2 hbe)
                      try (replace hbl2 := Nat.lt_of_lt_of_le hbl2 hbe.size)
                      try (replace hcv2 := conv_bytes hbm2)
                      replace hown := hown.alloc (.cells #[.int .u8 (p1 : Int)] 5)
                      replace hcum := hcum.trans (hbe.mono hcum.size)
                      have hcv1 := conv_one hbm1
                      refine hK.out _ _ hcum (fun _ => ?_)
                      clear hK hbe
                      generalize V2.alloc (.cells #[.int .u8 (p1 : Int)] 5) = V3 at *
                      generalize V2.heap.size = bm1 at *
                      try simp only [Act.put, List.setIfInBounds_toArray, List.set_cons_zero, List.set_cons_succ]
                      refine wpAnyH_ready (rs := [14]) (by kernel_rfl) (by simp) ?_
                      refine AllReadyH.cons (o := { dst := some 150, op := Op.convert 35 9 (Operand.tmp 149), type := 9, pos := "law.go:51", after := #[{ on := 13, ground := Ground.data }], guard := none }) rfl (fun KK hK => ?_) AllReadyH.nil
                      rw [if_pos (by rfl)]
                      go_simp
                      refine hK.out _ _ hcum (fun _ => ?_)
                      clear hK
                      obtain ⟨V4, rfl⟩ : ∃ V, V = V3 := ⟨_, rfl⟩
                      try simp only [Act.put, List.setIfInBounds_toArray, List.set_cons_zero, List.set_cons_succ]
                      refine wpAnyH_take (i := 20) (oi := { dst := some 156, op := Op.binOp BinOp.add 9 (Operand.tmp 150) (Operand.tmp 155) 9, type := 9, pos := "law.go:51", after := #[{ on := 14, ground := Ground.data }, { on := 19, ground := Ground.data }], guard := none }) (v := ?_) rfl (by kernel_rfl) (by kernel_rfl) (by kernel_rfl) (fun _ _ _ h => h) (Or.inl ⟨by rfl, fun W' hW' => ?_⟩) hcum ?_
                      rotate_left 1
                      · go_simp
                        try rw [if_neg hlim]
                        try rfl
                      try simp only [Act.put, List.setIfInBounds_toArray, List.set_cons_zero, List.set_cons_succ]
                      refine wpAnyH_take (i := 21) (oi := { dst := some 157, op := Op.indexAddr 23 (Operand.tmp 136) (Operand.tmp 145), type := 0, pos := "law.go:51", after := #[{ on := 0, ground := Ground.data }, { on := 9, ground := Ground.data }, { on := 0, ground := Ground.phase }, { on := 1, ground := Ground.phase }, { on := 2, ground := Ground.phase }, { on := 3, ground := Ground.phase }, { on := 4, ground := Ground.phase }, { on := 5, ground := Ground.phase }, { on := 6, ground := Ground.phase }, { on := 7, ground := Ground.phase }, { on := 8, ground := Ground.phase }, { on := 9, ground := Ground.phase }, { on := 10, ground := Ground.phase }, { on := 11, ground := Ground.phase }, { on := 12, ground := Ground.phase }, { on := 13, ground := Ground.phase }, { on := 14, ground := Ground.phase }, { on := 15, ground := Ground.phase }, { on := 16, ground := Ground.phase }, { on := 17, ground := Ground.phase }, { on := 18, ground := Ground.phase }, { on := 19, ground := Ground.phase }, { on := 20, ground := Ground.phase }], guard := none }) (v := ?_) rfl (by kernel_rfl) (by kernel_rfl) (by kernel_rfl) (fun _ _ _ h => h) (Or.inl ⟨by rfl, fun W' hW' => ?_⟩) hcum ?_
                      rotate_left 1
                      · go_simp
                        try rw [if_neg hlim]
                        try rfl
                      try simp only [Act.put, List.setIfInBounds_toArray, List.set_cons_zero, List.set_cons_succ]
                      refine wpAnyH_ready (rs := [22]) (by kernel_rfl) (by simp) ?_
                      refine AllReadyH.cons (o := { dst := none, op := Op.store 9 (Operand.tmp 157) (Operand.tmp 156), type := 0, pos := "law.go:51", after := #[{ on := 21, ground := Ground.data }, { on := 20, ground := Ground.data }, { on := 0, ground := Ground.phase }, { on := 1, ground := Ground.phase }, { on := 2, ground := Ground.phase }, { on := 3, ground := Ground.phase }, { on := 4, ground := Ground.phase }, { on := 5, ground := Ground.phase }, { on := 6, ground := Ground.phase }, { on := 7, ground := Ground.phase }, { on := 8, ground := Ground.phase }, { on := 9, ground := Ground.phase }, { on := 10, ground := Ground.phase }, { on := 11, ground := Ground.phase }, { on := 12, ground := Ground.phase }, { on := 13, ground := Ground.phase }, { on := 14, ground := Ground.phase }, { on := 15, ground := Ground.phase }, { on := 16, ground := Ground.phase }, { on := 17, ground := Ground.phase }, { on := 18, ground := Ground.phase }, { on := 19, ground := Ground.phase }, { on := 20, ground := Ground.phase }], guard := none }) rfl (fun KK hK => ?_) AllReadyH.nil
                      obtain ⟨d1, d2⟩ := own_cell_at hown hix HY.out.1
                      rw [if_pos (by rfl)]
                      go_simp
                      clear d1 d2
                      have hst := (hown.stored ix (.string (strOf8 [p1] ++ zeroN Z1))).1
                      rw [← List.map_set] at hst
                      replace hcum := hcum.setCell (p := ⟨gX, ix, none⟩) hgX (.string (strOf8 [p1] ++ zeroN Z1))
                      refine hK.out _ _ hcum (fun _ => ?_)
                      clear hK hown
                      generalize V4.setCell ⟨gX, ix, none⟩ (.string (strOf8 [p1] ++ zeroN Z1)) = V5 at *
                      try simp only [Act.put, List.setIfInBounds_toArray, List.set_cons_zero, List.set_cons_succ]
                      refine wpAnyH_done (by kernel_rfl) ?_ _
                      go_wp2_with fail
                      go_roundw
                      case rel => exact ⟨q + 1, Y.set ix (strOf8 [p1] ++ zeroN Z1), by go_num, by omega, HYn, Lib.hid hst, Lib.hid hcum⟩
                      case measure => simp [intOf]; omega
            · have hqd : decide ((q : Int) < (n : Int)) = false := by simp; omega
              obtain ⟨we, rfl⟩ : ∃ we : World, we = wr := ⟨_, rfl⟩
              have T4e := T4r
              obtain ⟨n1, hn1e⟩ : ∃ n1, n1 = n - 1 := ⟨_, rfl⟩
              have hn1b : n1 ≤ 7 := by omega
              have wn1 : IntKind.i64.wrap ((n : Int) - 1) = (n1 : Int) := by rw [IntWalk.i64_in _ (by omega)]; omega
              have j0 : (0 : Int) ≤ (n1 : Int) := by omega
              have j1 : (n1 : Int) ≤ (cX : Int) := by omega
              have j2 : n1 ≤ cX := by omega
              have HST1 : Hid (Strs6 we (.slice (some ⟨gX, 0, none⟩) n1 cX) (Y.take n1)) := Strs6.take (by rw [HY.out.1]; exact HSY.out) (by rw [HY.out.1]; omega)
              have HF1 : Hid ((mayB ((K : Int), (M : Int), (Z : Int)) && fitB (Y.take n1) ((K : Int) + (M : Int)) (Z : Int)) = false) := by
                have h : fitB (Y.take n1) ((K : Int) + (M : Int)) (Z : Int) = false := by
                  unfold fitB
                  rw [decide_eq_false (by rw [List.length_take, HY.out.1, Nat.min_eq_left (by omega)]; have := HNN.out; omega)]
                  rfl
                rw [Hid, h, Bool.and_false]
              clear hn1e hqd
              go_upto_region 23 with fail
              go_cut [19, 20] from 158 to 166 (fun v1 v2 wx => v1 = .slice none 0 0 ∧ v2 = .int .i64 1 ∧ Hid (Below we.heap.size we wx))
              case first =>
                refine wp_region_held (S := fun W' => Below we.heap.size we W') (by kernel_rfl) ?_
                change wpAnyH _ _ _ _ _ 11 _ _ we.drew
                have hcum := (Below.refl we.heap.size we).drew
                generalize we.drew = V0 at *
                refine wpAnyH_take (i := 0) (oi := { dst := some 159, op := Op.load 29 (Operand.tmp 4), type := 29, pos := "law.go:53", after := #[], guard := none }) (v := ?_) rfl (by kernel_rfl) (by kernel_rfl) (by kernel_rfl) (fun _ _ _ h => h) (Or.inl ⟨by rfl, fun W' hW' => ?_⟩) hcum ?_
                rotate_left 1
                · (obtain ⟨x0, x1, x2, _, _, _⟩ := T4e.out.below hW'; go_simp)
                  try rfl
                try simp only [Act.put, List.setIfInBounds_toArray, List.set_cons_zero, List.set_cons_succ]
                refine wpAnyH_take (i := 1) (oi := { dst := some 160, op := Op.move (Operand.tmp 6), type := 23, pos := "law.go:53", after := #[], guard := none }) (v := ?_) rfl (by kernel_rfl) (by kernel_rfl) (by kernel_rfl) (fun _ _ _ h => h) (Or.inl ⟨by rfl, fun W' hW' => ?_⟩) hcum ?_
                rotate_left 1
                · go_simp
                  try rfl
                try simp only [Act.put, List.setIfInBounds_toArray, List.set_cons_zero, List.set_cons_succ]
                refine wpAnyH_take (i := 2) (oi := { dst := some 161, op := Op.move (Operand.tmp 5), type := 3, pos := "law.go:53", after := #[], guard := none }) (v := ?_) rfl (by kernel_rfl) (by kernel_rfl) (by kernel_rfl) (fun _ _ _ h => h) (Or.inl ⟨by rfl, fun W' hW' => ?_⟩) hcum ?_
                rotate_left 1
                · go_simp
                  try rfl
                try simp only [Act.put, List.setIfInBounds_toArray, List.set_cons_zero, List.set_cons_succ]
                refine wpAnyH_take (i := 3) (oi := { dst := some 162, op := Op.binOp BinOp.sub 3 (Operand.tmp 161) (Operand.const (Value.int IntKind.i64 1)) 3, type := 3, pos := "law.go:53", after := #[{ on := 2, ground := Ground.data }], guard := none }) (v := ?_) rfl (by kernel_rfl) (by kernel_rfl) (by kernel_rfl) (fun _ _ _ h => h) (Or.inl ⟨by rfl, fun W' hW' => ?_⟩) hcum ?_
                rotate_left 1
                · go_simp
                  try rfl
                try simp only [Act.put, List.setIfInBounds_toArray, List.set_cons_zero, List.set_cons_succ]
                refine wpAnyH_take (i := 4) (oi := { dst := some 163, op := Op.slice 23 (Operand.tmp 160) none (some (Operand.tmp 162)) none, type := 23, pos := "law.go:53", after := #[{ on := 1, ground := Ground.data }, { on := 3, ground := Ground.data }], guard := none }) (v := ?_) rfl (by kernel_rfl) (by kernel_rfl) (by kernel_rfl) (fun _ _ _ h => h) (Or.inl ⟨by rfl, fun W' hW' => ?_⟩) hcum ?_
                rotate_left 1
                · go_simp
                  try rfl
                try simp only [Act.put, List.setIfInBounds_toArray, List.set_cons_zero, List.set_cons_succ]
                refine wpAnyH_ready (rs := [5]) (by kernel_rfl) (by simp) ?_
                refine AllReadyH.cons (o := { dst := some 164, op := Op.call { callee := Callee.value (Operand.func 11), args := #[Operand.tmp 159, Operand.tmp 163], argTypes := #[29, 23] }, type := 37, pos := "law.go:53", after := #[{ on := 0, ground := Ground.data }, { on := 4, ground := Ground.data }], guard := none }) rfl (fun KK hK => ?_) AllReadyH.nil
                rw [if_pos (by rfl)]
                go_simp
                refine (wrong_no (K : Int) (M : Int) (Z : Int) (.slice (some ⟨gX, 0, none⟩) n1 cX) (Y.take n1) V0 HF1.out (HST1.out.below hcum) (by rw [List.length_take]; omega)).mono ?_
                rintro e V1 ⟨rfl, hbe⟩
                have hcum := hcum.trans (hbe.mono hcum.size)
                refine hK.out _ _ hcum (fun _ => ?_)
                clear hK hbe
                try simp only [Act.put, List.setIfInBounds_toArray, List.set_cons_zero, List.set_cons_succ]
                refine wpAnyH_take (i := 6) (oi := { dst := some 158, op := Op.move (Operand.tmp 164), type := 37, pos := "law.go:53", after := #[{ on := 5, ground := Ground.data }], guard := none }) (v := ?_) rfl (by kernel_rfl) (by kernel_rfl) (by kernel_rfl) (fun _ _ _ h => h) (Or.inl ⟨by rfl, fun W' hW' => ?_⟩) hcum ?_
                rotate_left 1
                · go_simp
                  try rfl
                try simp only [Act.put, List.setIfInBounds_toArray, List.set_cons_zero, List.set_cons_succ]
                refine wpAnyH_take (i := 7) (oi := { dst := some 165, op := Op.extract (Operand.tmp 158) 0, type := 34, pos := "law.go:53", after := #[{ on := 6, ground := Ground.data }], guard := none }) (v := ?_) rfl (by kernel_rfl) (by kernel_rfl) (by kernel_rfl) (fun _ _ _ h => h) (Or.inl ⟨by rfl, fun W' hW' => ?_⟩) hcum ?_
                rotate_left 1
                · go_simp
                  try rfl
                try simp only [Act.put, List.setIfInBounds_toArray, List.set_cons_zero, List.set_cons_succ]
                refine wpAnyH_take (i := 8) (oi := { dst := some 166, op := Op.extract (Operand.tmp 158) 1, type := 36, pos := "law.go:53", after := #[{ on := 6, ground := Ground.data }, { on := 9, ground := Ground.gcOnly Departure.lateStores }], guard := none }) (v := ?_) rfl (by kernel_rfl) (by kernel_rfl) (by kernel_rfl) (fun _ _ _ h => h) (Or.inl ⟨by rfl, fun W' hW' => ?_⟩) hcum ?_
                rotate_left 1
                · go_simp
                  try rfl
                try simp only [Act.put, List.setIfInBounds_toArray, List.set_cons_zero, List.set_cons_succ]
                refine wpAnyH_take (i := 9) (oi := { dst := some 19, op := Op.assign (Operand.tmp 165), type := 34, pos := "law.go:53", after := #[{ on := 7, ground := Ground.data }, { on := 5, ground := Ground.chain }, { on := 0, ground := Ground.phase }, { on := 1, ground := Ground.phase }, { on := 2, ground := Ground.phase }, { on := 3, ground := Ground.phase }, { on := 4, ground := Ground.phase }, { on := 5, ground := Ground.phase }, { on := 6, ground := Ground.phase }, { on := 7, ground := Ground.phase }, { on := 8, ground := Ground.textOnly Departure.lateStores }], guard := none }) (v := ?_) rfl (by kernel_rfl) (by kernel_rfl) (by kernel_rfl) (fun _ _ _ h => h) (Or.inl ⟨by rfl, fun W' hW' => ?_⟩) hcum ?_
                rotate_left 1
                · go_simp
                  try rfl
                try simp only [Act.put, List.setIfInBounds_toArray, List.set_cons_zero, List.set_cons_succ]
                refine wpAnyH_take (i := 10) (oi := { dst := some 20, op := Op.assign (Operand.tmp 166), type := 36, pos := "law.go:53", after := #[{ on := 8, ground := Ground.data }, { on := 9, ground := Ground.chain }, { on := 0, ground := Ground.phase }, { on := 1, ground := Ground.phase }, { on := 2, ground := Ground.phase }, { on := 3, ground := Ground.phase }, { on := 4, ground := Ground.phase }, { on := 5, ground := Ground.phase }, { on := 6, ground := Ground.phase }, { on := 7, ground := Ground.phase }, { on := 8, ground := Ground.phase }, { on := 9, ground := Ground.phase }], guard := none }) (v := ?_) rfl (by kernel_rfl) (by kernel_rfl) (by kernel_rfl) (fun _ _ _ h => h) (Or.inl ⟨by rfl, fun W' hW' => ?_⟩) hcum ?_
                rotate_left 1
                · go_simp
                  try rfl
                try simp only [Act.put, List.setIfInBounds_toArray, List.set_cons_zero, List.set_cons_succ]
                refine wpAnyH_done (by kernel_rfl) ?_ _
                go_wp2_with fail
                go_meet
                exact ⟨rfl, rfl, Lib.hid hcum⟩
              case rest =>
                obtain ⟨wf, rfl⟩ : ∃ wf : World, wf = wc := ⟨_, rfl⟩
                obtain ⟨rfl, rfl, HBf0⟩ := hcut
                have HBf1 := Lib.hid (HBr.out.trans (HBf0.out.mono HBr.out.size))
                have T1f := Lib.hid (T1c.out.below HBf1.out)
                have HBf := Lib.hid (HBc.out.trans (HBf1.out.mono HBc.out.size))
                have hwf := HWC.out.trans (HBf1.out.mono HWC.out.size)
                have p0 := below_celllt P0r.out (cell_block P0r.out) hwf
                have p1 := below_celllt P1r.out (cell_block P1r.out) hwf
                have p2 := below_celllt P2r.out (cell_block P2r.out) hwf
                obtain ⟨a0, a1, a2, _, _, _⟩ := T1f.out
                have HNO : Hid ((mayB (k, m, z) && fitB [] (k + m) z) = false) := by
                  cases hm : mayB (k, m, z) with
                  | false => rfl
                  | true =>
                    obtain ⟨K', M', rfl, rfl, _, _, _, _, _⟩ := mayB_yes hm
                    have h : fitB [] ((K' : Int) + (M' : Int)) z = false := by
                      unfold fitB
                      rw [decide_eq_false (by simp; omega)]
                      rfl
                    rw [Hid, h]
                    rfl
                clear hwf
                go_wp2_with fail
                refine (near_no k m z (.slice none 0 0) [] wf HNO.out (RowIs.nil _ _ _ _) (by simp)).mono ?_
                rintro e wg ⟨rfl, hbg⟩
                have HBn := Lib.hid (HBf.out.trans (hbg.mono HBf.out.size))
                clear hbg p0 p1 p2 a0 a1 a2
                go_wp2_with (first | (go_at_call 13; refine (num5_any _ _).mono ?_; rintro e wn ⟨rfl, rfl⟩))
                go_roundw
                case rel => exact ⟨i + 1, by go_num, by omega, HBn⟩
                case measure => simp [intOf]; omega
      · have hid : (decide ((i : Int) < (S.length : Int)) && decide ((i : Int) < 2)) = false := by simp; omega
        have HB2 := Lib.hid (HB1.out.trans (HB.out.mono HB1.out.size))
        by_cases h3 : i < S.length
        all_goals
          go_wp2_with fail
          refine (wakes5_any _).mono ?_
          rintro e w5 ⟨rfl, hb5⟩
          have hfin := HB2.out.trans (hb5.mono HB2.out.size)
          clear hb5
          go_wp2_with fail
          go_ret
          exact ⟨rfl, hfin⟩
  · go_wp2_with fail
    go_ret
    exact ⟨rfl, HB1.out⟩
end Go.Proofs.Ytijcmdcjjcemfaa
