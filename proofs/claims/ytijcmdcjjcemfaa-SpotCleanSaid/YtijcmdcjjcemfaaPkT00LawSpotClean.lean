/- SpotClean: the law's walk. -/
import Derived.Test.YtijcmdcjjcemfaaPkA25
import Derived.Test.YtijcmdcjjcemfaaPkA26
import Derived.Test.YtijcmdcjjcemfaaPkA15
import Derived.Test.YtijcmdcjjcemfaaPkA21
import Derived.OrdersHeld
import Derived.Deep.RegionHeld
import Derived.Deep.RegionHeld3
import Derived.Deep.CutBlock
namespace Go.Proofs.Ytijcmdcjjcemfaa
open Go.ChangeShapes Go.WideShapes Go.ChangeAt Go.RowKit Go.Joins Go.Shelf
set_option linter.unusedVariables false
set_option linter.unusedSimpArgs false

set_option maxRecDepth 100000 in
set_option maxHeartbeats 8000000 in
theorem spotClean_walk (c0 c1 c2 : Value) (S : List T3) (L : List ByteArray) (bs : List Bool) (w : World) (hS : ThreesIn w c0 S) (hL : TextsIn w c1 L) (hB : BoolsIn w c2 bs) (hS2 : S.length ≤ 9223372036854775807) :
    Calls Try.prog 5 #[.agg #[c0, c1, c2]] w fun e w' => e = .returned (.bool true) ∧ Below w.heap.size w w' := by
  obtain ⟨l0, hlb, hv0, hv1, hv2⟩ := info_parts infoBool
  have tA := Three.new w c0 c1 c2 26
  have hbe := (Below.refl w.heap.size w).alloc (Nat.le_refl _) (.cells #[c0, c1, c2] 26)
  have TA := Lib.hid tA
  have HBE := Lib.hid hbe
  have HS := Lib.hid (hS.below hbe)
  have HL := Lib.hid (hL.row.below hbe)
  have HHX := Lib.hid (heavy4_any c0 c1 c2 S L bs (w.alloc (.cells #[c0, c1, c2] 26)) (hS.below hbe) (hL.below hbe) (hB.below hbe) hS2)
  obtain ⟨A, c, rfl⟩ := hS.len
  obtain ⟨pL, kL, rfl⟩ := hL.row.shape
  have HBO := Lib.hid (hB.below hbe)
  obtain ⟨pb, cb, rfl, _⟩ := hB
  obtain ⟨a0, a1, a2, _, _, _⟩ := tA
  clear hbe hS hL
  go_enter Try.func5, Try.ntmps5
  go_wp2_with fail
  clear a0 a1 a2
  generalize w.alloc (.cells #[.slice A S.length c, .slice pL L.length kL, .slice pb bs.length cb] 26) = W0 at *
  refine HHX.out.mono ?_
  rintro e w1 ⟨bo, hfew, rfl, hb1⟩
  have TA1 := Lib.hid (TA.out.below hb1)
  have HS1 := Lib.hid (HS.out.below hb1)
  have HL1 := Lib.hid (HL.out.below hb1)
  have HBO1 := Lib.hid (HBO.out.below hb1)
  have HB1 := Lib.hid (HBE.out.trans (hb1.mono HBE.out.size))
  have HFW := Lib.hid hfew
  clear hb1 TA HS HL HHX HBO hfew
  cases bo
  · obtain ⟨ht4, hb100, hs50⟩ := HFW.out rfl
    have hLlen : L.length ≤ 4000 := by unfold total at ht4; omega
    have HSZ : Hid (∀ x ∈ L, x.size ≤ 100000) := fun x hx => by
      obtain ⟨q, hq, rfl⟩ := List.getElem_of_mem hx
      have h2 := total_get hq
      rw [← List.getElem_eq_getD (h := hq)] at h2
      omega
    clear HFW ht4
    go_wp2_with fail
    go_loopw [3] (fun nn wr => ∃ i : Nat, nn = .int .i64 i ∧ i ≤ 3 ∧ Hid (Below w1.heap.size w1 wr)) (fun nn _ => 3 - (intOf nn).toNat)
    case atStart => exact ⟨0, rfl, by omega, Lib.hid (Below.refl _ _)⟩
    case round =>
      obtain ⟨i, rfl, hi4, HB⟩ := hrel
      obtain ⟨a0, a1, a2, _, _, _⟩ := TA1.out.below HB.out
      by_cases hil : i < S.length ∧ i < 3
      · obtain ⟨hl0, hi3⟩ := hil
        have hid1 : decide ((i : Int) < (S.length : Int)) = true := by simp; omega
        have hid2 : decide ((i : Int) < 3) = true := by simp; omega
        have i0 : (0 : Int) ≤ (i : Int) := by omega
        have i1 : (i : Int) < (S.length : Int) := by omega
        obtain ⟨b, o, cS, e, s, hs, p0, p1, p2⟩ := (HS1.out.below HB.out).at_ hl0
        cases e
        obtain ⟨k, m, z⟩ := s
        dsimp only at p0 p1 p2
        clear hs
        have P0r := Lib.hid p0
        have P1r := Lib.hid p1
        have P2r := Lib.hid p2
        go_wp2_with fail
        refine (refShape_any k m z wr).mono ?_
        rintro e w5 ⟨rfl, hb5⟩
        obtain ⟨mb, hmb⟩ : ∃ mb, mb = mayB (k, m, z) := ⟨_, rfl⟩
        rw [← hmb]
        have HMB := Lib.hid hmb.symm
        have HB5 := Lib.hid (HB.out.trans (hb5.mono HB.out.size))
        have P0 := Lib.hid (below_celllt P0r.out (cell_block P0r.out) hb5)
        have P1 := Lib.hid (below_celllt P1r.out (cell_block P1r.out) hb5)
        have P2 := Lib.hid (below_celllt P2r.out (cell_block P2r.out) hb5)
        clear hb5 hmb p0 p1 p2 a0 a1 a2 P0r P1r P2r
        have T15 := Lib.hid (TA1.out.below HB5.out)
        have HL5 := Lib.hid (HL1.out.below HB5.out)
        cases mb
        · go_wp2_with fail
          go_roundw
          case rel => exact ⟨i + 1, by go_num, by omega, HB5⟩
          case measure => simp [intOf]; omega
        · obtain ⟨K, M, rfl, rfl, k1, k8, m6, zz1, zz2⟩ := mayB_yes HMB.out
          obtain ⟨x, hx⟩ : ∃ x, withinI z 4 = x := ⟨_, rfl⟩
          have hxb := within_bd z 4 (by omega) (by omega)
          rw [hx] at hxb
          have HX := Lib.hid hx
          obtain ⟨Z, hZ⟩ : ∃ Z : Nat, 1 + x = (Z : Int) := ⟨(1 + x).toNat, by omega⟩
          have wZ : IntKind.i64.wrap (1 + x) = (Z : Int) := by rw [IntWalk.i64_in _ (by omega)]; exact hZ
          have hZ1 : 1 ≤ Z := by omega
          have hZ4 : Z ≤ 4 := by omega
          obtain ⟨n, hn⟩ : ∃ n, n = K + M := ⟨_, rfl⟩
          have hn14 : n ≤ 14 := by omega
          have hn1 : 1 ≤ n := by omega
          have hKn : K ≤ n := by omega
          have HNN := Lib.hid hn
          clear hn hx hZ hxb
          go_upto_region 7 with fail
          go_cut [4] from 32 to 52 (fun v4 wx => ∃ b4, v4 = .pointer (some ⟨b4, 0, none⟩) ∧ Hid (Three wx b4 (.int .i64 (K : Int)) (.int .i64 (M : Int)) (.int .i64 (Z : Int))) ∧ Hid (Below w5.heap.size w5 wx))
          case first =>
            refine wp_region_held (S := fun W' => Below w5.heap.size w5 W') (by kernel_rfl) ?_
            change wpAnyH _ _ _ _ _ 23 _ _ w5.drew
            have hcum := (Below.refl w5.heap.size w5).drew
            generalize w5.drew = V0 at *
            refine wpAnyH_take (i := 0) (oi := { dst := some 32, op := Op.fieldAddr 26 (Operand.tmp 1) 0, type := 0, pos := "more.go:21", after := #[], guard := none }) (v := ?_) rfl (by kernel_rfl) (by kernel_rfl) (by kernel_rfl) (fun _ _ _ h => h) (Or.inl ⟨by rfl, fun W' hW' => ?_⟩) hcum ?_
            rotate_left 1
            · go_simp
              try rfl
            try simp only [Act.put, List.setIfInBounds_toArray, List.set_cons_zero, List.set_cons_succ]
            refine wpAnyH_take (i := 1) (oi := { dst := some 33, op := Op.load 22 (Operand.tmp 32), type := 22, pos := "more.go:21", after := #[{ on := 0, ground := Ground.data }], guard := none }) (v := ?_) rfl (by kernel_rfl) (by kernel_rfl) (by kernel_rfl) (fun _ _ _ h => h) (Or.inl ⟨by rfl, fun W' hW' => ?_⟩) hcum ?_
            rotate_left 1
            · (obtain ⟨a0, a1, a2, _, _, _⟩ := T15.out.below hW'; have p0 := below_celllt P0.out (cell_block P0.out) hW'; have p1 := below_celllt P1.out (cell_block P1.out) hW'; have p2 := below_celllt P2.out (cell_block P2.out) hW'; go_simp)
              try rfl
            try simp only [Act.put, List.setIfInBounds_toArray, List.set_cons_zero, List.set_cons_succ]
            refine wpAnyH_take (i := 2) (oi := { dst := some 34, op := Op.move (Operand.tmp 3), type := 3, pos := "more.go:21", after := #[], guard := none }) (v := ?_) rfl (by kernel_rfl) (by kernel_rfl) (by kernel_rfl) (fun _ _ _ h => h) (Or.inl ⟨by rfl, fun W' hW' => ?_⟩) hcum ?_
            rotate_left 1
            · go_simp
              try rfl
            try simp only [Act.put, List.setIfInBounds_toArray, List.set_cons_zero, List.set_cons_succ]
            refine wpAnyH_take (i := 3) (oi := { dst := some 35, op := Op.indexAddr 22 (Operand.tmp 33) (Operand.tmp 34), type := 0, pos := "more.go:21", after := #[{ on := 1, ground := Ground.data }, { on := 2, ground := Ground.data }], guard := none }) (v := ?_) rfl (by kernel_rfl) (by kernel_rfl) (by kernel_rfl) (fun _ _ _ h => h) (Or.inl ⟨by rfl, fun W' hW' => ?_⟩) hcum ?_
            rotate_left 1
            · go_simp
              try rfl
            try simp only [Act.put, List.setIfInBounds_toArray, List.set_cons_zero, List.set_cons_succ]
            refine wpAnyH_take (i := 4) (oi := { dst := some 36, op := Op.fieldAddr 29 (Operand.tmp 35) 0, type := 0, pos := "more.go:21", after := #[{ on := 3, ground := Ground.data }], guard := none }) (v := ?_) rfl (by kernel_rfl) (by kernel_rfl) (by kernel_rfl) (fun _ _ _ h => h) (Or.inl ⟨by rfl, fun W' hW' => ?_⟩) hcum ?_
            rotate_left 1
            · go_simp
              try rfl
            try simp only [Act.put, List.setIfInBounds_toArray, List.set_cons_zero, List.set_cons_succ]
            refine wpAnyH_take (i := 5) (oi := { dst := some 37, op := Op.load 3 (Operand.tmp 36), type := 3, pos := "more.go:21", after := #[{ on := 4, ground := Ground.data }], guard := none }) (v := ?_) rfl (by kernel_rfl) (by kernel_rfl) (by kernel_rfl) (fun _ _ _ h => h) (Or.inl ⟨by rfl, fun W' hW' => ?_⟩) hcum ?_
            rotate_left 1
            · (obtain ⟨a0, a1, a2, _, _, _⟩ := T15.out.below hW'; have p0 := below_celllt P0.out (cell_block P0.out) hW'; have p1 := below_celllt P1.out (cell_block P1.out) hW'; have p2 := below_celllt P2.out (cell_block P2.out) hW'; go_simp)
              try rfl
            try simp only [Act.put, List.setIfInBounds_toArray, List.set_cons_zero, List.set_cons_succ]
            refine wpAnyH_take (i := 6) (oi := { dst := some 38, op := Op.fieldAddr 26 (Operand.tmp 1) 0, type := 0, pos := "more.go:21", after := #[], guard := none }) (v := ?_) rfl (by kernel_rfl) (by kernel_rfl) (by kernel_rfl) (fun _ _ _ h => h) (Or.inl ⟨by rfl, fun W' hW' => ?_⟩) hcum ?_
            rotate_left 1
            · go_simp
              try rfl
            try simp only [Act.put, List.setIfInBounds_toArray, List.set_cons_zero, List.set_cons_succ]
            refine wpAnyH_take (i := 7) (oi := { dst := some 39, op := Op.load 22 (Operand.tmp 38), type := 22, pos := "more.go:21", after := #[{ on := 6, ground := Ground.data }], guard := none }) (v := ?_) rfl (by kernel_rfl) (by kernel_rfl) (by kernel_rfl) (fun _ _ _ h => h) (Or.inl ⟨by rfl, fun W' hW' => ?_⟩) hcum ?_
            rotate_left 1
            · (obtain ⟨a0, a1, a2, _, _, _⟩ := T15.out.below hW'; have p0 := below_celllt P0.out (cell_block P0.out) hW'; have p1 := below_celllt P1.out (cell_block P1.out) hW'; have p2 := below_celllt P2.out (cell_block P2.out) hW'; go_simp)
              try rfl
            try simp only [Act.put, List.setIfInBounds_toArray, List.set_cons_zero, List.set_cons_succ]
            refine wpAnyH_take (i := 8) (oi := { dst := some 40, op := Op.move (Operand.tmp 3), type := 3, pos := "more.go:21", after := #[], guard := none }) (v := ?_) rfl (by kernel_rfl) (by kernel_rfl) (by kernel_rfl) (fun _ _ _ h => h) (Or.inl ⟨by rfl, fun W' hW' => ?_⟩) hcum ?_
            rotate_left 1
            · go_simp
              try rfl
            try simp only [Act.put, List.setIfInBounds_toArray, List.set_cons_zero, List.set_cons_succ]
            refine wpAnyH_take (i := 9) (oi := { dst := some 41, op := Op.indexAddr 22 (Operand.tmp 39) (Operand.tmp 40), type := 0, pos := "more.go:21", after := #[{ on := 7, ground := Ground.data }, { on := 8, ground := Ground.data }], guard := none }) (v := ?_) rfl (by kernel_rfl) (by kernel_rfl) (by kernel_rfl) (fun _ _ _ h => h) (Or.inl ⟨by rfl, fun W' hW' => ?_⟩) hcum ?_
            rotate_left 1
            · go_simp
              try rfl
            try simp only [Act.put, List.setIfInBounds_toArray, List.set_cons_zero, List.set_cons_succ]
            refine wpAnyH_take (i := 10) (oi := { dst := some 42, op := Op.fieldAddr 29 (Operand.tmp 41) 1, type := 0, pos := "more.go:21", after := #[{ on := 9, ground := Ground.data }], guard := none }) (v := ?_) rfl (by kernel_rfl) (by kernel_rfl) (by kernel_rfl) (fun _ _ _ h => h) (Or.inl ⟨by rfl, fun W' hW' => ?_⟩) hcum ?_
            rotate_left 1
            · go_simp
              try rfl
            try simp only [Act.put, List.setIfInBounds_toArray, List.set_cons_zero, List.set_cons_succ]
            refine wpAnyH_take (i := 11) (oi := { dst := some 43, op := Op.load 3 (Operand.tmp 42), type := 3, pos := "more.go:21", after := #[{ on := 10, ground := Ground.data }], guard := none }) (v := ?_) rfl (by kernel_rfl) (by kernel_rfl) (by kernel_rfl) (fun _ _ _ h => h) (Or.inl ⟨by rfl, fun W' hW' => ?_⟩) hcum ?_
            rotate_left 1
            · (obtain ⟨a0, a1, a2, _, _, _⟩ := T15.out.below hW'; have p0 := below_celllt P0.out (cell_block P0.out) hW'; have p1 := below_celllt P1.out (cell_block P1.out) hW'; have p2 := below_celllt P2.out (cell_block P2.out) hW'; go_simp)
              try rfl
            try simp only [Act.put, List.setIfInBounds_toArray, List.set_cons_zero, List.set_cons_succ]
            refine wpAnyH_take (i := 12) (oi := { dst := some 44, op := Op.fieldAddr 26 (Operand.tmp 1) 0, type := 0, pos := "more.go:21", after := #[], guard := none }) (v := ?_) rfl (by kernel_rfl) (by kernel_rfl) (by kernel_rfl) (fun _ _ _ h => h) (Or.inl ⟨by rfl, fun W' hW' => ?_⟩) hcum ?_
            rotate_left 1
            · go_simp
              try rfl
            try simp only [Act.put, List.setIfInBounds_toArray, List.set_cons_zero, List.set_cons_succ]
            refine wpAnyH_take (i := 13) (oi := { dst := some 45, op := Op.load 22 (Operand.tmp 44), type := 22, pos := "more.go:21", after := #[{ on := 12, ground := Ground.data }], guard := none }) (v := ?_) rfl (by kernel_rfl) (by kernel_rfl) (by kernel_rfl) (fun _ _ _ h => h) (Or.inl ⟨by rfl, fun W' hW' => ?_⟩) hcum ?_
            rotate_left 1
            · (obtain ⟨a0, a1, a2, _, _, _⟩ := T15.out.below hW'; have p0 := below_celllt P0.out (cell_block P0.out) hW'; have p1 := below_celllt P1.out (cell_block P1.out) hW'; have p2 := below_celllt P2.out (cell_block P2.out) hW'; go_simp)
              try rfl
            try simp only [Act.put, List.setIfInBounds_toArray, List.set_cons_zero, List.set_cons_succ]
            refine wpAnyH_take (i := 14) (oi := { dst := some 46, op := Op.move (Operand.tmp 3), type := 3, pos := "more.go:21", after := #[], guard := none }) (v := ?_) rfl (by kernel_rfl) (by kernel_rfl) (by kernel_rfl) (fun _ _ _ h => h) (Or.inl ⟨by rfl, fun W' hW' => ?_⟩) hcum ?_
            rotate_left 1
            · go_simp
              try rfl
            try simp only [Act.put, List.setIfInBounds_toArray, List.set_cons_zero, List.set_cons_succ]
            refine wpAnyH_take (i := 15) (oi := { dst := some 47, op := Op.indexAddr 22 (Operand.tmp 45) (Operand.tmp 46), type := 0, pos := "more.go:21", after := #[{ on := 13, ground := Ground.data }, { on := 14, ground := Ground.data }], guard := none }) (v := ?_) rfl (by kernel_rfl) (by kernel_rfl) (by kernel_rfl) (fun _ _ _ h => h) (Or.inl ⟨by rfl, fun W' hW' => ?_⟩) hcum ?_
            rotate_left 1
            · go_simp
              try rfl
            try simp only [Act.put, List.setIfInBounds_toArray, List.set_cons_zero, List.set_cons_succ]
            refine wpAnyH_take (i := 16) (oi := { dst := some 48, op := Op.fieldAddr 29 (Operand.tmp 47) 2, type := 0, pos := "more.go:21", after := #[{ on := 15, ground := Ground.data }], guard := none }) (v := ?_) rfl (by kernel_rfl) (by kernel_rfl) (by kernel_rfl) (fun _ _ _ h => h) (Or.inl ⟨by rfl, fun W' hW' => ?_⟩) hcum ?_
            rotate_left 1
            · go_simp
              try rfl
            try simp only [Act.put, List.setIfInBounds_toArray, List.set_cons_zero, List.set_cons_succ]
            refine wpAnyH_take (i := 17) (oi := { dst := some 49, op := Op.load 3 (Operand.tmp 48), type := 3, pos := "more.go:21", after := #[{ on := 16, ground := Ground.data }], guard := none }) (v := ?_) rfl (by kernel_rfl) (by kernel_rfl) (by kernel_rfl) (fun _ _ _ h => h) (Or.inl ⟨by rfl, fun W' hW' => ?_⟩) hcum ?_
            rotate_left 1
            · (obtain ⟨a0, a1, a2, _, _, _⟩ := T15.out.below hW'; have p0 := below_celllt P0.out (cell_block P0.out) hW'; have p1 := below_celllt P1.out (cell_block P1.out) hW'; have p2 := below_celllt P2.out (cell_block P2.out) hW'; go_simp)
              try rfl
            try simp only [Act.put, List.setIfInBounds_toArray, List.set_cons_zero, List.set_cons_succ]
            refine wpAnyH_ready (rs := [18, 21]) (by kernel_rfl) (by simp) ?_
            refine AllReadyH.cons (o := { dst := some 50, op := Op.call { callee := Callee.value (Operand.func 21), args := #[Operand.tmp 49, Operand.const (Value.int IntKind.i64 4)], argTypes := #[3, 3] }, type := 3, pos := "more.go:21", after := #[{ on := 17, ground := Ground.data }], guard := none }) rfl (fun KK hK => ?_) (AllReadyH.cons (o := { dst := some 4, op := Op.alloc 29, type := 0, pos := "more.go:21", after := #[], guard := none }) rfl (fun KK hK => ?_) AllReadyH.nil)
            · rw [if_pos (by rfl)]
              go_simp
              refine (within_any z 4 V0 (by omega) (by omega)).mono ?_
              rintro e V1 ⟨rfl, hVV⟩
              have hbe : Below V0.heap.size V0 V1 := hVV ▸ Below.refl _ _
              clear hVV
              rw [HX.out]
              try (replace t4 := t4.below hbe)
              try (clear u0 u1 u2 u3 u4 u5; obtain ⟨u0, u1, u2, u3, u4, u5⟩ := id t4)
              have hcum := hcum.trans (hbe.mono hcum.size)
              refine hK.out _ _ hcum (fun _ => ?_)
              clear hK hbe
              try simp only [Act.put, List.setIfInBounds_toArray, List.set_cons_zero, List.set_cons_succ]
              refine wpAnyH_take (i := 19) (oi := { dst := some 51, op := Op.binOp BinOp.add 3 (Operand.const (Value.int IntKind.i64 1)) (Operand.tmp 50) 3, type := 3, pos := "more.go:21", after := #[{ on := 18, ground := Ground.data }], guard := none }) (v := ?_) rfl (by kernel_rfl) (by kernel_rfl) (by kernel_rfl) (fun _ _ _ h => h) (Or.inl ⟨by rfl, fun W' hW' => ?_⟩) hcum ?_
              rotate_left 1
              · go_simp
                try rfl
              try simp only [Act.put, List.setIfInBounds_toArray, List.set_cons_zero, List.set_cons_succ]
              refine wpAnyH_take (i := 20) (oi := { dst := some 52, op := Op.build 29 #[(0, Operand.tmp 37), (1, Operand.tmp 43), (2, Operand.tmp 51)], type := 29, pos := "more.go:21", after := #[{ on := 5, ground := Ground.data }, { on := 11, ground := Ground.data }, { on := 19, ground := Ground.data }], guard := none }) (v := ?_) rfl (by kernel_rfl) (by kernel_rfl) (by kernel_rfl) (fun _ _ _ h => h) (Or.inl ⟨by rfl, fun W' hW' => ?_⟩) hcum ?_
              rotate_left 1
              · go_simp
                try rfl
              try simp only [Act.put, List.setIfInBounds_toArray, List.set_cons_zero, List.set_cons_succ]
              refine wpAnyH_ready (rs := [21]) (by kernel_rfl) (by simp) ?_
              refine AllReadyH.cons (o := { dst := some 4, op := Op.alloc 29, type := 0, pos := "more.go:21", after := #[], guard := none }) rfl (fun KK hK => ?_) AllReadyH.nil
              rw [if_pos (by rfl)]
              go_simp
              have t4 := Three.new V1 (.int .i64 0) (.int .i64 0) (.int .i64 0) 29
              have hbe := (Below.refl V1.heap.size V1).alloc (Nat.le_refl _) (.cells #[.int .i64 0, .int .i64 0, .int .i64 0] 29)
              have h4 := hcum.size
              have hcum := hcum.trans (hbe.mono hcum.size)
              refine hK.out _ _ hcum (fun _ => ?_)
              clear hK hbe
              generalize V1.alloc (.cells #[.int .i64 0, .int .i64 0, .int .i64 0] 29) = V2 at *
              generalize V1.heap.size = b4 at *
              obtain ⟨u0, u1, u2, u3, u4, u5⟩ := id t4
              try simp only [Act.put, List.setIfInBounds_toArray, List.set_cons_zero, List.set_cons_succ]
              refine wpAnyH_ready (rs := [22]) (by kernel_rfl) (by simp) ?_
              refine AllReadyH.cons (o := { dst := none, op := Op.store 29 (Operand.tmp 4) (Operand.tmp 52), type := 0, pos := "more.go:21", after := #[{ on := 21, ground := Ground.data }, { on := 20, ground := Ground.data }, { on := 18, ground := Ground.chain }, { on := 0, ground := Ground.phase }, { on := 1, ground := Ground.phase }, { on := 2, ground := Ground.phase }, { on := 3, ground := Ground.phase }, { on := 4, ground := Ground.phase }, { on := 5, ground := Ground.phase }, { on := 6, ground := Ground.phase }, { on := 7, ground := Ground.phase }, { on := 8, ground := Ground.phase }, { on := 9, ground := Ground.phase }, { on := 10, ground := Ground.phase }, { on := 11, ground := Ground.phase }, { on := 12, ground := Ground.phase }, { on := 13, ground := Ground.phase }, { on := 14, ground := Ground.phase }, { on := 15, ground := Ground.phase }, { on := 16, ground := Ground.phase }, { on := 17, ground := Ground.phase }, { on := 18, ground := Ground.phase }, { on := 19, ground := Ground.phase }, { on := 20, ground := Ground.phase }, { on := 21, ground := Ground.phase }], guard := none }) rfl (fun KK hK => ?_) AllReadyH.nil
              rw [if_pos (by rfl)]
              go_simp
              clear u0 u1 u2 u3 u4 u5
              have t4 := three_put t4 (.int .i64 (K : Int)) (.int .i64 (M : Int)) (.int .i64 (Z : Int))
              have hcum := ((hcum.setCell (p := ⟨b4, 0, none⟩) h4 (.int .i64 (K : Int))).setCell (p := ⟨b4, 1, none⟩) h4 (.int .i64 (M : Int))).setCell (p := ⟨b4, 2, none⟩) h4 (.int .i64 (Z : Int))
              refine hK.out _ _ hcum (fun _ => ?_)
              clear hK
              generalize (((V2.setCell ⟨b4, 0, none⟩ (.int .i64 (K : Int))).setCell ⟨b4, 1, none⟩ (.int .i64 (M : Int))).setCell ⟨b4, 2, none⟩ (.int .i64 (Z : Int))) = V3 at *
              try simp only [Act.put, List.setIfInBounds_toArray, List.set_cons_zero, List.set_cons_succ]
              refine wpAnyH_done (by kernel_rfl) ?_ _
              go_wp2_with fail
              go_meet
              exact ⟨b4, rfl, Lib.hid t4, Lib.hid hcum⟩
            · rw [if_pos (by rfl)]
              go_simp
              have t4 := Three.new V0 (.int .i64 0) (.int .i64 0) (.int .i64 0) 29
              have hbe := (Below.refl V0.heap.size V0).alloc (Nat.le_refl _) (.cells #[.int .i64 0, .int .i64 0, .int .i64 0] 29)
              have h4 := hcum.size
              have hcum := hcum.trans (hbe.mono hcum.size)
              refine hK.out _ _ hcum (fun _ => ?_)
              clear hK hbe
              generalize V0.alloc (.cells #[.int .i64 0, .int .i64 0, .int .i64 0] 29) = V1 at *
              generalize V0.heap.size = b4 at *
              obtain ⟨u0, u1, u2, u3, u4, u5⟩ := id t4
              try simp only [Act.put, List.setIfInBounds_toArray, List.set_cons_zero, List.set_cons_succ]
              refine wpAnyH_ready (rs := [18]) (by kernel_rfl) (by simp) ?_
              refine AllReadyH.cons (o := { dst := some 50, op := Op.call { callee := Callee.value (Operand.func 21), args := #[Operand.tmp 49, Operand.const (Value.int IntKind.i64 4)], argTypes := #[3, 3] }, type := 3, pos := "more.go:21", after := #[{ on := 17, ground := Ground.data }], guard := none }) rfl (fun KK hK => ?_) AllReadyH.nil
              rw [if_pos (by rfl)]
              go_simp
              refine (within_any z 4 V1 (by omega) (by omega)).mono ?_
              rintro e V2 ⟨rfl, hVV⟩
              have hbe : Below V1.heap.size V1 V2 := hVV ▸ Below.refl _ _
              clear hVV
              rw [HX.out]
              try (replace t4 := t4.below hbe)
              try (clear u0 u1 u2 u3 u4 u5; obtain ⟨u0, u1, u2, u3, u4, u5⟩ := id t4)
              have hcum := hcum.trans (hbe.mono hcum.size)
              refine hK.out _ _ hcum (fun _ => ?_)
              clear hK hbe
              try simp only [Act.put, List.setIfInBounds_toArray, List.set_cons_zero, List.set_cons_succ]
              refine wpAnyH_take (i := 19) (oi := { dst := some 51, op := Op.binOp BinOp.add 3 (Operand.const (Value.int IntKind.i64 1)) (Operand.tmp 50) 3, type := 3, pos := "more.go:21", after := #[{ on := 18, ground := Ground.data }], guard := none }) (v := ?_) rfl (by kernel_rfl) (by kernel_rfl) (by kernel_rfl) (fun _ _ _ h => h) (Or.inl ⟨by rfl, fun W' hW' => ?_⟩) hcum ?_
              rotate_left 1
              · go_simp
                try rfl
              try simp only [Act.put, List.setIfInBounds_toArray, List.set_cons_zero, List.set_cons_succ]
              refine wpAnyH_take (i := 20) (oi := { dst := some 52, op := Op.build 29 #[(0, Operand.tmp 37), (1, Operand.tmp 43), (2, Operand.tmp 51)], type := 29, pos := "more.go:21", after := #[{ on := 5, ground := Ground.data }, { on := 11, ground := Ground.data }, { on := 19, ground := Ground.data }], guard := none }) (v := ?_) rfl (by kernel_rfl) (by kernel_rfl) (by kernel_rfl) (fun _ _ _ h => h) (Or.inl ⟨by rfl, fun W' hW' => ?_⟩) hcum ?_
              rotate_left 1
              · go_simp
                try rfl
              try simp only [Act.put, List.setIfInBounds_toArray, List.set_cons_zero, List.set_cons_succ]
              refine wpAnyH_ready (rs := [22]) (by kernel_rfl) (by simp) ?_
              refine AllReadyH.cons (o := { dst := none, op := Op.store 29 (Operand.tmp 4) (Operand.tmp 52), type := 0, pos := "more.go:21", after := #[{ on := 21, ground := Ground.data }, { on := 20, ground := Ground.data }, { on := 18, ground := Ground.chain }, { on := 0, ground := Ground.phase }, { on := 1, ground := Ground.phase }, { on := 2, ground := Ground.phase }, { on := 3, ground := Ground.phase }, { on := 4, ground := Ground.phase }, { on := 5, ground := Ground.phase }, { on := 6, ground := Ground.phase }, { on := 7, ground := Ground.phase }, { on := 8, ground := Ground.phase }, { on := 9, ground := Ground.phase }, { on := 10, ground := Ground.phase }, { on := 11, ground := Ground.phase }, { on := 12, ground := Ground.phase }, { on := 13, ground := Ground.phase }, { on := 14, ground := Ground.phase }, { on := 15, ground := Ground.phase }, { on := 16, ground := Ground.phase }, { on := 17, ground := Ground.phase }, { on := 18, ground := Ground.phase }, { on := 19, ground := Ground.phase }, { on := 20, ground := Ground.phase }, { on := 21, ground := Ground.phase }], guard := none }) rfl (fun KK hK => ?_) AllReadyH.nil
              rw [if_pos (by rfl)]
              go_simp
              clear u0 u1 u2 u3 u4 u5
              have t4 := three_put t4 (.int .i64 (K : Int)) (.int .i64 (M : Int)) (.int .i64 (Z : Int))
              have hcum := ((hcum.setCell (p := ⟨b4, 0, none⟩) h4 (.int .i64 (K : Int))).setCell (p := ⟨b4, 1, none⟩) h4 (.int .i64 (M : Int))).setCell (p := ⟨b4, 2, none⟩) h4 (.int .i64 (Z : Int))
              refine hK.out _ _ hcum (fun _ => ?_)
              clear hK
              generalize (((V2.setCell ⟨b4, 0, none⟩ (.int .i64 (K : Int))).setCell ⟨b4, 1, none⟩ (.int .i64 (M : Int))).setCell ⟨b4, 2, none⟩ (.int .i64 (Z : Int))) = V3 at *
              try simp only [Act.put, List.setIfInBounds_toArray, List.set_cons_zero, List.set_cons_succ]
              refine wpAnyH_done (by kernel_rfl) ?_ _
              go_wp2_with fail
              go_meet
              exact ⟨b4, rfl, Lib.hid t4, Lib.hid hcum⟩
          case rest =>
            obtain ⟨wcc, rfl⟩ : ∃ wcc : World, wcc = wc := ⟨_, rfl⟩
            obtain ⟨b4, rfl, T4c, HBc5⟩ := hcut
            clear wZ HX
            have HBc := Lib.hid (HB5.out.trans (HBc5.out.mono HB5.out.size))
            have T1c := Lib.hid (TA1.out.below HBc.out)
            have HLc := Lib.hid (HL1.out.below HBc.out)
            go_upto_region 8 with fail
            go_cut [5] from 53 to 61 (fun vx wx => ∃ (X : List ByteArray) (gX cX : Nat), vx = .slice (some ⟨gX, 0, none⟩) n cX ∧ Hid (IsCode n K Z X) ∧ Hid (wx.ownsRow wcc.heap.size 9 1 (.slice (some ⟨gX, 0, none⟩) n cX) n (X.map Value.string)) ∧ Hid (Below wcc.heap.size wcc wx))
            case first =>
              refine wp_region_held (S := fun W' => Below wcc.heap.size wcc W') (by kernel_rfl) ?_
              change wpAnyH _ _ _ _ _ 10 _ _ wcc.drew
              have hcum := (Below.refl wcc.heap.size wcc).drew
              generalize wcc.drew = V0 at *
              refine wpAnyH_take (i := 0) (oi := { dst := some 53, op := Op.load 29 (Operand.tmp 4), type := 29, pos := "more.go:22", after := #[], guard := none }) (v := ?_) rfl (by kernel_rfl) (by kernel_rfl) (by kernel_rfl) (fun _ _ _ h => h) (Or.inl ⟨by rfl, fun W' hW' => ?_⟩) hcum ?_
              rotate_left 1
              · (obtain ⟨x0, x1, x2, _, _, _⟩ := T4c.out.below hW'; obtain ⟨a0, a1, a2, _, _, _⟩ := T1c.out.below hW'; go_simp)
                try rfl
              try simp only [Act.put, List.setIfInBounds_toArray, List.set_cons_zero, List.set_cons_succ]
              refine wpAnyH_take (i := 1) (oi := { dst := some 54, op := Op.fieldAddr 26 (Operand.tmp 1) 1, type := 0, pos := "more.go:22", after := #[], guard := none }) (v := ?_) rfl (by kernel_rfl) (by kernel_rfl) (by kernel_rfl) (fun _ _ _ h => h) (Or.inl ⟨by rfl, fun W' hW' => ?_⟩) hcum ?_
              rotate_left 1
              · go_simp
                try rfl
              try simp only [Act.put, List.setIfInBounds_toArray, List.set_cons_zero, List.set_cons_succ]
              refine wpAnyH_take (i := 2) (oi := { dst := some 55, op := Op.load 23 (Operand.tmp 54), type := 23, pos := "more.go:22", after := #[{ on := 1, ground := Ground.data }], guard := none }) (v := ?_) rfl (by kernel_rfl) (by kernel_rfl) (by kernel_rfl) (fun _ _ _ h => h) (Or.inl ⟨by rfl, fun W' hW' => ?_⟩) hcum ?_
              rotate_left 1
              · (obtain ⟨x0, x1, x2, _, _, _⟩ := T4c.out.below hW'; obtain ⟨a0, a1, a2, _, _, _⟩ := T1c.out.below hW'; go_simp)
                try rfl
              try simp only [Act.put, List.setIfInBounds_toArray, List.set_cons_zero, List.set_cons_succ]
              refine wpAnyH_take (i := 3) (oi := { dst := some 56, op := Op.fieldAddr 29 (Operand.tmp 4) 0, type := 0, pos := "more.go:22", after := #[], guard := none }) (v := ?_) rfl (by kernel_rfl) (by kernel_rfl) (by kernel_rfl) (fun _ _ _ h => h) (Or.inl ⟨by rfl, fun W' hW' => ?_⟩) hcum ?_
              rotate_left 1
              · go_simp
                try rfl
              try simp only [Act.put, List.setIfInBounds_toArray, List.set_cons_zero, List.set_cons_succ]
              refine wpAnyH_take (i := 4) (oi := { dst := some 57, op := Op.load 3 (Operand.tmp 56), type := 3, pos := "more.go:22", after := #[{ on := 3, ground := Ground.data }], guard := none }) (v := ?_) rfl (by kernel_rfl) (by kernel_rfl) (by kernel_rfl) (fun _ _ _ h => h) (Or.inl ⟨by rfl, fun W' hW' => ?_⟩) hcum ?_
              rotate_left 1
              · (obtain ⟨x0, x1, x2, _, _, _⟩ := T4c.out.below hW'; obtain ⟨a0, a1, a2, _, _, _⟩ := T1c.out.below hW'; go_simp)
                try rfl
              try simp only [Act.put, List.setIfInBounds_toArray, List.set_cons_zero, List.set_cons_succ]
              refine wpAnyH_take (i := 5) (oi := { dst := some 58, op := Op.fieldAddr 29 (Operand.tmp 4) 2, type := 0, pos := "more.go:22", after := #[], guard := none }) (v := ?_) rfl (by kernel_rfl) (by kernel_rfl) (by kernel_rfl) (fun _ _ _ h => h) (Or.inl ⟨by rfl, fun W' hW' => ?_⟩) hcum ?_
              rotate_left 1
              · go_simp
                try rfl
              try simp only [Act.put, List.setIfInBounds_toArray, List.set_cons_zero, List.set_cons_succ]
              refine wpAnyH_take (i := 6) (oi := { dst := some 59, op := Op.load 3 (Operand.tmp 58), type := 3, pos := "more.go:22", after := #[{ on := 5, ground := Ground.data }], guard := none }) (v := ?_) rfl (by kernel_rfl) (by kernel_rfl) (by kernel_rfl) (fun _ _ _ h => h) (Or.inl ⟨by rfl, fun W' hW' => ?_⟩) hcum ?_
              rotate_left 1
              · (obtain ⟨x0, x1, x2, _, _, _⟩ := T4c.out.below hW'; obtain ⟨a0, a1, a2, _, _, _⟩ := T1c.out.below hW'; go_simp)
                try rfl
              try simp only [Act.put, List.setIfInBounds_toArray, List.set_cons_zero, List.set_cons_succ]
              refine wpAnyH_ready (rs := [7]) (by kernel_rfl) (by simp) ?_
              refine AllReadyH.cons (o := { dst := some 60, op := Op.call { callee := Callee.value (Operand.func 9), args := #[Operand.tmp 55, Operand.tmp 57, Operand.tmp 59], argTypes := #[23, 3, 3] }, type := 23, pos := "more.go:22", after := #[{ on := 2, ground := Ground.data }, { on := 4, ground := Ground.data }, { on := 6, ground := Ground.data }], guard := none }) rfl (fun KK hK => ?_) AllReadyH.nil
              rw [if_pos (by rfl)]
              go_simp
              have HC := fitted_any (.slice pL L.length kL) L K Z V0 (HLc.out.below hcum) (by omega) HSZ.out (by omega) (by omega) (by omega)
              with_reducible refine HC.mono ?_
              rintro e V1 ⟨vd, F, rfl, hof, hFl, hFz, hbe⟩
              obtain ⟨gD, cD, rfl, _, _, _, _⟩ := own_room hof k1
              have HFL := Lib.hid hFl
              have HFZ := Lib.hid hFz
              have HSF : Hid (Strs6 V1 (.slice (some ⟨gD, 0, none⟩) K cD) F) := by show RowIs _ _ F.length 1 _; rw [HFL.out]; exact RowIs.of_own hof
              clear HC hof hFl hFz
              have hcum := hcum.trans (hbe.mono hcum.size)
              refine hK.out _ _ hcum (fun _ => ?_)
              clear hK hbe
              try simp only [Act.put, List.setIfInBounds_toArray, List.set_cons_zero, List.set_cons_succ]
              refine wpAnyH_ready (rs := [8]) (by kernel_rfl) (by simp) ?_
              refine AllReadyH.cons (o := { dst := some 61, op := Op.call { callee := Callee.value (Operand.func 8), args := #[Operand.tmp 53, Operand.tmp 60], argTypes := #[29, 23] }, type := 23, pos := "more.go:22", after := #[{ on := 0, ground := Ground.data }, { on := 7, ground := Ground.data }, { on := 7, ground := Ground.chain }], guard := none }) rfl (fun KK hK => ?_) AllReadyH.nil
              rw [if_pos (by rfl)]
              go_simp
              refine (refEncode_any K M (Z : Int) (.slice (some ⟨gD, 0, none⟩) K cD) F V1 k1 k8 m6 (by omega) (by omega) HSF.out HFL.out (fun s hs => by rw [Int.toNat_natCast]; exact HFZ.out s hs)).mono ?_
              rintro e V2 ⟨rx, rfl, hox, hbe⟩
              rw [encL_nat, ← HNN.out, Int.toNat_natCast] at hox
              obtain ⟨X, hX⟩ : ∃ X, X = applyL (genL n K) F n K Z := ⟨_, rfl⟩
              rw [← hX] at hox
              have HXC : Hid (IsCode n K Z X) := ⟨F, HFL.out, HFZ.out, hX⟩
              have hbase := hcum.size
              clear hX
              have hcum := hcum.trans (hbe.mono hcum.size)
              refine hK.out _ _ hcum (fun _ => ?_)
              clear hK hbe
              try simp only [Act.put, List.setIfInBounds_toArray, List.set_cons_zero, List.set_cons_succ]
              refine wpAnyH_take (i := 9) (oi := { dst := some 5, op := Op.assign (Operand.tmp 61), type := 23, pos := "more.go:22", after := #[{ on := 8, ground := Ground.data }, { on := 8, ground := Ground.chain }, { on := 0, ground := Ground.phase }, { on := 1, ground := Ground.phase }, { on := 2, ground := Ground.phase }, { on := 3, ground := Ground.phase }, { on := 4, ground := Ground.phase }, { on := 5, ground := Ground.phase }, { on := 6, ground := Ground.phase }, { on := 7, ground := Ground.phase }, { on := 8, ground := Ground.phase }], guard := none }) (v := ?_) rfl (by kernel_rfl) (by kernel_rfl) (by kernel_rfl) (fun _ _ _ h => h) (Or.inl ⟨by rfl, fun W' hW' => ?_⟩) hcum ?_
              rotate_left 1
              · go_simp
                try rfl
              try simp only [Act.put, List.setIfInBounds_toArray, List.set_cons_zero, List.set_cons_succ]
              refine wpAnyH_done (by kernel_rfl) ?_ _
              obtain ⟨gX, cX, rfl, _, _, _, _⟩ := own_room hox hn1
              have hox2 := World.ownsRow.mono hox hbase
              go_wp2_with fail
              go_meet
              exact ⟨X, gX, cX, rfl, HXC, Lib.hid hox2, Lib.hid hcum⟩
            case rest =>
              obtain ⟨w8, rfl⟩ : ∃ w8 : World, w8 = wc := ⟨_, rfl⟩
              obtain ⟨X, gX, cX, rfl, HXC, HOX, HB8c⟩ := hcut
              have HB8 := Lib.hid (HBc.out.trans (HB8c.out.mono HBc.out.size))
              have T48 := Lib.hid (T4c.out.below HB8c.out)
              have HXL := Lib.hid (code_len HXC.out)
              have HXZ := Lib.hid (code_size HXC.out)
              have HSX8 : Hid (Strs6 w8 (.slice (some ⟨gX, 0, none⟩) n cX) X) := by show RowIs _ _ X.length 1 _; rw [HXL.out]; exact RowIs.of_own HOX.out
              have HRM : Hid (RoomS (.slice (some ⟨gX, 0, none⟩) n cX) X) := roomS_own (by rw [HXL.out]; exact HOX.out)
              have HFO : Hid (foundL n K M Z X = some X) := found_yes HNN.out (by omega) HXC.out (by rw [unlN_self]; exact Nat.zero_le _)
              have HN0 : Hid ((unlN (encL (K : Int) (M : Int) (Z : Int) (X.take K)) X n).length = 0) := by
                rw [Hid, encL_nat, ← HNN.out, Int.toNat_natCast, code_take hKn (by omega) HXC.out, unlN_self]
                rfl
              obtain ⟨x0, x1, x2, _, _, _⟩ := T48.out
              go_wp2_with fail
              have HC := wrong_yes K M Z (.slice (some ⟨gX, 0, none⟩) n cX) X w8 k1 k8 m6 hZ1 (by omega) HSX8.out (by rw [HXL.out, HNN.out]) HXZ.out
              rw [← HNN.out, HFO.out] at HC
              dsimp only [errO, unlO] at HC
              rw [unlN_self] at HC
              with_reducible refine HC.mono ?_
              rintro e w9 ⟨rl, rfl, hol, hb9⟩
              obtain ⟨Al, cl, rfl⟩ := own_shape hol
              dsimp only [List.length_nil]
              have HSX9 := Lib.hid (HSX8.out.below hb9)
              have T49 := Lib.hid (T48.out.below hb9)
              have HB9 := Lib.hid (HB8.out.trans (hb9.mono HB8.out.size))
              clear HC hol hb9 x0 x1 x2
              obtain ⟨x0, x1, x2, _, _, _⟩ := T49.out
              go_wp2_with fail
              have HC := mended_yes K M Z (.slice (some ⟨gX, 0, none⟩) n cX) X w9 k1 k8 m6 hZ1 (by omega) HSX9.out (by rw [HXL.out, HNN.out]) HXZ.out
              rw [← HNN.out, HFO.out] at HC
              dsimp only [errO] at HC
              with_reducible refine HC.mono ?_
              rintro e w10 ⟨rm, rfl, hom, hb10⟩
              have hom' : Strs6 w10 rm X := RowIs.of_own hom
              obtain ⟨Am, cm, rfl⟩ := hom'.shape
              rw [HXL.out] at hom' ⊢
              have HM10 := Lib.hid hom'
              have HSX10 := Lib.hid (HSX9.out.below hb10)
              have T410 := Lib.hid (T49.out.below hb10)
              have HB10 := Lib.hid (HB9.out.trans (hb10.mono HB9.out.size))
              clear HC hom hom' hb10 x0 x1 x2
              obtain ⟨x0, x1, x2, _, _, _⟩ := T410.out
              go_wp2_with fail
              have HC := near_yes K M Z (.slice (some ⟨gX, 0, none⟩) n cX) X w10 k1 k8 m6 hZ1 (by omega) HSX10.out HRM.out (by rw [HXL.out, HNN.out]) HXZ.out
              rw [← HNN.out, HN0.out] at HC
              with_reducible refine HC.mono ?_
              rintro e w11 ⟨rfl, hb11⟩
              have HSX11 := Lib.hid (HSX10.out.below hb11)
              have HM11 := Lib.hid (HM10.out.below hb11)
              have HB11 := Lib.hid (HB10.out.trans (hb11.mono HB10.out.size))
              clear HC hb11 x0 x1 x2
              go_wp2_with (first | (go_at_call 13; refine (num5_any _ _).mono ?_; rintro e wn ⟨rfl, rfl⟩))
              have HEQ := eqStrs6_yes (.slice Am n cm) (.slice (some ⟨gX, 0, none⟩) n cX) X w11 HM11.out HSX11.out (by rw [HXL.out]; omega)
              with_reducible refine HEQ.mono ?_
              rintro e w12 ⟨rfl, hb12⟩
              have HBn := Lib.hid (HB11.out.trans (hb12.mono HB11.out.size))
              clear HEQ hb12
              go_wp2_with fail
              go_roundw
              case rel => exact ⟨i + 1, by go_num, by omega, HBn⟩
              case measure => simp [intOf]; omega
      · have hid : (decide ((i : Int) < (S.length : Int)) && decide ((i : Int) < 3)) = false := by simp; omega
        have HB2 := Lib.hid (HB1.out.trans (HB.out.mono HB1.out.size))
        by_cases h3 : i < S.length
        all_goals
          go_wp2_with fail
          refine (wakes5_any _).mono ?_
          rintro e w5 ⟨rfl, hb5⟩
          have hfin := HB2.out.trans (hb5.mono HB2.out.size)
          clear hb5
          go_wp2_with fail
          go_ret
          exact ⟨rfl, hfin⟩
  · go_wp2_with fail
    go_ret
    exact ⟨rfl, HB1.out⟩
end Go.Proofs.Ytijcmdcjjcemfaa
