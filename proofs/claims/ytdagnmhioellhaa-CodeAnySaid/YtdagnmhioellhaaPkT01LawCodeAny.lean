/- CodeAny: the law's walk. -/
import Derived.Test.YtdagnmhioellhaaPkT00LawCodeAny
import Derived.Test.YtdagnmhioellhaaPkA28
import Derived.Test.YtdagnmhioellhaaPkA30
import Derived.Test.YtdagnmhioellhaaPkA31
import Derived.Test.YtdagnmhioellhaaPkA20
namespace Go.Proofs.Ytdagnmhioellhaa
open Go.ChangeShapes Go.WideShapes Go.ChangeAt Go.RowKit Go.Joins Go.Shelf
set_option linter.unusedVariables false
set_option linter.unusedSimpArgs false

theorem conv_bytes {W : World} {b m : Nat} (h : BytesBlk W b (List.replicate m 0)) : (convert 31 9 (.slice (some ⟨b, 0, none⟩) m m)).run Try.prog W = .ok (.string (zeroN m)) W := by
  have := convert_bytes (P := Try.prog) (b := b) (off := 0) (cap := m) (ns := List.replicate m 0) Try.underlying31 Try.underlying5 Try.underlying9 (BytesBlk.cells h)
  rw [List.length_replicate] at this
  exact this

set_option maxRecDepth 100000 in
set_option maxHeartbeats 40000000 in
theorem codeAny_walk (c0 c1 c2 : Value) (S : List T3) (L : List ByteArray) (bs : List Bool) (w : World) (hS : ThreesIn w c0 S) (hL : TextsIn w c1 L) (hB : BoolsIn w c2 bs) (hS2 : S.length ≤ 9223372036854775807) :
    Calls Try.prog 4 #[.agg #[c0, c1, c2]] w fun e w' => e = .returned (.bool true) ∧ Below w.heap.size w w' := by
  obtain ⟨l0, hlb, hv0, hv1, hv2⟩ := info_parts infoBool
  have tA := Three.new w c0 c1 c2 26
  have hbe := (Below.refl w.heap.size w).alloc (Nat.le_refl _) (.cells #[c0, c1, c2] 26)
  have TA := Lib.hid tA
  have HBE := Lib.hid hbe
  have HS := Lib.hid (hS.below hbe)
  have HL := Lib.hid (hL.row.below hbe)
  have HHX := Lib.hid (heavy4_any c0 c1 c2 S L bs (w.alloc (.cells #[c0, c1, c2] 26)) (hS.below hbe) (hL.below hbe) (hB.below hbe) hS2)
  obtain ⟨A, c, rfl⟩ := hS.len
  obtain ⟨pL, kL, rfl⟩ := hL.row.shape
  have HBO := Lib.hid (hB.below hbe)
  obtain ⟨pb, cb, rfl, _⟩ := hB
  obtain ⟨a0, a1, a2, _, _, _⟩ := tA
  clear hbe hS hL
  go_enter Try.func4, Try.ntmps4
  go_wp2_with fail
  clear a0 a1 a2
  generalize w.alloc (.cells #[.slice A S.length c, .slice pL L.length kL, .slice pb bs.length cb] 26) = W0 at *
  refine HHX.out.mono ?_
  rintro e w1 ⟨bo, hfew, rfl, hb1⟩
  have TA1 := Lib.hid (TA.out.below hb1)
  have HS1 := Lib.hid (HS.out.below hb1)
  have HL1 := Lib.hid (HL.out.below hb1)
  have HBO1 := Lib.hid (HBO.out.below hb1)
  have HB1 := Lib.hid (HBE.out.trans (hb1.mono HBE.out.size))
  have HFW := Lib.hid hfew
  clear hb1 TA HS HL HHX HBO hfew
  cases bo
  · obtain ⟨ht4, hb100, hs50⟩ := HFW.out rfl
    have hLlen : L.length ≤ 4000 := by unfold total at ht4; omega
    have HSZ : Hid (∀ x ∈ L, x.size ≤ 100000) := fun x hx => by
      obtain ⟨q, hq, rfl⟩ := List.getElem_of_mem hx
      have h2 := total_get hq
      rw [← List.getElem_eq_getD (h := hq)] at h2
      omega
    clear HFW ht4
    go_wp2_with fail
    go_loopw [3] (fun nn wr => ∃ i : Nat, nn = .int .i64 i ∧ i ≤ 2 ∧ Hid (Below w1.heap.size w1 wr)) (fun nn _ => 2 - (intOf nn).toNat)
    case atStart => exact ⟨0, rfl, by omega, Lib.hid (Below.refl _ _)⟩
    case round =>
      obtain ⟨i, rfl, hi4, HB⟩ := hrel
      obtain ⟨a0, a1, a2, _, _, _⟩ := TA1.out.below HB.out
      by_cases hil : i < S.length ∧ i < 2
      · obtain ⟨hl0, hi3⟩ := hil
        have hid1 : decide ((i : Int) < (S.length : Int)) = true := by simp; omega
        have hid2 : decide ((i : Int) < 2) = true := by simp; omega
        have i0 : (0 : Int) ≤ (i : Int) := by omega
        have i1 : (i : Int) < (S.length : Int) := by omega
        obtain ⟨b, o, cS, e, s, hs, p0, p1, p2⟩ := (HS1.out.below HB.out).at_ hl0
        cases e
        obtain ⟨k, m, z⟩ := s
        dsimp only at p0 p1 p2
        clear hs
        have t4 := Three.new wr (.int .i64 k) (.int .i64 m) (.int .i64 z) 29
        obtain ⟨o4, ho4⟩ : ∃ o, o = (Obj.cells #[.int .i64 k, .int .i64 m, .int .i64 z] 29) := ⟨_, rfl⟩
        rw [← ho4] at t4
        have hb4 := (Below.refl wr.heap.size wr).alloc (Nat.le_refl _) o4
        have T4 := Lib.hid t4
        have HB4 := Lib.hid (HB.out.trans (hb4.mono HB.out.size))
        obtain ⟨x0, x1, x2, _, _, _⟩ := t4
        rw [ho4] at x0 x1 x2
        clear hb4
        go_upto_region 7 with fail
        rw [← ho4]
        clear x0 x1 x2 ho4 a0 a1 a2 p0 p1 p2
        generalize wr.alloc o4 = W4 at *
        have hb4s0 := HB.out.size
        generalize wr.heap.size = b4 at *
        have hb4s : w1.heap.size ≤ b4 := hb4s0
        have hwb4 : w.heap.size < b4 := Nat.lt_of_lt_of_le (cell_block TA1.out.c0) hb4s
        obtain ⟨x0, x1, x2, _, _, _⟩ := T4.out
        -- whether it may be
        go_wp2_with fail
        refine (refShape_any k m z W4).mono ?_
        rintro e w5 ⟨rfl, hb5⟩
        obtain ⟨mb, hmb⟩ : ∃ mb, mb = mayB (k, m, z) := ⟨_, rfl⟩
        rw [← hmb]
        have HMB := Lib.hid hmb.symm
        have T5 := Lib.hid (T4.out.below hb5)
        have HB5 := Lib.hid (HB4.out.trans (hb5.mono HB4.out.size))
        clear hb5 hmb x0 x1 x2
        have T15 := Lib.hid (TA1.out.below HB5.out)
        have HL5 := Lib.hid (HL1.out.below HB5.out)
        obtain ⟨_, _, eB, hBS⟩ := HBO1.out.below HB5.out
        cases eB
        have HBS5 := Lib.hid hBS
        clear hBS
        cases mb
        · -- it may not be
          obtain ⟨x0, x1, x2, _, _, _⟩ := T5.out
          go_wp2_with fail
          go_roundw
          case rel => exact ⟨i + 1, by go_num, by omega, HB5⟩
          case measure => simp [intOf]; omega
        · obtain ⟨K, M, rfl, rfl, k1, k8, m6, zz1, zz2⟩ := mayB_yes HMB.out
          obtain ⟨Z, hZ⟩ : ∃ Z : Nat, min z 4 = (Z : Int) := ⟨(min z 4).toNat, by omega⟩
          have hZ1 : 1 ≤ Z := by omega
          have hZ4 : Z ≤ 4 := by omega
          obtain ⟨n, hn⟩ : ∃ n, n = K + M := ⟨_, rfl⟩
          have wK : IntKind.i64.wrap ((K : Int) + (M : Int)) = (n : Int) := by rw [IntWalk.i64_in _ (by omega)]; omega
          have hn14 : n ≤ 14 := by omega
          have hn1 : 1 ≤ n := by omega
          have hKn : K ≤ n := by omega
          have HNN := Lib.hid hn
          have HMZ : Hid (mayB ((K : Int), (M : Int), (Z : Int)) = true) := decide_eq_true (by dsimp only; omega)
          clear hn
          have t4' := three_put2 T5.out (.int .i64 (Z : Int))
          have T6 := Lib.hid t4'
          have hb4w : w1.heap.size ≤ b4 := hb4s
          have HBs6 := Lib.hid (HB5.out.setCell (p := ⟨b4, 2, none⟩) hb4w (.int .i64 (Z : Int)))
          have T16 := Lib.hid (three_cell (d := ⟨b4, 2, none⟩) (u := .int .i64 (Z : Int)) T15.out (by dsimp only; omega))
          have HL6 := Lib.hid (HL1.out.below HBs6.out)
          obtain ⟨x0, x1, x2, x3, x4, x5⟩ := T5.out
          clear t4'
          go_upto_region 9 with fail
          clear x0 x1 x2 x3 x4 x5
          generalize w5.setCell ⟨b4, 2, none⟩ (.int .i64 (Z : Int)) = w6 at *
          obtain ⟨x0, x1, x2, _, _, _⟩ := T6.out
          obtain ⟨a0, a1, a2, _, _, _⟩ := T16.out
          -- the data
          go_wp2_with fail
          have HC := fitted_any (.slice pL L.length kL) L K Z w6 HL6.out (by omega) HSZ.out (by omega) (by omega) (by omega)
          with_reducible refine HC.mono ?_
          rintro e w7 ⟨vd, F, rfl, hof, hFl, hFz, hb7⟩
          obtain ⟨gD, cD, rfl, hgD1, hgD2, hcD, hcD2⟩ := own_room hof k1
          have HFL := Lib.hid hFl
          have HFZ := Lib.hid hFz
          have HSF7 : Hid (Strs6 w7 (.slice (some ⟨gD, 0, none⟩) K cD) F) := by show RowIs _ _ F.length 1 _; rw [HFL.out]; exact RowIs.of_own hof
          have T7 := Lib.hid (T6.out.below hb7)
          have T17 := Lib.hid (T16.out.below hb7)
          have HB7 := Lib.hid (HBs6.out.trans (hb7.mono HBs6.out.size))
          clear HC hof hFl hFz hb7 x0 x1 x2 a0 a1 a2
          obtain ⟨x0, x1, x2, _, _, _⟩ := T7.out
          -- its pieces
          have HFB : Hid ((mayB ((K : Int), (M : Int), (Z : Int)) && fitB F (K : Int) (Z : Int)) = true) := by
            rw [Hid, HMZ.out, Bool.true_and]
            exact fitB_of (by rw [HFL.out]) (fun s hs => by rw [HFZ.out s hs])
          go_wp2_with fail
          refine (encode_all (K : Int) (M : Int) (Z : Int) (.slice (some ⟨gD, 0, none⟩) K cD) F true HFB.out w7 HSF7.out (by rw [HFL.out]; omega)).mono ?_
          rintro e w8 ⟨rx, rfl, hox, hb8⟩
          obtain ⟨X, hX⟩ : ∃ X, X = encL (K : Int) (M : Int) (Z : Int) F := ⟨_, rfl⟩
          have hXl : X.length = n := by rw [hX, encL_len, HNN.out]; omega
          have hox' : w8.ownsRow w7.heap.size 9 1 rx n (X.map Value.string) := by
            have h : w8.ownsRow w7.heap.size 9 1 rx (encL (K : Int) (M : Int) (Z : Int) F).length ((encL (K : Int) (M : Int) (Z : Int) F).map Value.string) := hox
            rw [← hX, hXl] at h
            exact h
          obtain ⟨gX, cX, rfl, hgX1, hgX2, _, _⟩ := own_room hox' hn1
          have he : mulE true = 0 := rfl
          rw [he]
          have HXE := Lib.hid hX
          have HXL := Lib.hid hXl
          have HSX8 : Hid (Strs6 w8 (.slice (some ⟨gX, 0, none⟩) n cX) X) := by show RowIs _ _ X.length 1 _; rw [HXL.out]; exact RowIs.of_own hox'
          have T8 := Lib.hid (T7.out.below hb8)
          have T18 := Lib.hid (T17.out.below hb8)
          have HSF8 := Lib.hid (HSF7.out.below hb8)
          have HB8 := Lib.hid (HB7.out.trans (hb8.mono HB7.out.size))
          clear hox hox' hX hXl hb8 he x0 x1 x2
          -- other data
          go_wp2_with fail
          obtain ⟨wcp, rfl⟩ : ∃ wcp : World, wcp = w8 := ⟨_, rfl⟩
          have HCP := copyStrs6_any (.slice (some ⟨gD, 0, none⟩) K cD) F wcp (HSF8.out) (by rw [HFL.out]; omega)
          rw [HFL.out] at HCP
          with_reducible refine HCP.mono ?_
          rintro e wq ⟨ro, rfl, hoo, hbq⟩
          obtain ⟨gO, cO, rfl, hgO, hgO2, _, _⟩ := own_room hoo k1
          have T1c := Lib.hid T18.out
          have T4c := Lib.hid T8.out
          have HOO := Lib.hid hoo
          have HBq := Lib.hid hbq
          obtain ⟨x, hx⟩ : ∃ x : Nat, withinI (L.length : Int) (K : Int) = (x : Int) := by
            have h := within_bd (L.length : Int) (K : Int) (by omega) (by omega)
            generalize withinI (L.length : Int) (K : Int) = y at *
            exact ⟨y.toNat, by omega⟩
          have hxK : x < K := by
            have h := within_bd (L.length : Int) (K : Int) (by omega) (by omega)
            rw [hx] at h
            omega
          have HX := Lib.hid hx
          have i2 : (0 : Int) ≤ (x : Int) := by omega
          have i3 : (x : Int) < (K : Int) := by omega
          have hq1 : x < (F.map Value.string).length := by rw [List.length_map, HFL.out]; exact hxK
          obtain ⟨uo, huo⟩ : ∃ u, (F.map Value.string)[x]? = some u := ⟨_, List.getElem?_eq_getElem hq1⟩
          have HUO := Lib.hid huo
          obtain ⟨Z1, hZ1e⟩ : ∃ Z1, Z1 + 1 = Z := ⟨Z - 1, by omega⟩
          have wZ : IntKind.i64.wrap ((Z : Int) - 1) = (Z1 : Int) := by rw [IntWalk.i64_in _ (by omega)]; omega
          have hmk := hmk8 (n := Z1) (by omega)
          have hz7 : (⟨#[7]⟩ : ByteArray).size = 1 := rfl
          have hzz : (zeroN Z1).size = Z1 := zeroN_size Z1
          have hcat : (zeroN Z1).size + (⟨#[7]⟩ : ByteArray).size ≤ 110000 := by rw [hz7, hzz]; omega
          have hlim : ¬ (9223372036854775807 < Z1 + 1) := by omega
          have HF2L : Hid ((F.set x (zeroN Z1 ++ ⟨#[7]⟩)).length = K) := by rw [Hid, List.length_set]; exact HFL.out
          have HF2Z : Hid (∀ s ∈ F.set x (zeroN Z1 ++ ⟨#[7]⟩), s.size = Z) := fun s hs => by
            rcases List.mem_or_eq_of_mem_set hs with h | h
            · exact HFZ.out s h
            · rw [h, app_size, hz7, hzz]; exact hZ1e
          clear hoo hbq hx hq1 huo hZ1e HCP
          go_upto_region 13 with fail
          go_cut [] from 63 to 76 (fun wx => ∃ F2 : List ByteArray, Hid (F2.length = K) ∧ Hid (∀ s ∈ F2, s.size = Z) ∧ Hid (Strs6 wx (.slice (some ⟨gO, 0, none⟩) K cO) F2) ∧ Hid (Below wcp.heap.size wcp wx))
          case first =>
            as_aux_lemma =>
              refine wp_region_held (S := fun W' => Below wcp.heap.size wcp W') (by kernel_rfl) ?_
              change wpAnyH _ _ _ _ _ 15 _ _ wq.drew
              have hcum := HBq.out.drew
              have hown := HOO.out.drew
              have d1 : wq.drew.cell? ⟨gO, x, none⟩ = some uo := by rw [hown.cellAt x (by omega)]; exact HUO.out
              have d2 := hown.frozenAt x
              generalize wq.drew = V0 at *
              refine wpAnyH_take (i := 0) (oi := { dst := some 63, op := Op.move (Operand.tmp 9), type := 23, pos := "law.go:160", after := #[], guard := none }) (v := ?_) rfl (by kernel_rfl) (by kernel_rfl) (by kernel_rfl) (fun _ _ _ h => h) (Or.inl ⟨by rfl, fun W' hW' => ?_⟩) hcum ?_
              rotate_left 1
              · go_simp
                try rw [if_neg hlim]
                try rfl
              try simp only [Act.put, List.setIfInBounds_toArray, List.set_cons_zero, List.set_cons_succ]
              refine wpAnyH_take (i := 1) (oi := { dst := some 64, op := Op.fieldAddr 26 (Operand.tmp 1) 1, type := 0, pos := "law.go:160", after := #[], guard := none }) (v := ?_) rfl (by kernel_rfl) (by kernel_rfl) (by kernel_rfl) (fun _ _ _ h => h) (Or.inl ⟨by rfl, fun W' hW' => ?_⟩) hcum ?_
              rotate_left 1
              · go_simp
                try rw [if_neg hlim]
                try rfl
              try simp only [Act.put, List.setIfInBounds_toArray, List.set_cons_zero, List.set_cons_succ]
              refine wpAnyH_take (i := 2) (oi := { dst := some 65, op := Op.load 23 (Operand.tmp 64), type := 23, pos := "law.go:160", after := #[{ on := 1, ground := Ground.data }], guard := none }) (v := ?_) rfl (by kernel_rfl) (by kernel_rfl) (by kernel_rfl) (fun _ _ _ h => h) (Or.inl ⟨by rfl, fun W' hW' => ?_⟩) hcum ?_
              rotate_left 1
              · (obtain ⟨a0, a1, a2, _, _, _⟩ := T1c.out.below hW'; obtain ⟨x0, x1, x2, _, _, _⟩ := T4c.out.below hW'; go_simp)
                try rw [if_neg hlim]
                try rfl
              try simp only [Act.put, List.setIfInBounds_toArray, List.set_cons_zero, List.set_cons_succ]
              refine wpAnyH_take (i := 3) (oi := { dst := some 66, op := Op.call { callee := Callee.builtin Builtin.len, args := #[Operand.tmp 65], argTypes := #[23] }, type := 3, pos := "law.go:160", after := #[{ on := 2, ground := Ground.data }], guard := none }) (v := ?_) rfl (by kernel_rfl) (by kernel_rfl) (by kernel_rfl) (fun _ _ _ h => h) (Or.inl ⟨by rfl, fun W' hW' => ?_⟩) hcum ?_
              rotate_left 1
              · go_simp
                try rw [if_neg hlim]
                try rfl
              try simp only [Act.put, List.setIfInBounds_toArray, List.set_cons_zero, List.set_cons_succ]
              refine wpAnyH_take (i := 4) (oi := { dst := some 67, op := Op.fieldAddr 29 (Operand.tmp 4) 0, type := 0, pos := "law.go:160", after := #[], guard := none }) (v := ?_) rfl (by kernel_rfl) (by kernel_rfl) (by kernel_rfl) (fun _ _ _ h => h) (Or.inl ⟨by rfl, fun W' hW' => ?_⟩) hcum ?_
              rotate_left 1
              · go_simp
                try rw [if_neg hlim]
                try rfl
              try simp only [Act.put, List.setIfInBounds_toArray, List.set_cons_zero, List.set_cons_succ]
              refine wpAnyH_take (i := 5) (oi := { dst := some 68, op := Op.load 3 (Operand.tmp 67), type := 3, pos := "law.go:160", after := #[{ on := 4, ground := Ground.data }], guard := none }) (v := ?_) rfl (by kernel_rfl) (by kernel_rfl) (by kernel_rfl) (fun _ _ _ h => h) (Or.inl ⟨by rfl, fun W' hW' => ?_⟩) hcum ?_
              rotate_left 1
              · (obtain ⟨a0, a1, a2, _, _, _⟩ := T1c.out.below hW'; obtain ⟨x0, x1, x2, _, _, _⟩ := T4c.out.below hW'; go_simp)
                try rw [if_neg hlim]
                try rfl
              try simp only [Act.put, List.setIfInBounds_toArray, List.set_cons_zero, List.set_cons_succ]
              refine wpAnyH_take (i := 7) (oi := { dst := some 70, op := Op.fieldAddr 29 (Operand.tmp 4) 2, type := 0, pos := "law.go:160", after := #[], guard := none }) (v := ?_) rfl (by kernel_rfl) (by kernel_rfl) (by kernel_rfl) (fun _ _ _ h => h) (Or.inl ⟨by rfl, fun W' hW' => ?_⟩) hcum ?_
              rotate_left 1
              · go_simp
                try rw [if_neg hlim]
                try rfl
              try simp only [Act.put, List.setIfInBounds_toArray, List.set_cons_zero, List.set_cons_succ]
              refine wpAnyH_take (i := 8) (oi := { dst := some 71, op := Op.load 3 (Operand.tmp 70), type := 3, pos := "law.go:160", after := #[{ on := 7, ground := Ground.data }], guard := none }) (v := ?_) rfl (by kernel_rfl) (by kernel_rfl) (by kernel_rfl) (fun _ _ _ h => h) (Or.inl ⟨by rfl, fun W' hW' => ?_⟩) hcum ?_
              rotate_left 1
              · (obtain ⟨a0, a1, a2, _, _, _⟩ := T1c.out.below hW'; obtain ⟨x0, x1, x2, _, _, _⟩ := T4c.out.below hW'; go_simp)
                try rw [if_neg hlim]
                try rfl
              try simp only [Act.put, List.setIfInBounds_toArray, List.set_cons_zero, List.set_cons_succ]
              refine wpAnyH_take (i := 9) (oi := { dst := some 72, op := Op.binOp BinOp.sub 3 (Operand.tmp 71) (Operand.const (Value.int IntKind.i64 1)) 3, type := 3, pos := "law.go:160", after := #[{ on := 8, ground := Ground.data }], guard := none }) (v := ?_) rfl (by kernel_rfl) (by kernel_rfl) (by kernel_rfl) (fun _ _ _ h => h) (Or.inl ⟨by rfl, fun W' hW' => ?_⟩) hcum ?_
              rotate_left 1
              · go_simp
                try rw [if_neg hlim]
                try rfl
              try simp only [Act.put, List.setIfInBounds_toArray, List.set_cons_zero, List.set_cons_succ]
              refine wpAnyH_ready (rs := [6, 10]) (by kernel_rfl) (by simp) ?_
              refine AllReadyH.cons (o := { dst := some 69, op := Op.call { callee := Callee.value (Operand.func 25), args := #[Operand.tmp 66, Operand.tmp 68], argTypes := #[3, 3] }, type := 3, pos := "law.go:160", after := #[{ on := 3, ground := Ground.data }, { on := 5, ground := Ground.data }], guard := none }) rfl (fun KK hK => ?_) (AllReadyH.cons (o := { dst := some 73, op := Op.makeSlice 31 (Operand.tmp 72) (Operand.tmp 72), type := 31, pos := "law.go:160", after := #[{ on := 9, ground := Ground.data }, { on := 9, ground := Ground.data }], guard := none }) rfl (fun KK hK => ?_) AllReadyH.nil)
              · rw [if_pos (by rfl)]
                go_simp
                refine (within_any (L.length : Int) (K : Int) V0 (by omega) (by omega)).mono ?_
                rintro e V1 ⟨rfl, hVV⟩
                have hbe : Below V0.heap.size V0 V1 := hVV ▸ Below.refl _ _
                clear hVV
                rw [HX.out]
                replace hown := own_below hown hbe
                clear d1 d2
                have d1 : V1.cell? ⟨gO, x, none⟩ = some uo := by rw [hown.cellAt x (by omega)]; exact HUO.out
                have d2 := hown.frozenAt x
                try (replace hbm := blk_below hbm hbml hbe)
                try (replace hbml := Nat.lt_of_lt_of_le hbml hbe.size)
                try (replace hcv := conv_bytes hbm)
                have hcum := hcum.trans (hbe.mono hcum.size)
                refine hK.out _ _ hcum (fun _ => ?_)
                clear hK hbe
                try simp only [Act.put, List.setIfInBounds_toArray, List.set_cons_zero, List.set_cons_succ]
                refine wpAnyH_ready (rs := [10]) (by kernel_rfl) (by simp) ?_
                refine AllReadyH.cons (o := { dst := some 73, op := Op.makeSlice 31 (Operand.tmp 72) (Operand.tmp 72), type := 31, pos := "law.go:160", after := #[{ on := 9, ground := Ground.data }, { on := 9, ground := Ground.data }], guard := none }) rfl (fun KK hK => ?_) AllReadyH.nil
                rw [if_pos (by rfl)]
                go_simp
                have hbe := (Below.refl V1.heap.size V1).alloc (Nat.le_refl _) (.cells (cellsOf8 (List.replicate Z1 0)) 5)
                have hbm := bytesBlk_new V1 (ns := List.replicate Z1 0) rfl 5 (by intro y hy; rw [List.eq_of_mem_replicate hy]; decide)
                have hbml : V1.heap.size < (V1.alloc (.cells (cellsOf8 (List.replicate Z1 0)) 5)).heap.size := by simp
                have hcv := conv_bytes hbm
                replace hown := hown.alloc (.cells (cellsOf8 (List.replicate Z1 0)) 5)
                clear d1 d2
                have d1 : (V1.alloc (.cells (cellsOf8 (List.replicate Z1 0)) 5)).cell? ⟨gO, x, none⟩ = some uo := by rw [hown.cellAt x (by omega)]; exact HUO.out
                have d2 := hown.frozenAt x
                replace hcum := hcum.trans (hbe.mono hcum.size)
                refine hK.out _ _ hcum (fun _ => ?_)
                clear hK hbe
                generalize V1.alloc (.cells (cellsOf8 (List.replicate Z1 0)) 5) = V2 at *
                generalize V1.heap.size = bm at *
                try simp only [Act.put, List.setIfInBounds_toArray, List.set_cons_zero, List.set_cons_succ]
                refine wpAnyH_ready (rs := [11]) (by kernel_rfl) (by simp) ?_
                refine AllReadyH.cons (o := { dst := some 74, op := Op.convert 31 9 (Operand.tmp 73), type := 9, pos := "law.go:160", after := #[{ on := 10, ground := Ground.data }], guard := none }) rfl (fun KK hK => ?_) AllReadyH.nil
                rw [if_pos (by rfl)]
                go_simp
                refine hK.out _ _ hcum (fun _ => ?_)
                clear hK
                obtain ⟨V3, rfl⟩ : ∃ V, V = V2 := ⟨_, rfl⟩
                try simp only [Act.put, List.setIfInBounds_toArray, List.set_cons_zero, List.set_cons_succ]
                refine wpAnyH_take (i := 12) (oi := { dst := some 75, op := Op.binOp BinOp.add 9 (Operand.tmp 74) (Operand.const (Value.string { data := #[7] })) 9, type := 9, pos := "law.go:160", after := #[{ on := 11, ground := Ground.data }], guard := none }) (v := ?_) rfl (by kernel_rfl) (by kernel_rfl) (by kernel_rfl) (fun _ _ _ h => h) (Or.inl ⟨by rfl, fun W' hW' => ?_⟩) hcum ?_
                rotate_left 1
                · go_simp
                  try rw [if_neg hlim]
                  try rfl
                try simp only [Act.put, List.setIfInBounds_toArray, List.set_cons_zero, List.set_cons_succ]
                refine wpAnyH_take (i := 13) (oi := { dst := some 76, op := Op.indexAddr 23 (Operand.tmp 63) (Operand.tmp 69), type := 0, pos := "law.go:160", after := #[{ on := 0, ground := Ground.data }, { on := 6, ground := Ground.data }, { on := 0, ground := Ground.phase }, { on := 1, ground := Ground.phase }, { on := 2, ground := Ground.phase }, { on := 3, ground := Ground.phase }, { on := 4, ground := Ground.phase }, { on := 5, ground := Ground.phase }, { on := 6, ground := Ground.phase }, { on := 7, ground := Ground.phase }, { on := 8, ground := Ground.phase }, { on := 9, ground := Ground.phase }, { on := 10, ground := Ground.phase }, { on := 11, ground := Ground.phase }, { on := 12, ground := Ground.phase }], guard := none }) (v := ?_) rfl (by kernel_rfl) (by kernel_rfl) (by kernel_rfl) (fun _ _ _ h => h) (Or.inl ⟨by rfl, fun W' hW' => ?_⟩) hcum ?_
                rotate_left 1
                · go_simp
                  try rw [if_neg hlim]
                  try rfl
                try simp only [Act.put, List.setIfInBounds_toArray, List.set_cons_zero, List.set_cons_succ]
                refine wpAnyH_ready (rs := [14]) (by kernel_rfl) (by simp) ?_
                refine AllReadyH.cons (o := { dst := none, op := Op.store 9 (Operand.tmp 76) (Operand.tmp 75), type := 0, pos := "law.go:160", after := #[{ on := 13, ground := Ground.data }, { on := 12, ground := Ground.data }, { on := 6, ground := Ground.chain }, { on := 0, ground := Ground.phase }, { on := 1, ground := Ground.phase }, { on := 2, ground := Ground.phase }, { on := 3, ground := Ground.phase }, { on := 4, ground := Ground.phase }, { on := 5, ground := Ground.phase }, { on := 6, ground := Ground.phase }, { on := 7, ground := Ground.phase }, { on := 8, ground := Ground.phase }, { on := 9, ground := Ground.phase }, { on := 10, ground := Ground.phase }, { on := 11, ground := Ground.phase }, { on := 12, ground := Ground.phase }], guard := none }) rfl (fun KK hK => ?_) AllReadyH.nil
                rw [if_pos (by rfl)]
                go_simp
                clear d1 d2
                have hst := (hown.stored x (.string (zeroN Z1 ++ ⟨#[7]⟩))).1
                rw [← List.map_set] at hst
                replace hcum := hcum.setCell (p := ⟨gO, x, none⟩) hgO (.string (zeroN Z1 ++ ⟨#[7]⟩))
                refine hK.out _ _ hcum (fun _ => ?_)
                clear hK hown
                generalize V3.setCell ⟨gO, x, none⟩ (.string (zeroN Z1 ++ ⟨#[7]⟩)) = V4 at *
                try simp only [Act.put, List.setIfInBounds_toArray, List.set_cons_zero, List.set_cons_succ]
                refine wpAnyH_done (by kernel_rfl) ?_ _
                go_wp2_with fail
                go_meet
                exact ⟨F.set x (zeroN Z1 ++ ⟨#[7]⟩), HF2L, HF2Z, by show RowIs _ _ (F.set x (zeroN Z1 ++ ⟨#[7]⟩)).length 1 _; rw [List.length_set, HFL.out]; exact RowIs.of_own hst, Lib.hid hcum⟩
              · rw [if_pos (by rfl)]
                go_simp
                have hbe := (Below.refl V0.heap.size V0).alloc (Nat.le_refl _) (.cells (cellsOf8 (List.replicate Z1 0)) 5)
                have hbm := bytesBlk_new V0 (ns := List.replicate Z1 0) rfl 5 (by intro y hy; rw [List.eq_of_mem_replicate hy]; decide)
                have hbml : V0.heap.size < (V0.alloc (.cells (cellsOf8 (List.replicate Z1 0)) 5)).heap.size := by simp
                have hcv := conv_bytes hbm
                replace hown := hown.alloc (.cells (cellsOf8 (List.replicate Z1 0)) 5)
                clear d1 d2
                have d1 : (V0.alloc (.cells (cellsOf8 (List.replicate Z1 0)) 5)).cell? ⟨gO, x, none⟩ = some uo := by rw [hown.cellAt x (by omega)]; exact HUO.out
                have d2 := hown.frozenAt x
                replace hcum := hcum.trans (hbe.mono hcum.size)
                refine hK.out _ _ hcum (fun _ => ?_)
                clear hK hbe
                generalize V0.alloc (.cells (cellsOf8 (List.replicate Z1 0)) 5) = V1 at *
                generalize V0.heap.size = bm at *
                try simp only [Act.put, List.setIfInBounds_toArray, List.set_cons_zero, List.set_cons_succ]
                refine wpAnyH_ready (rs := [6, 11]) (by kernel_rfl) (by simp) ?_
                refine AllReadyH.cons (o := { dst := some 69, op := Op.call { callee := Callee.value (Operand.func 25), args := #[Operand.tmp 66, Operand.tmp 68], argTypes := #[3, 3] }, type := 3, pos := "law.go:160", after := #[{ on := 3, ground := Ground.data }, { on := 5, ground := Ground.data }], guard := none }) rfl (fun KK hK => ?_) (AllReadyH.cons (o := { dst := some 74, op := Op.convert 31 9 (Operand.tmp 73), type := 9, pos := "law.go:160", after := #[{ on := 10, ground := Ground.data }], guard := none }) rfl (fun KK hK => ?_) AllReadyH.nil)
                · rw [if_pos (by rfl)]
                  go_simp
                  refine (within_any (L.length : Int) (K : Int) V1 (by omega) (by omega)).mono ?_
                  rintro e V2 ⟨rfl, hVV⟩
                  have hbe : Below V1.heap.size V1 V2 := hVV ▸ Below.refl _ _
                  clear hVV
                  rw [HX.out]
                  replace hown := own_below hown hbe
                  clear d1 d2
                  have d1 : V2.cell? ⟨gO, x, none⟩ = some uo := by rw [hown.cellAt x (by omega)]; exact HUO.out
                  have d2 := hown.frozenAt x
                  try (replace hbm := blk_below hbm hbml hbe)
                  try (replace hbml := Nat.lt_of_lt_of_le hbml hbe.size)
                  try (replace hcv := conv_bytes hbm)
                  have hcum := hcum.trans (hbe.mono hcum.size)
                  refine hK.out _ _ hcum (fun _ => ?_)
                  clear hK hbe
                  try simp only [Act.put, List.setIfInBounds_toArray, List.set_cons_zero, List.set_cons_succ]
                  refine wpAnyH_ready (rs := [11]) (by kernel_rfl) (by simp) ?_
                  refine AllReadyH.cons (o := { dst := some 74, op := Op.convert 31 9 (Operand.tmp 73), type := 9, pos := "law.go:160", after := #[{ on := 10, ground := Ground.data }], guard := none }) rfl (fun KK hK => ?_) AllReadyH.nil
                  rw [if_pos (by rfl)]
                  go_simp
                  refine hK.out _ _ hcum (fun _ => ?_)
                  clear hK
                  obtain ⟨V3, rfl⟩ : ∃ V, V = V2 := ⟨_, rfl⟩
                  try simp only [Act.put, List.setIfInBounds_toArray, List.set_cons_zero, List.set_cons_succ]
                  refine wpAnyH_take (i := 12) (oi := { dst := some 75, op := Op.binOp BinOp.add 9 (Operand.tmp 74) (Operand.const (Value.string { data := #[7] })) 9, type := 9, pos := "law.go:160", after := #[{ on := 11, ground := Ground.data }], guard := none }) (v := ?_) rfl (by kernel_rfl) (by kernel_rfl) (by kernel_rfl) (fun _ _ _ h => h) (Or.inl ⟨by rfl, fun W' hW' => ?_⟩) hcum ?_
                  rotate_left 1
                  · go_simp
                    try rw [if_neg hlim]
                    try rfl
                  try simp only [Act.put, List.setIfInBounds_toArray, List.set_cons_zero, List.set_cons_succ]
                  refine wpAnyH_take (i := 13) (oi := { dst := some 76, op := Op.indexAddr 23 (Operand.tmp 63) (Operand.tmp 69), type := 0, pos := "law.go:160", after := #[{ on := 0, ground := Ground.data }, { on := 6, ground := Ground.data }, { on := 0, ground := Ground.phase }, { on := 1, ground := Ground.phase }, { on := 2, ground := Ground.phase }, { on := 3, ground := Ground.phase }, { on := 4, ground := Ground.phase }, { on := 5, ground := Ground.phase }, { on := 6, ground := Ground.phase }, { on := 7, ground := Ground.phase }, { on := 8, ground := Ground.phase }, { on := 9, ground := Ground.phase }, { on := 10, ground := Ground.phase }, { on := 11, ground := Ground.phase }, { on := 12, ground := Ground.phase }], guard := none }) (v := ?_) rfl (by kernel_rfl) (by kernel_rfl) (by kernel_rfl) (fun _ _ _ h => h) (Or.inl ⟨by rfl, fun W' hW' => ?_⟩) hcum ?_
                  rotate_left 1
                  · go_simp
                    try rw [if_neg hlim]
                    try rfl
                  try simp only [Act.put, List.setIfInBounds_toArray, List.set_cons_zero, List.set_cons_succ]
                  refine wpAnyH_ready (rs := [14]) (by kernel_rfl) (by simp) ?_
                  refine AllReadyH.cons (o := { dst := none, op := Op.store 9 (Operand.tmp 76) (Operand.tmp 75), type := 0, pos := "law.go:160", after := #[{ on := 13, ground := Ground.data }, { on := 12, ground := Ground.data }, { on := 6, ground := Ground.chain }, { on := 0, ground := Ground.phase }, { on := 1, ground := Ground.phase }, { on := 2, ground := Ground.phase }, { on := 3, ground := Ground.phase }, { on := 4, ground := Ground.phase }, { on := 5, ground := Ground.phase }, { on := 6, ground := Ground.phase }, { on := 7, ground := Ground.phase }, { on := 8, ground := Ground.phase }, { on := 9, ground := Ground.phase }, { on := 10, ground := Ground.phase }, { on := 11, ground := Ground.phase }, { on := 12, ground := Ground.phase }], guard := none }) rfl (fun KK hK => ?_) AllReadyH.nil
                  rw [if_pos (by rfl)]
                  go_simp
                  clear d1 d2
                  have hst := (hown.stored x (.string (zeroN Z1 ++ ⟨#[7]⟩))).1
                  rw [← List.map_set] at hst
                  replace hcum := hcum.setCell (p := ⟨gO, x, none⟩) hgO (.string (zeroN Z1 ++ ⟨#[7]⟩))
                  refine hK.out _ _ hcum (fun _ => ?_)
                  clear hK hown
                  generalize V3.setCell ⟨gO, x, none⟩ (.string (zeroN Z1 ++ ⟨#[7]⟩)) = V4 at *
                  try simp only [Act.put, List.setIfInBounds_toArray, List.set_cons_zero, List.set_cons_succ]
                  refine wpAnyH_done (by kernel_rfl) ?_ _
                  go_wp2_with fail
                  go_meet
                  exact ⟨F.set x (zeroN Z1 ++ ⟨#[7]⟩), HF2L, HF2Z, by show RowIs _ _ (F.set x (zeroN Z1 ++ ⟨#[7]⟩)).length 1 _; rw [List.length_set, HFL.out]; exact RowIs.of_own hst, Lib.hid hcum⟩
                · rw [if_pos (by rfl)]
                  go_simp
                  refine hK.out _ _ hcum (fun _ => ?_)
                  clear hK
                  obtain ⟨V2, rfl⟩ : ∃ V, V = V1 := ⟨_, rfl⟩
                  try simp only [Act.put, List.setIfInBounds_toArray, List.set_cons_zero, List.set_cons_succ]
                  refine wpAnyH_take (i := 12) (oi := { dst := some 75, op := Op.binOp BinOp.add 9 (Operand.tmp 74) (Operand.const (Value.string { data := #[7] })) 9, type := 9, pos := "law.go:160", after := #[{ on := 11, ground := Ground.data }], guard := none }) (v := ?_) rfl (by kernel_rfl) (by kernel_rfl) (by kernel_rfl) (fun _ _ _ h => h) (Or.inl ⟨by rfl, fun W' hW' => ?_⟩) hcum ?_
                  rotate_left 1
                  · go_simp
                    try rw [if_neg hlim]
                    try rfl
                  try simp only [Act.put, List.setIfInBounds_toArray, List.set_cons_zero, List.set_cons_succ]
                  refine wpAnyH_ready (rs := [6]) (by kernel_rfl) (by simp) ?_
                  refine AllReadyH.cons (o := { dst := some 69, op := Op.call { callee := Callee.value (Operand.func 25), args := #[Operand.tmp 66, Operand.tmp 68], argTypes := #[3, 3] }, type := 3, pos := "law.go:160", after := #[{ on := 3, ground := Ground.data }, { on := 5, ground := Ground.data }], guard := none }) rfl (fun KK hK => ?_) AllReadyH.nil
                  rw [if_pos (by rfl)]
                  go_simp
                  refine (within_any (L.length : Int) (K : Int) V2 (by omega) (by omega)).mono ?_
                  rintro e V3 ⟨rfl, hVV⟩
                  have hbe : Below V2.heap.size V2 V3 := hVV ▸ Below.refl _ _
                  clear hVV
                  rw [HX.out]
                  replace hown := own_below hown hbe
                  clear d1 d2
                  have d1 : V3.cell? ⟨gO, x, none⟩ = some uo := by rw [hown.cellAt x (by omega)]; exact HUO.out
                  have d2 := hown.frozenAt x
                  try (replace hbm := blk_below hbm hbml hbe)
                  try (replace hbml := Nat.lt_of_lt_of_le hbml hbe.size)
                  try (replace hcv := conv_bytes hbm)
                  have hcum := hcum.trans (hbe.mono hcum.size)
                  refine hK.out _ _ hcum (fun _ => ?_)
                  clear hK hbe
                  try simp only [Act.put, List.setIfInBounds_toArray, List.set_cons_zero, List.set_cons_succ]
                  refine wpAnyH_take (i := 13) (oi := { dst := some 76, op := Op.indexAddr 23 (Operand.tmp 63) (Operand.tmp 69), type := 0, pos := "law.go:160", after := #[{ on := 0, ground := Ground.data }, { on := 6, ground := Ground.data }, { on := 0, ground := Ground.phase }, { on := 1, ground := Ground.phase }, { on := 2, ground := Ground.phase }, { on := 3, ground := Ground.phase }, { on := 4, ground := Ground.phase }, { on := 5, ground := Ground.phase }, { on := 6, ground := Ground.phase }, { on := 7, ground := Ground.phase }, { on := 8, ground := Ground.phase }, { on := 9, ground := Ground.phase }, { on := 10, ground := Ground.phase }, { on := 11, ground := Ground.phase }, { on := 12, ground := Ground.phase }], guard := none }) (v := ?_) rfl (by kernel_rfl) (by kernel_rfl) (by kernel_rfl) (fun _ _ _ h => h) (Or.inl ⟨by rfl, fun W' hW' => ?_⟩) hcum ?_
                  rotate_left 1
                  · go_simp
                    try rw [if_neg hlim]
                    try rfl
                  try simp only [Act.put, List.setIfInBounds_toArray, List.set_cons_zero, List.set_cons_succ]
                  refine wpAnyH_ready (rs := [14]) (by kernel_rfl) (by simp) ?_
                  refine AllReadyH.cons (o := { dst := none, op := Op.store 9 (Operand.tmp 76) (Operand.tmp 75), type := 0, pos := "law.go:160", after := #[{ on := 13, ground := Ground.data }, { on := 12, ground := Ground.data }, { on := 6, ground := Ground.chain }, { on := 0, ground := Ground.phase }, { on := 1, ground := Ground.phase }, { on := 2, ground := Ground.phase }, { on := 3, ground := Ground.phase }, { on := 4, ground := Ground.phase }, { on := 5, ground := Ground.phase }, { on := 6, ground := Ground.phase }, { on := 7, ground := Ground.phase }, { on := 8, ground := Ground.phase }, { on := 9, ground := Ground.phase }, { on := 10, ground := Ground.phase }, { on := 11, ground := Ground.phase }, { on := 12, ground := Ground.phase }], guard := none }) rfl (fun KK hK => ?_) AllReadyH.nil
                  rw [if_pos (by rfl)]
                  go_simp
                  clear d1 d2
                  have hst := (hown.stored x (.string (zeroN Z1 ++ ⟨#[7]⟩))).1
                  rw [← List.map_set] at hst
                  replace hcum := hcum.setCell (p := ⟨gO, x, none⟩) hgO (.string (zeroN Z1 ++ ⟨#[7]⟩))
                  refine hK.out _ _ hcum (fun _ => ?_)
                  clear hK hown
                  generalize V3.setCell ⟨gO, x, none⟩ (.string (zeroN Z1 ++ ⟨#[7]⟩)) = V4 at *
                  try simp only [Act.put, List.setIfInBounds_toArray, List.set_cons_zero, List.set_cons_succ]
                  refine wpAnyH_done (by kernel_rfl) ?_ _
                  go_wp2_with fail
                  go_meet
                  exact ⟨F.set x (zeroN Z1 ++ ⟨#[7]⟩), HF2L, HF2Z, by show RowIs _ _ (F.set x (zeroN Z1 ++ ⟨#[7]⟩)).length 1 _; rw [List.length_set, HFL.out]; exact RowIs.of_own hst, Lib.hid hcum⟩
          case rest =>
            obtain ⟨wr2, rfl⟩ : ∃ wr2 : World, wr2 = wc := ⟨_, rfl⟩
            obtain ⟨F2, HF2L', HF2Z', HSF2r, HBr2⟩ := hcut
            clear HF2L HF2Z hmk hcat hz7 hzz hlim
            have HF2L := HF2L'
            have HF2Z := HF2Z'
            have T4r := Lib.hid (T4c.out.below HBr2.out)
            have HSFr := Lib.hid (HSF8.out.below HBr2.out)
            have HSXr := Lib.hid (HSX8.out.below HBr2.out)
            have HBr := Lib.hid (HB8.out.trans (HBr2.out.mono HB8.out.size))
            obtain ⟨x0, x1, x2, _, _, _⟩ := T4r.out
            have HFB2 : Hid ((mayB ((K : Int), (M : Int), (Z : Int)) && fitB F2 (K : Int) (Z : Int)) = true) := by
              rw [Hid, HMZ.out, Bool.true_and]
              exact fitB_of (by rw [HF2L.out]) (fun s hs => by rw [HF2Z.out s hs])
            go_wp2_with fail
            refine (encode_all (K : Int) (M : Int) (Z : Int) (.slice (some ⟨gO, 0, none⟩) K cO) F2 true HFB2.out wr2 HSF2r.out (by rw [HF2L.out]; omega)).mono ?_
            rintro e wy ⟨ry, rfl, hoy, hby⟩
            obtain ⟨Y, hY⟩ : ∃ Y, Y = encL (K : Int) (M : Int) (Z : Int) F2 := ⟨_, rfl⟩
            have hYl : Y.length = n := by rw [hY, encL_len, HNN.out]; omega
            have hoy' : wy.ownsRow wr2.heap.size 9 1 ry n (Y.map Value.string) := by
              have h : wy.ownsRow wr2.heap.size 9 1 ry (encL (K : Int) (M : Int) (Z : Int) F2).length ((encL (K : Int) (M : Int) (Z : Int) F2).map Value.string) := hoy
              rw [← hY, hYl] at h
              exact h
            obtain ⟨gY, cY, rfl, hgY1, hgY2, _, _⟩ := own_room hoy' hn1
            have he : mulE true = 0 := rfl
            rw [he]
            have HYE := Lib.hid hY
            have HYL := Lib.hid hYl
            have HSY : Hid (Strs6 wy (.slice (some ⟨gY, 0, none⟩) n cY) Y) := by show RowIs _ _ Y.length 1 _; rw [HYL.out]; exact RowIs.of_own hoy'
            have T4y := Lib.hid (T4r.out.below hby)
            have HSF := Lib.hid (HSFr.out.below hby)
            have HSF2 := Lib.hid (HSF2r.out.below hby)
            have HSX := Lib.hid (HSXr.out.below hby)
            have HBy := Lib.hid (HBr.out.trans (hby.mono HBr.out.size))
            have hnn : ((n : Int) == (n : Int)) = true := by simp
            clear hoy hoy' hY hYl hby he x0 x1 x2
            go_upto_region 17 with (first | (go_at_call 15; refine (num4_any _ _).mono ?_; rintro e wn ⟨rfl, rfl⟩))
            go_cut [115] from 103 to 115 (fun cv wx => cv = .bool false ∧ Hid (Below wy.heap.size wy wx))
            case first =>
              as_aux_lemma =>
                by_cases hFF : F = F2
                · have HDF : Hid (decide (F = F2) = true) := decide_eq_true hFF
                  clear hFF
                  refine wp_region_held (S := fun W' => Below wy.heap.size wy W') (by kernel_rfl) ?_
                  change wpAnyH _ _ _ _ _ 13 _ _ wy.drew
                  have hcum := (Below.refl wy.heap.size wy).drew
                  generalize wy.drew = V0 at *
                  refine wpAnyH_take (i := 0) (oi := { dst := some 103, op := Op.move (Operand.tmp 6), type := 23, pos := "law.go:165", after := #[], guard := none }) (v := ?_) rfl (by kernel_rfl) (by kernel_rfl) (by kernel_rfl) (fun _ _ _ h => h) (Or.inl ⟨by rfl, fun W' hW' => ?_⟩) hcum ?_
                  rotate_left 1
                  · go_simp
                    try rfl
                  try simp only [Act.put, List.setIfInBounds_toArray, List.set_cons_zero, List.set_cons_succ]
                  refine wpAnyH_take (i := 1) (oi := { dst := some 104, op := Op.move (Operand.tmp 9), type := 23, pos := "law.go:165", after := #[], guard := none }) (v := ?_) rfl (by kernel_rfl) (by kernel_rfl) (by kernel_rfl) (fun _ _ _ h => h) (Or.inl ⟨by rfl, fun W' hW' => ?_⟩) hcum ?_
                  rotate_left 1
                  · go_simp
                    try rfl
                  try simp only [Act.put, List.setIfInBounds_toArray, List.set_cons_zero, List.set_cons_succ]
                  refine wpAnyH_ready (rs := [2]) (by kernel_rfl) (by simp) ?_
                  refine AllReadyH.cons (o := { dst := some 105, op := Op.call { callee := Callee.value (Operand.func 22), args := #[Operand.tmp 103, Operand.tmp 104], argTypes := #[23, 23] }, type := 4, pos := "law.go:165", after := #[{ on := 0, ground := Ground.data }, { on := 1, ground := Ground.data }], guard := none }) rfl (fun KK hK => ?_) AllReadyH.nil
                  rw [if_pos (by rfl)]
                  go_simp
                  refine (eqStrs6_dec (.slice (some ⟨gD, 0, none⟩) K cD) (.slice (some ⟨gO, 0, none⟩) K cO) F F2 V0 (HSF.out.below hcum) (HSF2.out.below hcum) (by rw [HFL.out]; omega) (by rw [HF2L.out]; omega)).mono ?_
                  rintro e V1 ⟨rfl, hbe⟩
                  rw [HDF.out]
                  have hcum := hcum.trans (hbe.mono hcum.size)
                  refine hK.out _ _ hcum (fun _ => ?_)
                  clear hK hbe
                  try simp only [Act.put, List.setIfInBounds_toArray, List.set_cons_zero, List.set_cons_succ]
                  refine wpAnyH_take (i := 3) (oi := { dst := some 106, op := Op.unOp UnOp.not 4 (Operand.tmp 105), type := 4, pos := "law.go:165", after := #[{ on := 2, ground := Ground.data }], guard := none }) (v := ?_) rfl (by kernel_rfl) (by kernel_rfl) (by kernel_rfl) (fun _ _ _ h => h) (Or.inl ⟨by rfl, fun W' hW' => ?_⟩) hcum ?_
                  rotate_left 1
                  · go_simp
                    try rfl
                  try simp only [Act.put, List.setIfInBounds_toArray, List.set_cons_zero, List.set_cons_succ]
                  refine wpAnyH_take (i := 4) (oi := { dst := some 107, op := Op.move (Operand.tmp 106), type := 4, pos := "law.go:165", after := #[{ on := 3, ground := Ground.data }, { on := 2, ground := Ground.chain }], guard := none }) (v := ?_) rfl (by kernel_rfl) (by kernel_rfl) (by kernel_rfl) (fun _ _ _ h => h) (Or.inl ⟨by rfl, fun W' hW' => ?_⟩) hcum ?_
                  rotate_left 1
                  · go_simp
                    try rfl
                  try simp only [Act.put, List.setIfInBounds_toArray, List.set_cons_zero, List.set_cons_succ]
                  refine wpAnyH_take (i := 5) (oi := { dst := some 108, op := Op.move (Operand.tmp 7), type := 23, pos := "law.go:165", after := #[{ on := 4, ground := Ground.guard }], guard := some (4, true) }) (v := undef) rfl (by kernel_rfl) (by kernel_rfl) (by kernel_rfl) (fun _ _ _ h => h) (Or.inr ⟨by rfl, rfl⟩) hcum ?_
                  try simp only [Act.put, List.setIfInBounds_toArray, List.set_cons_zero, List.set_cons_succ]
                  refine wpAnyH_take (i := 6) (oi := { dst := some 109, op := Op.move (Operand.tmp 10), type := 23, pos := "law.go:165", after := #[{ on := 4, ground := Ground.guard }], guard := some (4, true) }) (v := undef) rfl (by kernel_rfl) (by kernel_rfl) (by kernel_rfl) (fun _ _ _ h => h) (Or.inr ⟨by rfl, rfl⟩) hcum ?_
                  try simp only [Act.put, List.setIfInBounds_toArray, List.set_cons_zero, List.set_cons_succ]
                  refine wpAnyH_take (i := 7) (oi := { dst := some 110, op := Op.call { callee := Callee.value (Operand.func 26), args := #[Operand.tmp 108, Operand.tmp 109], argTypes := #[23, 23] }, type := 52, pos := "law.go:165", after := #[{ on := 5, ground := Ground.data }, { on := 6, ground := Ground.data }, { on := 4, ground := Ground.chain }, { on := 4, ground := Ground.guard }], guard := some (4, true) }) (v := undef) rfl (by kernel_rfl) (by kernel_rfl) (by kernel_rfl) (fun _ _ _ h => h) (Or.inr ⟨by rfl, rfl⟩) hcum ?_
                  try simp only [Act.put, List.setIfInBounds_toArray, List.set_cons_zero, List.set_cons_succ]
                  refine wpAnyH_take (i := 8) (oi := { dst := some 111, op := Op.call { callee := Callee.builtin Builtin.len, args := #[Operand.tmp 110], argTypes := #[52] }, type := 3, pos := "law.go:165", after := #[{ on := 7, ground := Ground.data }, { on := 4, ground := Ground.guard }], guard := some (4, true) }) (v := undef) rfl (by kernel_rfl) (by kernel_rfl) (by kernel_rfl) (fun _ _ _ h => h) (Or.inr ⟨by rfl, rfl⟩) hcum ?_
                  try simp only [Act.put, List.setIfInBounds_toArray, List.set_cons_zero, List.set_cons_succ]
                  refine wpAnyH_take (i := 9) (oi := { dst := some 112, op := Op.fieldAddr 29 (Operand.tmp 4) 1, type := 0, pos := "law.go:165", after := #[{ on := 4, ground := Ground.guard }], guard := some (4, true) }) (v := undef) rfl (by kernel_rfl) (by kernel_rfl) (by kernel_rfl) (fun _ _ _ h => h) (Or.inr ⟨by rfl, rfl⟩) hcum ?_
                  try simp only [Act.put, List.setIfInBounds_toArray, List.set_cons_zero, List.set_cons_succ]
                  refine wpAnyH_take (i := 10) (oi := { dst := some 113, op := Op.load 3 (Operand.tmp 112), type := 3, pos := "law.go:165", after := #[{ on := 9, ground := Ground.data }, { on := 4, ground := Ground.guard }], guard := some (4, true) }) (v := undef) rfl (by kernel_rfl) (by kernel_rfl) (by kernel_rfl) (fun _ _ _ h => h) (Or.inr ⟨by rfl, rfl⟩) hcum ?_
                  try simp only [Act.put, List.setIfInBounds_toArray, List.set_cons_zero, List.set_cons_succ]
                  refine wpAnyH_take (i := 11) (oi := { dst := some 114, op := Op.binOp BinOp.leq 3 (Operand.tmp 111) (Operand.tmp 113) 3, type := 4, pos := "law.go:165", after := #[{ on := 8, ground := Ground.data }, { on := 10, ground := Ground.data }, { on := 4, ground := Ground.guard }], guard := some (4, true) }) (v := undef) rfl (by kernel_rfl) (by kernel_rfl) (by kernel_rfl) (fun _ _ _ h => h) (Or.inr ⟨by rfl, rfl⟩) hcum ?_
                  try simp only [Act.put, List.setIfInBounds_toArray, List.set_cons_zero, List.set_cons_succ]
                  refine wpAnyH_take (i := 12) (oi := { dst := some 115, op := Op.pick (Operand.tmp 107) (Operand.tmp 114) (Operand.const (Value.bool false)), type := 4, pos := "law.go:165", after := #[{ on := 4, ground := Ground.data }, { on := 11, ground := Ground.data }], guard := none }) (v := ?_) rfl (by kernel_rfl) (by kernel_rfl) (by kernel_rfl) (fun _ _ _ h => h) (Or.inl ⟨by rfl, fun W' hW' => ?_⟩) hcum ?_
                  rotate_left 1
                  · go_simp
                    try rfl
                  try simp only [Act.put, List.setIfInBounds_toArray, List.set_cons_zero, List.set_cons_succ]
                  refine wpAnyH_done (by kernel_rfl) ?_ _
                  go_wp2_with fail
                  go_meet
                  exact ⟨rfl, Lib.hid hcum⟩
                · have HDF : Hid (decide (F = F2) = false) := decide_eq_false hFF
                  have hum := unlike_many (n := n) (K := K) (M := M) (Z := Z) HNN.out (by omega) HFL.out HF2L.out HFZ.out HF2Z.out hFF
                  have e1 : applyL (genL n K) F n K Z = X := by rw [HXE.out, encL_nat, Int.toNat_natCast, HNN.out]
                  have e2 : applyL (genL n K) F2 n K Z = Y := by rw [HYE.out, encL_nat, Int.toNat_natCast, HNN.out]
                  rw [e1, e2] at hum
                  have hud : decide (((unlN X Y n).length : Int) ≤ (M : Int)) = false := by simp; omega
                  have hud2 : ¬ (unlN X Y n).length ≤ M := by omega
                  clear hFF e1 e2 hum
                  refine wp_region_held (S := fun W' => Below wy.heap.size wy W') (by kernel_rfl) ?_
                  change wpAnyH _ _ _ _ _ 13 _ _ wy.drew
                  have hcum := (Below.refl wy.heap.size wy).drew
                  generalize wy.drew = V0 at *
                  refine wpAnyH_take (i := 0) (oi := { dst := some 103, op := Op.move (Operand.tmp 6), type := 23, pos := "law.go:165", after := #[], guard := none }) (v := ?_) rfl (by kernel_rfl) (by kernel_rfl) (by kernel_rfl) (fun _ _ _ h => h) (Or.inl ⟨by rfl, fun W' hW' => ?_⟩) hcum ?_
                  rotate_left 1
                  · go_simp
                    try rfl
                  try simp only [Act.put, List.setIfInBounds_toArray, List.set_cons_zero, List.set_cons_succ]
                  refine wpAnyH_take (i := 1) (oi := { dst := some 104, op := Op.move (Operand.tmp 9), type := 23, pos := "law.go:165", after := #[], guard := none }) (v := ?_) rfl (by kernel_rfl) (by kernel_rfl) (by kernel_rfl) (fun _ _ _ h => h) (Or.inl ⟨by rfl, fun W' hW' => ?_⟩) hcum ?_
                  rotate_left 1
                  · go_simp
                    try rfl
                  try simp only [Act.put, List.setIfInBounds_toArray, List.set_cons_zero, List.set_cons_succ]
                  refine wpAnyH_ready (rs := [2]) (by kernel_rfl) (by simp) ?_
                  refine AllReadyH.cons (o := { dst := some 105, op := Op.call { callee := Callee.value (Operand.func 22), args := #[Operand.tmp 103, Operand.tmp 104], argTypes := #[23, 23] }, type := 4, pos := "law.go:165", after := #[{ on := 0, ground := Ground.data }, { on := 1, ground := Ground.data }], guard := none }) rfl (fun KK hK => ?_) AllReadyH.nil
                  rw [if_pos (by rfl)]
                  go_simp
                  refine (eqStrs6_dec (.slice (some ⟨gD, 0, none⟩) K cD) (.slice (some ⟨gO, 0, none⟩) K cO) F F2 V0 (HSF.out.below hcum) (HSF2.out.below hcum) (by rw [HFL.out]; omega) (by rw [HF2L.out]; omega)).mono ?_
                  rintro e V1 ⟨rfl, hbe⟩
                  rw [HDF.out]
                  have hcum := hcum.trans (hbe.mono hcum.size)
                  refine hK.out _ _ hcum (fun _ => ?_)
                  clear hK hbe
                  try simp only [Act.put, List.setIfInBounds_toArray, List.set_cons_zero, List.set_cons_succ]
                  refine wpAnyH_take (i := 3) (oi := { dst := some 106, op := Op.unOp UnOp.not 4 (Operand.tmp 105), type := 4, pos := "law.go:165", after := #[{ on := 2, ground := Ground.data }], guard := none }) (v := ?_) rfl (by kernel_rfl) (by kernel_rfl) (by kernel_rfl) (fun _ _ _ h => h) (Or.inl ⟨by rfl, fun W' hW' => ?_⟩) hcum ?_
                  rotate_left 1
                  · go_simp
                    try rfl
                  try simp only [Act.put, List.setIfInBounds_toArray, List.set_cons_zero, List.set_cons_succ]
                  refine wpAnyH_take (i := 4) (oi := { dst := some 107, op := Op.move (Operand.tmp 106), type := 4, pos := "law.go:165", after := #[{ on := 3, ground := Ground.data }, { on := 2, ground := Ground.chain }], guard := none }) (v := ?_) rfl (by kernel_rfl) (by kernel_rfl) (by kernel_rfl) (fun _ _ _ h => h) (Or.inl ⟨by rfl, fun W' hW' => ?_⟩) hcum ?_
                  rotate_left 1
                  · go_simp
                    try rfl
                  try simp only [Act.put, List.setIfInBounds_toArray, List.set_cons_zero, List.set_cons_succ]
                  refine wpAnyH_take (i := 5) (oi := { dst := some 108, op := Op.move (Operand.tmp 7), type := 23, pos := "law.go:165", after := #[{ on := 4, ground := Ground.guard }], guard := some (4, true) }) (v := ?_) rfl (by kernel_rfl) (by kernel_rfl) (by kernel_rfl) (fun _ _ _ h => h) (Or.inl ⟨by rfl, fun W' hW' => ?_⟩) hcum ?_
                  rotate_left 1
                  · go_simp
                    try rfl
                  try simp only [Act.put, List.setIfInBounds_toArray, List.set_cons_zero, List.set_cons_succ]
                  refine wpAnyH_take (i := 6) (oi := { dst := some 109, op := Op.move (Operand.tmp 10), type := 23, pos := "law.go:165", after := #[{ on := 4, ground := Ground.guard }], guard := some (4, true) }) (v := ?_) rfl (by kernel_rfl) (by kernel_rfl) (by kernel_rfl) (fun _ _ _ h => h) (Or.inl ⟨by rfl, fun W' hW' => ?_⟩) hcum ?_
                  rotate_left 1
                  · go_simp
                    try rfl
                  try simp only [Act.put, List.setIfInBounds_toArray, List.set_cons_zero, List.set_cons_succ]
                  refine wpAnyH_take (i := 9) (oi := { dst := some 112, op := Op.fieldAddr 29 (Operand.tmp 4) 1, type := 0, pos := "law.go:165", after := #[{ on := 4, ground := Ground.guard }], guard := some (4, true) }) (v := ?_) rfl (by kernel_rfl) (by kernel_rfl) (by kernel_rfl) (fun _ _ _ h => h) (Or.inl ⟨by rfl, fun W' hW' => ?_⟩) hcum ?_
                  rotate_left 1
                  · go_simp
                    try rfl
                  try simp only [Act.put, List.setIfInBounds_toArray, List.set_cons_zero, List.set_cons_succ]
                  refine wpAnyH_take (i := 10) (oi := { dst := some 113, op := Op.load 3 (Operand.tmp 112), type := 3, pos := "law.go:165", after := #[{ on := 9, ground := Ground.data }, { on := 4, ground := Ground.guard }], guard := some (4, true) }) (v := ?_) rfl (by kernel_rfl) (by kernel_rfl) (by kernel_rfl) (fun _ _ _ h => h) (Or.inl ⟨by rfl, fun W' hW' => ?_⟩) hcum ?_
                  rotate_left 1
                  · (obtain ⟨x0, x1, x2, _, _, _⟩ := T4y.out.below hW'; go_simp)
                    try rfl
                  try simp only [Act.put, List.setIfInBounds_toArray, List.set_cons_zero, List.set_cons_succ]
                  refine wpAnyH_ready (rs := [7]) (by kernel_rfl) (by simp) ?_
                  refine AllReadyH.cons (o := { dst := some 110, op := Op.call { callee := Callee.value (Operand.func 26), args := #[Operand.tmp 108, Operand.tmp 109], argTypes := #[23, 23] }, type := 52, pos := "law.go:165", after := #[{ on := 5, ground := Ground.data }, { on := 6, ground := Ground.data }, { on := 4, ground := Ground.chain }, { on := 4, ground := Ground.guard }], guard := some (4, true) }) rfl (fun KK hK => ?_) AllReadyH.nil
                  rw [if_pos (by rfl)]
                  go_simp
                  refine (refUnlike_any (.slice (some ⟨gX, 0, none⟩) n cX) (.slice (some ⟨gY, 0, none⟩) n cY) X Y n V1 (HSX.out.below hcum) (HSY.out.below hcum) HXL.out HYL.out (by omega)).mono ?_
                  rintro e V2 ⟨ru, rfl, hou, hbe⟩
                  obtain ⟨Au, cu, rfl⟩ := own_shape hou
                  clear hou
                  have hcum := hcum.trans (hbe.mono hcum.size)
                  refine hK.out _ _ hcum (fun _ => ?_)
                  clear hK hbe
                  try simp only [Act.put, List.setIfInBounds_toArray, List.set_cons_zero, List.set_cons_succ]
                  refine wpAnyH_take (i := 8) (oi := { dst := some 111, op := Op.call { callee := Callee.builtin Builtin.len, args := #[Operand.tmp 110], argTypes := #[52] }, type := 3, pos := "law.go:165", after := #[{ on := 7, ground := Ground.data }, { on := 4, ground := Ground.guard }], guard := some (4, true) }) (v := ?_) rfl (by kernel_rfl) (by kernel_rfl) (by kernel_rfl) (fun _ _ _ h => h) (Or.inl ⟨by rfl, fun W' hW' => ?_⟩) hcum ?_
                  rotate_left 1
                  · go_simp
                    try rfl
                  try simp only [Act.put, List.setIfInBounds_toArray, List.set_cons_zero, List.set_cons_succ]
                  refine wpAnyH_take (i := 11) (oi := { dst := some 114, op := Op.binOp BinOp.leq 3 (Operand.tmp 111) (Operand.tmp 113) 3, type := 4, pos := "law.go:165", after := #[{ on := 8, ground := Ground.data }, { on := 10, ground := Ground.data }, { on := 4, ground := Ground.guard }], guard := some (4, true) }) (v := ?_) rfl (by kernel_rfl) (by kernel_rfl) (by kernel_rfl) (fun _ _ _ h => h) (Or.inl ⟨by rfl, fun W' hW' => ?_⟩) hcum ?_
                  rotate_left 1
                  · go_simp
                    try rfl
                  try simp only [Act.put, List.setIfInBounds_toArray, List.set_cons_zero, List.set_cons_succ]
                  refine wpAnyH_take (i := 12) (oi := { dst := some 115, op := Op.pick (Operand.tmp 107) (Operand.tmp 114) (Operand.const (Value.bool false)), type := 4, pos := "law.go:165", after := #[{ on := 4, ground := Ground.data }, { on := 11, ground := Ground.data }], guard := none }) (v := ?_) rfl (by kernel_rfl) (by kernel_rfl) (by kernel_rfl) (fun _ _ _ h => h) (Or.inl ⟨by rfl, fun W' hW' => ?_⟩) hcum ?_
                  rotate_left 1
                  · go_simp
                    try rfl
                  try simp only [Act.put, List.setIfInBounds_toArray, List.set_cons_zero, List.set_cons_succ]
                  refine wpAnyH_done (by kernel_rfl) ?_ _
                  go_wp2_with fail
                  go_meet
                  exact ⟨rfl, Lib.hid hcum⟩
            case rest =>
              obtain ⟨wl, rfl⟩ : ∃ wl : World, wl = wc := ⟨_, rfl⟩
              obtain ⟨rfl, HBl0⟩ := hcut
              have T4l := Lib.hid (T4y.out.below HBl0.out)
              have HSXl := Lib.hid (HSX.out.below HBl0.out)
              have HBl := Lib.hid (HBy.out.trans (HBl0.out.mono HBy.out.size))
              obtain ⟨P2, hP2⟩ : ∃ P2 : Nat, P2 = 2 ^ n := ⟨_, rfl⟩
              have hP2b : P2 ≤ 16384 := by rw [hP2]; exact Nat.le_trans (Nat.pow_le_pow_right (by omega) hn14) (by decide)
              have wS : IntKind.i64.wrap (2 ^ n) = (P2 : Int) := by
                have h : ((2 : Int) ^ n) = (P2 : Int) := by rw [hP2]; simp
                rw [h]
                exact IntWalk.i64_in _ (by omega)
              have wS2 : IntKind.i64.wrap (1 * 2 ^ n) = (P2 : Int) := by rw [Int.one_mul]; exact wS
              have HP2 := Lib.hid hP2
              clear hP2
              have HXS : Hid (∀ s ∈ X, s.size = Z) := fun s hs => by
                rw [HXE.out] at hs
                have h := encL_size s hs
                rw [Int.toNat_natCast] at h
                exact h
              go_wp2_with fail
              go_loopw [12] (fun cc wr => ∃ c : Nat, cc = .int .i64 c ∧ c ≤ 4096 ∧ Hid (Below wl.heap.size wl wr)) (fun cc _ => 4096 - (intOf cc).toNat)
              case atStart => exact ⟨0, rfl, by omega, Lib.hid (Below.refl _ _)⟩
              case round =>
                obtain ⟨w5', rfl⟩ : ∃ w5' : World, w5' = wr := ⟨_, rfl⟩
                obtain ⟨c, rfl, hc4, HBc⟩ := hrel
                by_cases hc2 : c < P2
                · have hcd2 : decide ((c : Int) < (P2 : Int)) = true := by simp; omega
                  by_cases hc : c < 4096
                  · have hcd : decide ((c : Int) < 4096) = true := by simp; omega
                    have hmk := hmkT (n := n) (by omega)
                    obtain ⟨CT, hCT⟩ : ∃ C, C = Array.replicate n (Value.bool false) := ⟨_, rfl⟩
                    rw [← hCT] at hmk
                    have hT0 := World.ownsRow_lit (base := w5'.heap.size) (e := 4) (size := 1) w5' CT n (Nat.le_refl _) (by unfold maxLen; omega) (by rw [hCT]; simp)
                    have hT1 : CT.toList = (List.replicate n false).map Value.bool := by rw [hCT]; simp
                    rw [hT1] at hT0
                    have HT0 := Lib.hid hT0
                    have HBT := Lib.hid ((Below.refl w5'.heap.size w5').alloc (Nat.le_refl _) (.cells CT 4))
                    clear hT0 hT1 hCT
                    go_upto_block 4 with fail
                    clear hmk hcd hcd2
                    generalize w5'.alloc (.cells CT 4) = W6 at *
                    go_wp2_with fail
                    go_loopw [14, 15] (fun mm ii wr => ∃ (q : Nat) (T : List Bool), ii = .int .i64 q ∧ mm = .int .i64 ((cntT T q : Nat) : Int) ∧ q ≤ n ∧ Hid (T.length = n) ∧ Hid (wr.ownsRow w5'.heap.size 4 1 (.slice (some ⟨w5'.heap.size, 0, none⟩) n n) n (T.map Value.bool)) ∧ Hid (Below w5'.heap.size w5' wr)) (fun _ ii _ => n - (intOf ii).toNat)
                    case atStart => exact ⟨0, List.replicate n false, rfl, rfl, by omega, Lib.hid (by simp), HT0, HBT⟩
                    case round =>
                      clear HT0 HBT
                      obtain ⟨q, T, rfl, rfl, hqn, HTL, HO, HBq⟩ := hrel
                      by_cases hlt : q < n
                      · have hqd : decide ((q : Int) < (n : Int)) = true := by simp; omega
                        have q0 : (0 : Int) ≤ (q : Int) := by omega
                        have q1 : (q : Int) < (n : Int) := by omega
                        have hq1 : q < (T.map Value.bool).length := by rw [List.length_map, HTL.out]; exact hlt
                        obtain ⟨ub, hub⟩ : ∃ u, (T.map Value.bool)[q]? = some u := ⟨_, List.getElem?_eq_getElem hq1⟩
                        have d1 : wr.cell? ⟨w5'.heap.size, q, none⟩ = some ub := by rw [HO.out.cellAt q (by omega)]; exact hub
                        have d2 := HO.out.frozenAt q
                        have hcq := cntT_le T q
                        clear hq1 hub
                        go_upto_region 28 with fail
                        obtain ⟨xb, hxb⟩ : ∃ xb : Bool, xb = (bits .and .i64 ((c : Int) / 2 ^ q) 1 == 1) := ⟨_, rfl⟩
                        rw [← hxb]
                        clear hxb
                        have hst := (HO.out.stored q (.bool xb)).1
                        rw [← List.map_set] at hst
                        have HST := Lib.hid hst
                        have HBn := Lib.hid (HBq.out.setCell (p := ⟨w5'.heap.size, q, none⟩) (Nat.le_refl _) (.bool xb))
                        have HTn : Hid ((T.set q xb).length = n) := by rw [Hid, List.length_set]; exact HTL.out
                        have HCN := Lib.hid (cntT_next (T := T) (q := q) (by rw [HTL.out]; exact hlt) xb)
                        have d3 : (wr.setCell ⟨w5'.heap.size, q, none⟩ (.bool xb)).cell? ⟨w5'.heap.size, q, none⟩ = some (.bool xb) := by
                          rw [hst.cellAt q (by omega)]
                          simp [HTL.out, hlt]
                        clear hst d1 d2
                        generalize wr.setCell ⟨w5'.heap.size, q, none⟩ (.bool xb) = wv at *
                        cases xb
                        · go_wp2_with fail
                          go_roundw
                          case rel => exact ⟨q + 1, T.set q false, by go_num, by rw [HCN.out]; rfl, by omega, HTn, HST, HBn⟩
                          case measure => simp [intOf]; omega
                        · have wq1 : IntKind.i64.wrap (((cntT T q : Nat) : Int) + 1) = ((cntT T q : Nat) : Int) + 1 := IntWalk.i64_in _ (by omega)
                          go_wp2_with fail
                          go_roundw
                          case rel => exact ⟨q + 1, T.set q true, by go_num, by rw [HCN.out]; simp, by omega, HTn, HST, HBn⟩
                          case measure => simp [intOf]; omega
                      · have hqe : q = n := by omega
                        have hqd : decide ((q : Int) < (n : Int)) = false := by simp; omega
                        obtain ⟨wk, rfl⟩ : ∃ wk : World, wk = wr := ⟨_, rfl⟩
                        have hcq := cntT_le T q
                        obtain ⟨cn, hcn⟩ : ∃ cn, cn = cntT T q := ⟨_, rfl⟩
                        rw [← hcn] at hcq ⊢
                        have HCN : Hid (cntT T n = cn) := by rw [Hid, hcn, hqe]
                        have T4k := Lib.hid (T4l.out.below (HBc.out.trans (HBq.out.mono HBc.out.size)))
                        have HSXk := Lib.hid (HSXl.out.below (HBc.out.trans (HBq.out.mono HBc.out.size)))
                        have HBk := Lib.hid (HBc.out.trans (HBq.out.mono HBc.out.size))
                        have HTk : Hid (BoolsIn wk (.slice (some ⟨w5'.heap.size, 0, none⟩) n n) T) := by
                          have h := boolsIn_own (w := wk) (B := w5'.heap.size) (e := 4) (v := .slice (some ⟨w5'.heap.size, 0, none⟩) n n) (T := T) (by rw [HTL.out]; exact HO.out) (by rw [HTL.out]; omega)
                          exact h
                        obtain ⟨x0, x1, x2, _, _, _⟩ := T4k.out
                        clear hcn hqe HO HBq
                        go_upto_region 30 with fail
                        clear hqd hlt
                        by_cases hm : cn = K
                        · rw [hm]
                          have hrb := rebuilt (n := n) (K := K) (Z := Z) (bs := T) (by rw [HCN.out]; exact hm) hKn (by omega) HFL.out HFZ.out
                          have e1 : applyL (genL n K) F n K Z = X := by rw [HXE.out, encL_nat, Int.toNat_natCast, HNN.out]
                          rw [e1] at hrb
                          have HRB := Lib.hid hrb
                          have hsz : ∀ t, T.getD t false = true → (X.getD t ByteArray.empty).size = Z := fun t ht => by
                            have htn : t < X.length := by
                              rw [HXL.out, ← HTL.out]
                              by_cases hx : t < T.length
                              · exact hx
                              · simp [List.getD, hx] at ht
                            have : X.getD t ByteArray.empty = X[t]'htn := by rw [← List.getElem_eq_getD (h := htn)]
                            rw [this]
                            exact HXS.out _ (List.getElem_mem htn)
                          have HSZ2 := Lib.hid hsz
                          clear hm hrb e1 hsz
                          go_wp2_with fail
                          have HC := rebuild_any K M Z (.slice (some ⟨gX, 0, none⟩) n cX) (.slice (some ⟨w5'.heap.size, 0, none⟩) n n) X T wk k1 k8 m6 (by omega) (by omega) HSXk.out HTk.out (by rw [HXL.out, HNN.out]) (by rw [HTL.out, HNN.out]) HSZ2.out
                          rw [← HNN.out, HRB.out.1, HRB.out.2] at HC
                          with_reducible refine HC.mono ?_
                          rintro e wm ⟨rr, rfl, hor, hbm⟩
                          obtain ⟨Ar, cr, rfl⟩ := own_shape hor
                          have HSR : Hid (Strs6 wm (.slice Ar X.length cr) X) := RowIs.of_own hor
                          have HSXm := Lib.hid (HSXk.out.below hbm)
                          have HBm := Lib.hid (HBk.out.trans (hbm.mono HBk.out.size))
                          rw [← HXL.out] at HSXm
                          clear HC hor hbm x0 x1 x2
                          go_wp2_with (first | (go_at_call 15; refine (num4_any _ _).mono ?_; rintro e wn ⟨rfl, rfl⟩))
                          have HEQ := eqStrs6_yes (.slice Ar X.length cr) (.slice (some ⟨gX, 0, none⟩) X.length cX) X wm HSR.out HSXm.out (by rw [HXL.out]; omega)
                          rw [HXL.out] at HEQ
                          try rw [HXL.out]
                          with_reducible refine HEQ.mono ?_
                          rintro e wo ⟨rfl, hbo⟩
                          have HBn := Lib.hid (HBm.out.trans (hbo.mono HBm.out.size))
                          clear HEQ hbo
                          go_wp2_with fail
                          go_roundw
                          case rel => exact ⟨c + 1, by go_num, by omega, HBn⟩
                          case measure => simp [intOf]; omega
                        · have hm1 : ((cn : Int) == (K : Int)) = false := by simp; omega
                          have hm2 : (cn == K) = false := by simp; omega
                          have hm3 : decide (cn = K) = false := decide_eq_false hm
                          go_wp2_with fail
                          go_roundw
                          case rel => exact ⟨c + 1, by go_num, by omega, HBk⟩
                          case measure => simp [intOf]; omega
                  · have hcd : decide ((c : Int) < 4096) = false := by simp; omega
                    have HBn := Lib.hid (HBl.out.trans (HBc.out.mono HBl.out.size))
                    go_wp2_with fail
                    go_roundw
                    case rel => exact ⟨i + 1, by go_num, by omega, HBn⟩
                    case measure => simp [intOf]; omega
                · have hcd2 : decide ((c : Int) < (P2 : Int)) = false := by simp; omega
                  have HBn := Lib.hid (HBl.out.trans (HBc.out.mono HBl.out.size))
                  go_wp2_with fail
                  go_roundw
                  case rel => exact ⟨i + 1, by go_num, by omega, HBn⟩
                  case measure => simp [intOf]; omega
      · have hid : (decide ((i : Int) < (S.length : Int)) && decide ((i : Int) < 2)) = false := by simp; omega
        have HB2 := Lib.hid (HB1.out.trans (HB.out.mono HB1.out.size))
        by_cases h3 : i < S.length
        all_goals
          go_wp2_with fail
          refine (refMul_nat 1 1 1 _ (by omega) (by omega) (Gf.one_mul 1 (by omega))).mono ?_
          rintro e w4 ⟨rfl, rfl⟩
          go_wp2_with fail
          refine (wakes4_any _).mono ?_
          rintro e w5 ⟨rfl, hb5⟩
          have hfin := HB2.out.trans (hb5.mono HB2.out.size)
          clear hb5
          go_wp2_with fail
          go_ret
          exact ⟨rfl, hfin⟩
  · go_wp2_with fail
    go_ret
    exact ⟨rfl, HB1.out⟩
end Go.Proofs.Ytdagnmhioellhaa
