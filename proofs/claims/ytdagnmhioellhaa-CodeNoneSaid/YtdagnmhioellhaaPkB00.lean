/- CodeEncodes: the law's walk. -/
import Derived.Test.YtdagnmhioellhaaPkA27
import Derived.Test.YtdagnmhioellhaaPkA31
import Derived.Test.YtdagnmhioellhaaPkA20
import Derived.Test.YtdagnmhioellhaaPkA21
import Derived.OrdersHeld
import Derived.Deep.RegionHeld
import Derived.Deep.RegionHeld3
import Derived.Deep.CutBlock
namespace Go.Proofs.Ytdagnmhioellhaa
open Go.ChangeShapes Go.WideShapes Go.ChangeAt Go.RowKit Go.Joins Go.Shelf
set_option linter.unusedVariables false
set_option linter.unusedSimpArgs false

theorem genK_len (mb : Bool) (k m z : Int) (h : mayB (k, m, z) = mb) : (genK mb k m).length ≤ 112 := by
  cases mb
  · simp [genK]
  · obtain ⟨K, M, rfl, rfl, k1, k8, m6, z1, z2⟩ := mayB_yes h
    show (genL _ _).length ≤ 112
    rw [genL_len]
    exact Nat.le_trans (Nat.mul_le_mul (show ((K : Int) + (M : Int)).toNat ≤ 14 by omega) (show (K : Int).toNat ≤ 8 by omega)) (by omega)

set_option maxRecDepth 100000 in
set_option maxHeartbeats 40000000 in
theorem codeEncodes_walk (c0 c1 c2 : Value) (S : List T3) (L : List ByteArray) (bs : List Bool) (w : World) (hS : ThreesIn w c0 S) (hL : TextsIn w c1 L) (hB : BoolsIn w c2 bs) (hS2 : S.length ≤ 9223372036854775807) :
    Calls Try.prog 3 #[.agg #[c0, c1, c2]] w fun e w' => e = .returned (.bool true) ∧ Below w.heap.size w w' := by
  obtain ⟨j0, hj, hy0, hy1, hy2⟩ := info_parts infoStrs4
  have tA := Three.new w c0 c1 c2 26
  have hbe := (Below.refl w.heap.size w).alloc (Nat.le_refl _) (.cells #[c0, c1, c2] 26)
  have TA := Lib.hid tA
  have HBE := Lib.hid hbe
  have HS := Lib.hid (hS.below hbe)
  have HL := Lib.hid (hL.row.below hbe)
  have HHX := Lib.hid (heavy4_any c0 c1 c2 S L bs (w.alloc (.cells #[c0, c1, c2] 26)) (hS.below hbe) (hL.below hbe) (hB.below hbe) hS2)
  obtain ⟨A, c, rfl⟩ := hS.len
  obtain ⟨pL, kL, rfl⟩ := hL.row.shape
  obtain ⟨a0, a1, a2, _, _, _⟩ := tA
  clear hbe hS hL hB
  go_enter Try.func3, Try.ntmps3
  go_wp2_with fail
  clear a0 a1 a2
  generalize w.alloc (.cells #[.slice A S.length c, .slice pL L.length kL, c2] 26) = W0 at *
  refine HHX.out.mono ?_
  rintro e w1 ⟨bo, hfew, rfl, hb1⟩
  have TA1 := Lib.hid (TA.out.below hb1)
  have HS1 := Lib.hid (HS.out.below hb1)
  have HL1 := Lib.hid (HL.out.below hb1)
  have HB1 := Lib.hid (HBE.out.trans (hb1.mono HBE.out.size))
  have HFW := Lib.hid hfew
  clear hb1 TA HS HL HHX hfew
  cases bo
  · obtain ⟨ht4, hb100, hs50⟩ := HFW.out rfl
    have hLlen : L.length ≤ 4000 := by unfold total at ht4; omega
    have HSZ : Hid (∀ x ∈ L, x.size ≤ 100000) := fun x hx => by
      obtain ⟨q, hq, rfl⟩ := List.getElem_of_mem hx
      have h2 := total_get hq
      rw [← List.getElem_eq_getD (h := hq)] at h2
      omega
    clear HFW ht4 hb100
    go_wp2_with fail
    go_loopw [3] (fun nn wr => ∃ i : Nat, nn = .int .i64 i ∧ i ≤ 4 ∧ Hid (Below w1.heap.size w1 wr)) (fun nn _ => 4 - (intOf nn).toNat)
    case atStart => exact ⟨0, rfl, by omega, Lib.hid (Below.refl _ _)⟩
    case round =>
      obtain ⟨i, rfl, hi4, HB⟩ := hrel
      obtain ⟨a0, a1, a2, _, _, _⟩ := TA1.out.below HB.out
      by_cases hil : i < S.length ∧ i < 4
      · obtain ⟨hl0, hi3⟩ := hil
        have hid1 : decide ((i : Int) < (S.length : Int)) = true := by simp; omega
        have hid2 : decide ((i : Int) < 4) = true := by simp; omega
        have i0 : (0 : Int) ≤ (i : Int) := by omega
        have i1 : (i : Int) < (S.length : Int) := by omega
        obtain ⟨b, o, cS, e, s, hs, p0, p1, p2⟩ := (HS1.out.below HB.out).at_ hl0
        cases e
        obtain ⟨k, m, z⟩ := s
        dsimp only at p0 p1 p2
        clear hs
        have t4 := Three.new wr (.int .i64 k) (.int .i64 m) (.int .i64 z) 29
        obtain ⟨o4, ho4⟩ : ∃ o, o = (Obj.cells #[.int .i64 k, .int .i64 m, .int .i64 z] 29) := ⟨_, rfl⟩
        rw [← ho4] at t4
        have hb4 := (Below.refl wr.heap.size wr).alloc (Nat.le_refl _) o4
        have T4 := Lib.hid t4
        have HB4 := Lib.hid (HB.out.trans (hb4.mono HB.out.size))
        obtain ⟨x0, x1, x2, _, _, _⟩ := t4
        rw [ho4] at x0 x1 x2
        clear hb4
        go_upto_region 7 with fail
        rw [← ho4]
        clear x0 x1 x2 ho4 a0 a1 a2 p0 p1 p2
        generalize wr.alloc o4 = W4 at *
        generalize wr.heap.size = b4 at *
        obtain ⟨x0, x1, x2, _, _, _⟩ := T4.out
        -- whether it may be
        go_wp2_with fail
        refine (refShape_any k m z W4).mono ?_
        rintro e w5 ⟨rfl, hb5⟩
        obtain ⟨mb, hmb⟩ : ∃ mb, mb = mayB (k, m, z) := ⟨_, rfl⟩
        rw [← hmb]
        have HMB := Lib.hid hmb.symm
        have T5 := Lib.hid (T4.out.below hb5)
        have HB5 := Lib.hid (HB4.out.trans (hb5.mono HB4.out.size))
        clear hb5 hmb x0 x1 x2
        obtain ⟨x0, x1, x2, _, _, _⟩ := T5.out
        -- its matrix
        go_wp2_with fail
        have HC := mat4_all k m z mb HMB.out w5
        obtain ⟨eM, heM⟩ : ∃ x, x = mulE mb := ⟨_, rfl⟩
        obtain ⟨rM, hrM⟩ : ∃ x, x = mulR mb (k + m) := ⟨_, rfl⟩
        obtain ⟨cM, hcM⟩ : ∃ x, x = mulR mb k := ⟨_, rfl⟩
        obtain ⟨gM, hgM⟩ : ∃ x, x = genK mb k m := ⟨_, rfl⟩
        rw [← heM, ← hrM, ← hcM, ← hgM] at HC
        have HEM := Lib.hid heM
        have HRM := Lib.hid hrM
        have HCM := Lib.hid hcM
        have HGM := Lib.hid hgM
        have HGM9 : Hid (gM.length ≤ 112) := by rw [Hid, hgM]; exact genK_len mb k m z HMB.out
        clear heM hrM hcM hgM
        unfold matV at HC
        with_reducible refine HC.mono ?_
        rintro e V6 ⟨vl, rfl, hvl, hb6⟩
        obtain ⟨A6, k6, rfl⟩ := hvl.shape
        obtain ⟨o6, ho6⟩ : ∃ o, o = (Obj.cells #[.int .i64 rM, .int .i64 cM, .slice A6 gM.length k6] 33) := ⟨_, rfl⟩
        have t6 := Three.new V6 (.int .i64 rM) (.int .i64 cM) (.slice A6 gM.length k6) 33
        rw [← ho6] at t6
        have hal := (Below.refl V6.heap.size V6).alloc (Nat.le_refl _) o6
        have hb6a := cum2 hb6 hal
        have T6w := Lib.hid t6
        have T4w := Lib.hid (T5.out.below hb6a)
        have HV6w := Lib.hid (hvl.below hal)
        have HB6w := Lib.hid (HB5.out.trans (hb6a.mono HB5.out.size))
        obtain ⟨y0, y1, y2, _, _, _⟩ := t6
        rw [ho6] at y0 y1 y2
        clear hal hb6 hb6a hvl HC
        go_upto_region 9 with fail
        rw [← ho6]
        clear x0 x1 x2 y0 y1 y2 ho6
        generalize V6.alloc o6 = W6 at *
        generalize V6.heap.size = b6 at *
        have T1w := Lib.hid (TA1.out.below HB6w.out)
        have HLw := Lib.hid (HL1.out.below HB6w.out)
        -- the page's own: a box; the lists
        obtain ⟨o9, ho9⟩ : ∃ o, o = (Obj.cells #[.int .i64 0, .int .i64 0, .slice none 0 0] 33) := ⟨_, rfl⟩
        obtain ⟨o10, ho10⟩ : ∃ o, o = (Obj.cells #[.slice pL L.length kL] 23) := ⟨_, rfl⟩
        have t9 := (Three.new W6 (.int .i64 0) (.int .i64 0) (.slice none 0 0) 33).alloc o10
        rw [← ho9] at t9
        have h10 := World.ownsRow_lit (base := W6.heap.size + 1) (e := 23) (size := 1) (W6.alloc o9) #[.slice pL L.length kL] 1 (by simp) (by unfold maxLen; omega) rfl
        rw [← ho10, World.size_alloc] at h10
        have hc10 : Below W6.heap.size W6 ((W6.alloc o9).alloc o10) := ((Below.refl W6.heap.size W6).alloc (Nat.le_refl _) o9).alloc (by simp) o10
        have hbU : W6.heap.size + 1 < ((W6.alloc o9).alloc o10).heap.size := by simp
        have t1b := T1w.out.alloc o9
        obtain ⟨a0, a1, a2, _, _, _⟩ := t1b
        rw [ho9] at a0 a1 a2
        have T9u := Lib.hid t9
        have HOU := Lib.hid h10
        have HBU := Lib.hid hc10
        clear t9 h10 hc10
        go_upto_if 44 with fail
        rw [← ho9, ← ho10]
        clear a0 a1 a2 ho9 ho10
        generalize (W6.alloc o9).alloc o10 = U at *
        obtain ⟨b9, hb9⟩ : ∃ b9, b9 = W6.heap.size := ⟨_, rfl⟩
        obtain ⟨b10, hb10⟩ : ∃ b10, b10 = W6.heap.size + 1 := ⟨_, rfl⟩
        rw [← hb9] at T9u
        rw [← hb10] at HOU hbU
        rw [← hb10, ← hb9]
        have h69 : W6.heap.size ≤ b9 := by omega
        have h910 : b9 < b10 := by omega
        clear hb9 hb10
        go_cut [8, 10] from 44 to 64 (fun e8 l10 wx => e8 = .int .i64 eM ∧ ∃ (LL : List (Value × List ByteArray)) (A9 : Option Addr) (k9 : Nat), Three wx b9 (.int .i64 rM) (.int .i64 cM) (.slice A9 gM.length k9) ∧ BytesV wx (.slice A9 gM.length k9) gM ∧ ListsIn wx l10 LL ∧ LL.length ≤ 3 ∧ Hid (Below W6.heap.size W6 wx))
        case first =>
          cases mb
          · have e1 : eM = 1 := HEM.out
            have e2 : rM = 0 := HRM.out
            have e3 : cM = 0 := HCM.out
            have e4 : gM = [] := HGM.out
            subst e1 e2 e3 e4
            go_wp2_with fail
            go_meet
            refine ⟨rfl, [(.slice pL L.length kL, L)], none, 0, T9u.out, bytesV_nil _ _ _, ⟨RowIs.of_own HOU.out, ?_⟩, by simp, HBU⟩
            intro p hp
            simp at hp
            subst hp
            exact ⟨HLw.out.below HBU.out, by dsimp only; omega⟩
          · obtain ⟨K, M, rfl, rfl, k1, k8, m6, z1, z2⟩ := mayB_yes HMB.out
            obtain ⟨Z, rfl⟩ : ∃ Z : Nat, z = (Z : Int) := ⟨z.toNat, by omega⟩
            obtain ⟨n, hn⟩ : ∃ n, n = K + M := ⟨_, rfl⟩
            have hni : (K : Int) + (M : Int) = (n : Int) := by omega
            have hn14 : n ≤ 14 := by omega
            have HNN := Lib.hid hn
            obtain ⟨nk, hnk⟩ : ∃ nk, nk = n * K := ⟨_, rfl⟩
            have HNK := Lib.hid hnk
            have e1 : eM = 0 := HEM.out
            have e2 : rM = (n : Int) := by rw [HRM.out]; exact hni
            have e3 : cM = (K : Int) := HCM.out
            have e4 : gM = genL n K := by rw [HGM.out]; show genL ((K : Int) + (M : Int)).toNat (K : Int).toNat = _; rw [hni, Int.toNat_natCast, Int.toNat_natCast]
            have HGL : Hid ((genL n K).length = nk) := by rw [Hid, genL_len, hnk]
            subst e1 e2 e3 e4
            clear hn hni hnk
            obtain ⟨x0, x1, x2, _, _, _⟩ := T4w.out.below HBU.out
            go_wp2_with fail
            refine (refGen_any K M (Z : Int) U k1 k8 m6).mono ?_
            rintro e V1 ⟨vr, rfl, hmr, hb1'⟩
            obtain ⟨B4, h41, h42, rfl, hbk4, hl4⟩ := hmr
            rw [← HNN.out] at hbk4
            rw [← HNN.out, ← HNK.out]
            have T9a := T9u.out.below hb1'
            have HO1 := own_below HOU.out hb1'
            have HB1u := HBU.out.trans (hb1'.mono HBU.out.size)
            have hb9V : b9 < V1.heap.size := cell_block T9a.c0
            have hu10 : b10 < U.heap.size := hbU
            have hbl := blk_cell (blk_cell (blk_cell hbk4 (d := ⟨b9, 0, none⟩) (u := .int .i64 (n : Int)) (by dsimp only; omega)) (d := ⟨b9, 1, none⟩) (u := .int .i64 (K : Int)) (by dsimp only; omega)) (d := ⟨b9, 2, none⟩) (u := .slice (some ⟨B4, 0, none⟩) nk nk) (by dsimp only; omega)
            have T9b := three_put T9a (.int .i64 (n : Int)) (.int .i64 (K : Int)) (.slice (some ⟨B4, 0, none⟩) nk nk)
            have HO2 := own_cell (own_cell (own_cell HO1 (d := ⟨b9, 0, none⟩) (u := .int .i64 (n : Int)) (by dsimp only; omega)) (d := ⟨b9, 1, none⟩) (u := .int .i64 (K : Int)) (by dsimp only; omega)) (d := ⟨b9, 2, none⟩) (u := .slice (some ⟨B4, 0, none⟩) nk nk) (by dsimp only; omega)
            have HB2u := ((HB1u.setCell (p := ⟨b9, 0, none⟩) h69 (.int .i64 (n : Int))).setCell (p := ⟨b9, 1, none⟩) h69 (.int .i64 (K : Int))).setCell (p := ⟨b9, 2, none⟩) h69 (.slice (some ⟨B4, 0, none⟩) nk nk)
            have hB4w : B4 < (((V1.setCell ⟨b9, 0, none⟩ (.int .i64 (n : Int))).setCell ⟨b9, 1, none⟩ (.int .i64 (K : Int))).setCell ⟨b9, 2, none⟩ (.slice (some ⟨B4, 0, none⟩) nk nk)).heap.size := by simp only [World.size_setCell]; exact h42
            have hsb13 : b10 < (((V1.setCell ⟨b9, 0, none⟩ (.int .i64 (n : Int))).setCell ⟨b9, 1, none⟩ (.int .i64 (K : Int))).setCell ⟨b9, 2, none⟩ (.slice (some ⟨B4, 0, none⟩) nk nk)).heap.size := by simp only [World.size_setCell]; omega
            have HBL := Lib.hid hbl
            have T9s := Lib.hid T9b
            have HO13 := Lib.hid HO2
            have HB13 := Lib.hid HB2u
            have hB4ne : ¬ B4 = b10 := by omega
            have hne9 : ¬ b9 = b10 := by omega
            obtain ⟨r0, r1, r2, r3, r4, r5⟩ := T9a
            clear hb1' hbk4 hl4 HO1 HB1u hbl T9b HO2 HB2u x0 x1 x2
            obtain ⟨K1, hK1⟩ : ∃ K1, K1 = K + 1 := ⟨_, rfl⟩
            have wK : IntKind.i64.wrap ((K : Int) + 1) = (K1 : Int) := by rw [IntWalk.i64_in _ (by omega)]; omega
            have hK19 : K1 ≤ 9 := by omega
            clear hK1
            unfold matV
            go_upto_region 14 with fail
            clear r0 r1 r2 r3 r4 r5
            generalize ((V1.setCell ⟨b9, 0, none⟩ (.int .i64 (n : Int))).setCell ⟨b9, 1, none⟩ (.int .i64 (K : Int))).setCell ⟨b9, 2, none⟩ (.slice (some ⟨B4, 0, none⟩) nk nk) = W13 at *
            have HBK : Hid (∀ W', Kept (fun j => j = b10) W13 W' → Below W6.heap.size W6 W') := fun W' h => HB13.out.trans (h.below HB13.out.size (fun j hj e => by omega))
            refine wp_region_held (S := fun W' => Kept (fun j => j = b10) W13 W') (by kernel_rfl) ?_
            change wpAnyH _ _ _ _ _ 19 _ _ W13.drew
            have hcum := (Kept.refl (fun j => j = b10) W13).drew
            have hown := HO13.out.drew
            have hsb : b10 < W13.drew.heap.size := hsb13
            generalize W13.drew = V0 at *
            refine wpAnyH_take (i := 0) (oi := { dst := some 47, op := Op.move (Operand.tmp 10), type := 37, pos := "law.go:63", after := #[], guard := none }) (v := ?_) rfl (by kernel_rfl) (by kernel_rfl) (by kernel_rfl) (fun _ _ _ h => h) (Or.inl ⟨by rfl, fun W' hW' => ?_⟩) hcum ?_
            rotate_left 1
            · go_simp
              try rfl
            try simp only [Act.put, List.setIfInBounds_toArray, List.set_cons_zero, List.set_cons_succ]
            refine wpAnyH_take (i := 1) (oi := { dst := some 48, op := Op.fieldAddr 26 (Operand.tmp 1) 1, type := 0, pos := "law.go:63", after := #[], guard := none }) (v := ?_) rfl (by kernel_rfl) (by kernel_rfl) (by kernel_rfl) (fun _ _ _ h => h) (Or.inl ⟨by rfl, fun W' hW' => ?_⟩) hcum ?_
            rotate_left 1
            · go_simp
              try rfl
            try simp only [Act.put, List.setIfInBounds_toArray, List.set_cons_zero, List.set_cons_succ]
            refine wpAnyH_take (i := 2) (oi := { dst := some 49, op := Op.load 23 (Operand.tmp 48), type := 23, pos := "law.go:63", after := #[{ on := 1, ground := Ground.data }], guard := none }) (v := ?_) rfl (by kernel_rfl) (by kernel_rfl) (by kernel_rfl) (fun _ _ _ h => h) (Or.inl ⟨by rfl, fun W' hW' => ?_⟩) hcum ?_
            rotate_left 1
            · (have hq := HBK.out _ hW'; obtain ⟨a0, a1, _, _, _, _⟩ := T1w.out.below hq; obtain ⟨x0, x1, x2, _, _, _⟩ := T4w.out.below hq; go_simp)
              try rfl
            try simp only [Act.put, List.setIfInBounds_toArray, List.set_cons_zero, List.set_cons_succ]
            refine wpAnyH_take (i := 3) (oi := { dst := some 50, op := Op.fieldAddr 29 (Operand.tmp 4) 0, type := 0, pos := "law.go:63", after := #[], guard := none }) (v := ?_) rfl (by kernel_rfl) (by kernel_rfl) (by kernel_rfl) (fun _ _ _ h => h) (Or.inl ⟨by rfl, fun W' hW' => ?_⟩) hcum ?_
            rotate_left 1
            · go_simp
              try rfl
            try simp only [Act.put, List.setIfInBounds_toArray, List.set_cons_zero, List.set_cons_succ]
            refine wpAnyH_take (i := 4) (oi := { dst := some 51, op := Op.load 3 (Operand.tmp 50), type := 3, pos := "law.go:63", after := #[{ on := 3, ground := Ground.data }], guard := none }) (v := ?_) rfl (by kernel_rfl) (by kernel_rfl) (by kernel_rfl) (fun _ _ _ h => h) (Or.inl ⟨by rfl, fun W' hW' => ?_⟩) hcum ?_
            rotate_left 1
            · (have hq := HBK.out _ hW'; obtain ⟨a0, a1, _, _, _, _⟩ := T1w.out.below hq; obtain ⟨x0, x1, x2, _, _, _⟩ := T4w.out.below hq; go_simp)
              try rfl
            try simp only [Act.put, List.setIfInBounds_toArray, List.set_cons_zero, List.set_cons_succ]
            refine wpAnyH_take (i := 5) (oi := { dst := some 52, op := Op.fieldAddr 29 (Operand.tmp 4) 2, type := 0, pos := "law.go:63", after := #[], guard := none }) (v := ?_) rfl (by kernel_rfl) (by kernel_rfl) (by kernel_rfl) (fun _ _ _ h => h) (Or.inl ⟨by rfl, fun W' hW' => ?_⟩) hcum ?_
            rotate_left 1
            · go_simp
              try rfl
            try simp only [Act.put, List.setIfInBounds_toArray, List.set_cons_zero, List.set_cons_succ]
            refine wpAnyH_take (i := 6) (oi := { dst := some 53, op := Op.load 3 (Operand.tmp 52), type := 3, pos := "law.go:63", after := #[{ on := 5, ground := Ground.data }], guard := none }) (v := ?_) rfl (by kernel_rfl) (by kernel_rfl) (by kernel_rfl) (fun _ _ _ h => h) (Or.inl ⟨by rfl, fun W' hW' => ?_⟩) hcum ?_
            rotate_left 1
            · (have hq := HBK.out _ hW'; obtain ⟨a0, a1, _, _, _, _⟩ := T1w.out.below hq; obtain ⟨x0, x1, x2, _, _, _⟩ := T4w.out.below hq; go_simp)
              try rfl
            try simp only [Act.put, List.setIfInBounds_toArray, List.set_cons_zero, List.set_cons_succ]
            refine wpAnyH_take (i := 8) (oi := { dst := some 55, op := Op.fieldAddr 26 (Operand.tmp 1) 1, type := 0, pos := "law.go:63", after := #[], guard := none }) (v := ?_) rfl (by kernel_rfl) (by kernel_rfl) (by kernel_rfl) (fun _ _ _ h => h) (Or.inl ⟨by rfl, fun W' hW' => ?_⟩) hcum ?_
            rotate_left 1
            · go_simp
              try rfl
            try simp only [Act.put, List.setIfInBounds_toArray, List.set_cons_zero, List.set_cons_succ]
            refine wpAnyH_take (i := 9) (oi := { dst := some 56, op := Op.load 23 (Operand.tmp 55), type := 23, pos := "law.go:63", after := #[{ on := 8, ground := Ground.data }], guard := none }) (v := ?_) rfl (by kernel_rfl) (by kernel_rfl) (by kernel_rfl) (fun _ _ _ h => h) (Or.inl ⟨by rfl, fun W' hW' => ?_⟩) hcum ?_
            rotate_left 1
            · (have hq := HBK.out _ hW'; obtain ⟨a0, a1, _, _, _, _⟩ := T1w.out.below hq; obtain ⟨x0, x1, x2, _, _, _⟩ := T4w.out.below hq; go_simp)
              try rfl
            try simp only [Act.put, List.setIfInBounds_toArray, List.set_cons_zero, List.set_cons_succ]
            refine wpAnyH_take (i := 10) (oi := { dst := some 57, op := Op.fieldAddr 29 (Operand.tmp 4) 0, type := 0, pos := "law.go:63", after := #[], guard := none }) (v := ?_) rfl (by kernel_rfl) (by kernel_rfl) (by kernel_rfl) (fun _ _ _ h => h) (Or.inl ⟨by rfl, fun W' hW' => ?_⟩) hcum ?_
            rotate_left 1
            · go_simp
              try rfl
            try simp only [Act.put, List.setIfInBounds_toArray, List.set_cons_zero, List.set_cons_succ]
            refine wpAnyH_take (i := 11) (oi := { dst := some 58, op := Op.load 3 (Operand.tmp 57), type := 3, pos := "law.go:63", after := #[{ on := 10, ground := Ground.data }], guard := none }) (v := ?_) rfl (by kernel_rfl) (by kernel_rfl) (by kernel_rfl) (fun _ _ _ h => h) (Or.inl ⟨by rfl, fun W' hW' => ?_⟩) hcum ?_
            rotate_left 1
            · (have hq := HBK.out _ hW'; obtain ⟨a0, a1, _, _, _, _⟩ := T1w.out.below hq; obtain ⟨x0, x1, x2, _, _, _⟩ := T4w.out.below hq; go_simp)
              try rfl
            try simp only [Act.put, List.setIfInBounds_toArray, List.set_cons_zero, List.set_cons_succ]
            refine wpAnyH_take (i := 12) (oi := { dst := some 59, op := Op.binOp BinOp.add 3 (Operand.tmp 58) (Operand.const (Value.int IntKind.i64 1)) 3, type := 3, pos := "law.go:63", after := #[{ on := 11, ground := Ground.data }], guard := none }) (v := ?_) rfl (by kernel_rfl) (by kernel_rfl) (by kernel_rfl) (fun _ _ _ h => h) (Or.inl ⟨by rfl, fun W' hW' => ?_⟩) hcum ?_
            rotate_left 1
            · go_simp
              try rfl
            try simp only [Act.put, List.setIfInBounds_toArray, List.set_cons_zero, List.set_cons_succ]
            refine wpAnyH_take (i := 13) (oi := { dst := some 60, op := Op.fieldAddr 29 (Operand.tmp 4) 2, type := 0, pos := "law.go:63", after := #[], guard := none }) (v := ?_) rfl (by kernel_rfl) (by kernel_rfl) (by kernel_rfl) (fun _ _ _ h => h) (Or.inl ⟨by rfl, fun W' hW' => ?_⟩) hcum ?_
            rotate_left 1
            · go_simp
              try rfl
            try simp only [Act.put, List.setIfInBounds_toArray, List.set_cons_zero, List.set_cons_succ]
            refine wpAnyH_take (i := 14) (oi := { dst := some 61, op := Op.load 3 (Operand.tmp 60), type := 3, pos := "law.go:63", after := #[{ on := 13, ground := Ground.data }], guard := none }) (v := ?_) rfl (by kernel_rfl) (by kernel_rfl) (by kernel_rfl) (fun _ _ _ h => h) (Or.inl ⟨by rfl, fun W' hW' => ?_⟩) hcum ?_
            rotate_left 1
            · (have hq := HBK.out _ hW'; obtain ⟨a0, a1, _, _, _, _⟩ := T1w.out.below hq; obtain ⟨x0, x1, x2, _, _, _⟩ := T4w.out.below hq; go_simp)
              try rfl
            try simp only [Act.put, List.setIfInBounds_toArray, List.set_cons_zero, List.set_cons_succ]
            refine wpAnyH_ready (rs := [7]) (by kernel_rfl) (by simp) ?_
            refine AllReadyH.cons (o := { dst := some 54, op := Op.call { callee := Callee.value (Operand.func 14), args := #[Operand.tmp 49, Operand.tmp 51, Operand.tmp 53], argTypes := #[23, 3, 3] }, type := 23, pos := "law.go:63", after := #[{ on := 2, ground := Ground.data }, { on := 4, ground := Ground.data }, { on := 6, ground := Ground.data }], guard := none }) rfl (fun KK hK => ?_) AllReadyH.nil
            rw [if_pos (by rfl)]
            go_simp
            have HC := fitted_any (.slice pL L.length kL) L K Z V0 (HLw.out.below (HBK.out _ hcum)) (by omega) HSZ.out (by omega) (by omega) (by omega)
            with_reducible refine HC.mono ?_
            rintro e V1 ⟨f1, F1, rfl, hof1, hF1, hF1z, hbe⟩
            obtain ⟨A1, c1, rfl⟩ := own_shape hof1
            have hF1 := Lib.hid hF1
            have hown := own_below hown hbe
            have hsb := Nat.lt_of_lt_of_le hsb hbe.size

            clear HC
            have hcum := hcum.trans (Kept.of_below hbe)
            refine hK.out _ _ hcum (fun _ => ?_)
            clear hK hbe
            try simp only [Act.put, List.setIfInBounds_toArray, List.set_cons_zero, List.set_cons_succ]
            refine wpAnyH_ready (rs := [15]) (by kernel_rfl) (by simp) ?_
            refine AllReadyH.cons (o := { dst := some 62, op := Op.call { callee := Callee.value (Operand.func 14), args := #[Operand.tmp 56, Operand.tmp 59, Operand.tmp 61], argTypes := #[23, 3, 3] }, type := 23, pos := "law.go:63", after := #[{ on := 9, ground := Ground.data }, { on := 12, ground := Ground.data }, { on := 14, ground := Ground.data }, { on := 7, ground := Ground.chain }], guard := none }) rfl (fun KK hK => ?_) AllReadyH.nil
            rw [if_pos (by rfl)]
            go_simp
            have HC := fitted_any (.slice pL L.length kL) L K1 Z V1 (HLw.out.below (HBK.out _ hcum)) (by omega) HSZ.out (by omega) (by omega) (by omega)
            with_reducible refine HC.mono ?_
            rintro e V2 ⟨f2, F2, rfl, hof2, hF2, hF2z, hbe⟩
            obtain ⟨A2, c2, rfl⟩ := own_shape hof2
            have hF2 := Lib.hid hF2
            have hown := own_below hown hbe
            have hsb := Nat.lt_of_lt_of_le hsb hbe.size
            have hof1 := own_below hof1 hbe
            clear HC
            have hcum := hcum.trans (Kept.of_below hbe)
            refine hK.out _ _ hcum (fun _ => ?_)
            clear hK hbe
            try simp only [Act.put, List.setIfInBounds_toArray, List.set_cons_zero, List.set_cons_succ]
            refine wpAnyH_ready (rs := [16]) (by kernel_rfl) (by simp) ?_
            refine AllReadyH.cons (o := { dst := some 63, op := Op.buildSlice 37 2 #[(0, Operand.tmp 54), (1, Operand.tmp 62)], type := 37, pos := "law.go:63", after := #[{ on := 7, ground := Ground.data }, { on := 15, ground := Ground.data }], guard := none }) rfl (fun KK hK => ?_) AllReadyH.nil
            rw [if_pos (by rfl)]
            go_simp
            have hbe := (Below.refl V2.heap.size V2).alloc (Nat.le_refl _) (.cells #[.slice A1 K c1, .slice A2 K1 c2] 23)
            have hl2 := cell_two_new V2 (.slice A1 K c1) (.slice A2 K1 c2) 23
            replace hown := hown.alloc (.cells #[.slice A1 K c1, .slice A2 K1 c2] 23)
            replace hof1 := hof1.alloc (.cells #[.slice A1 K c1, .slice A2 K1 c2] 23)
            replace hof2 := hof2.alloc (.cells #[.slice A1 K c1, .slice A2 K1 c2] 23)
            replace hsb := Nat.lt_of_lt_of_le hsb hbe.size
            replace hcum := hcum.trans (Kept.of_below hbe)
            refine hK.out _ _ hcum (fun _ => ?_)
            clear hK hbe
            generalize V2.alloc (.cells #[.slice A1 K c1, .slice A2 K1 c2] 23) = V3 at *
            generalize V2.heap.size = bl at *
            try simp only [Act.put, List.setIfInBounds_toArray, List.set_cons_zero, List.set_cons_succ]
            refine wpAnyH_ready (rs := [17]) (by kernel_rfl) (by simp) ?_
            refine AllReadyH.cons (o := { dst := some 64, op := Op.call { callee := Callee.builtin Builtin.append, args := #[Operand.tmp 47, Operand.tmp 63], argTypes := #[37, 37] }, type := 37, pos := "law.go:63", after := #[{ on := 0, ground := Ground.data }, { on := 16, ground := Ground.data }, { on := 15, ground := Ground.chain }], guard := none }) rfl (fun KK hK => ?_) AllReadyH.nil
            refine step_append_lies _ (by rfl) _ _ _ (by rfl) b10 23 j0 _ 1 24 Try.underlying37 hj hy0 hy1 hy2 rfl (by decide) _ _ _ (by rfl) hown ⟨bl, 0, none⟩ 2 2 [.slice A1 K c1, .slice A2 K1 c2] (by simp [Act.eval]) (by rfl) hl2 (by intro u hu; simp at hu; rcases hu with rfl | rfl <;> rfl) (by omega) (by unfold maxLen; omega) (by omega) (by omega) V3.heap.size rfl ?_
            intro gg cap V4 hown' hgrow hat hltg
            have hkg : Kept (fun j => j = b10) V3 V4 := ⟨hgrow.os, hgrow.tape, hgrow.output, hgrow.size, fun j hj hp => hgrow.block j hj (by intro e; exact hp (by simpa [Value.ownBlock] using e))⟩
            have hof1 := hof1.kept hgrow (own_apart (by decide) hof1 hown)
            have hof2 := hof2.kept hgrow (own_apart (by decide) hof2 hown)
            have hcum := hcum.trans hkg
            clear hown hgrow hat hltg hkg
            refine hK.out _ _ hcum (fun _ => ?_)
            clear hK
            try simp only [Act.put, List.setIfInBounds_toArray, List.set_cons_zero, List.set_cons_succ]
            refine wpAnyH_take (i := 18) (oi := { dst := some 10, op := Op.assign (Operand.tmp 64), type := 37, pos := "law.go:63", after := #[{ on := 17, ground := Ground.data }, { on := 17, ground := Ground.chain }, { on := 0, ground := Ground.phase }, { on := 1, ground := Ground.phase }, { on := 2, ground := Ground.phase }, { on := 3, ground := Ground.phase }, { on := 4, ground := Ground.phase }, { on := 5, ground := Ground.phase }, { on := 6, ground := Ground.phase }, { on := 7, ground := Ground.phase }, { on := 8, ground := Ground.phase }, { on := 9, ground := Ground.phase }, { on := 10, ground := Ground.phase }, { on := 11, ground := Ground.phase }, { on := 12, ground := Ground.phase }, { on := 13, ground := Ground.phase }, { on := 14, ground := Ground.phase }, { on := 15, ground := Ground.phase }, { on := 16, ground := Ground.phase }, { on := 17, ground := Ground.phase }], guard := none }) (v := ?_) rfl (by kernel_rfl) (by kernel_rfl) (by kernel_rfl) (fun _ _ _ h => h) (Or.inl ⟨by rfl, fun W' hW' => ?_⟩) hcum ?_
            rotate_left 1
            · go_simp
              try rfl
            try simp only [Act.put, List.setIfInBounds_toArray, List.set_cons_zero, List.set_cons_succ]
            refine wpAnyH_done (by kernel_rfl) ?_ _
            go_wp2_with fail
            go_meet
            have hbl9 := blk_keptM HBL.out hB4w hcum hB4ne
            have hbv9 := BytesV.of_blk (c := nk) hbl9 (Nat.lt_of_lt_of_le hB4w hcum.size)
            rw [HGL.out] at hbv9
            have hL1 := HLw.out.below (HBK.out _ hcum)
            refine ⟨rfl, [(.slice pL L.length kL, L), (.slice A1 K c1, F1), (.slice A2 K1 c2, F2)], _, _, by rw [HGL.out]; exact T9s.out.below' hcum hne9, by rw [HGL.out]; exact hbv9, ⟨RowIs.of_own hown', ?_⟩, by simp, Lib.hid (HBK.out _ hcum)⟩
            intro p hp
            simp at hp
            rcases hp with rfl | rfl | rfl
            · exact ⟨hL1, by dsimp only; omega⟩
            · exact ⟨by show RowIs _ _ F1.length 1 _; rw [hF1.out]; exact RowIs.of_own hof1, by dsimp only; rw [hF1.out]; omega⟩
            · exact ⟨by show RowIs _ _ F2.length 1 _; rw [hF2.out]; exact RowIs.of_own hof2, by dsimp only; rw [hF2.out]; omega⟩
        case rest =>
          obtain ⟨wd, rfl⟩ : ∃ wd : World, wd = wc := ⟨_, rfl⟩
          obtain ⟨rfl, LL, A9, k9, t9, hbv9, hLi, hLL3, HBd⟩ := hcut
          obtain ⟨A10, c10, rfl⟩ := hLi.shape
          have T9d := Lib.hid t9
          have HV9 := Lib.hid hbv9
          have HLi := Lib.hid hLi
          have T4d := Lib.hid (T4w.out.below HBd.out)
          have T6d := Lib.hid (T6w.out.below HBd.out)
          have HV6d := Lib.hid (HV6w.out.below HBd.out)
          have HBs := Lib.hid (HB6w.out.trans (HBd.out.mono HB6w.out.size))
          have hg9 : gM.length ≤ 9000000000000000000 := by
            obtain ⟨_, _, _, _, _⟩ := hbv9.1
            exact Nat.le_trans HGM9.out (by omega)
          clear t9 hbv9 hLi
          obtain ⟨x0, x1, x2, _, _, _⟩ := T4d.out
          obtain ⟨y0, y1, y2, _, _, _⟩ := T6d.out
          obtain ⟨z0, z1, z2, _, _, _⟩ := T9d.out
          go_wp2_with fail
          refine (check4_any k m z mb HMB.out wd).mono ?_
          rintro e we ⟨rfl, hbe⟩
          rw [← HEM.out]
          have T4e := Lib.hid (T4d.out.below hbe)
          have T6e := Lib.hid (T6d.out.below hbe)
          have T9e := Lib.hid (T9d.out.below hbe)
          have HV6e := Lib.hid (HV6d.out.below hbe)
          have HV9e := Lib.hid (HV9.out.below hbe)
          have HLie := Lib.hid (HLi.out.below hbe)
          have HBe := Lib.hid (HBs.out.trans (hbe.mono HBs.out.size))
          clear hbe x0 x1 x2 y0 y1 y2 z0 z1 z2
          obtain ⟨y0, y1, y2, _, _, _⟩ := T6e.out
          obtain ⟨z0, z1, z2, _, _, _⟩ := T9e.out
          go_wp2_with (first | (go_at_call 15; refine (num4_any _ _).mono ?_; rintro e wn ⟨rfl, rfl⟩))
          have HC := eqMatrix_yes rM cM (.slice A6 gM.length k6) (.slice A9 gM.length k9) gM we HV6e.out HV9e.out hg9
          unfold matV at HC
          with_reducible refine HC.mono ?_
          rintro e wf ⟨rfl, hbf⟩
          have T4f := Lib.hid (T4e.out.below hbf)
          have HLif := Lib.hid (HLie.out.below hbf)
          have HBf := Lib.hid (HBe.out.trans (hbf.mono HBe.out.size))
          clear HC hbf y0 y1 y2 z0 z1 z2
          go_wp2_with fail
          go_loopw [11] (fun kk wr => ∃ j : Nat, kk = .int .i64 j ∧ j ≤ LL.length ∧ Hid (Below wf.heap.size wf wr)) (fun kk _ => LL.length - (intOf kk).toNat)
          case atStart => exact ⟨0, rfl, by omega, Lib.hid (Below.refl _ _)⟩
          case round =>
            obtain ⟨wg, rfl⟩ : ∃ wg : World, wg = wr := ⟨_, rfl⟩
            obtain ⟨j, rfl, hj', HBg⟩ := hrel
            by_cases hlt : j < LL.length
            · have hjd : decide ((j : Int) < (LL.length : Int)) = true := by simp; omega
              have q0 : (0 : Int) ≤ (j : Int) := by omega
              have q1 : (j : Int) < (LL.length : Int) := by omega
              obtain ⟨bL, oL, v, l, hA, hcell, hvs, hl6⟩ := (HLif.out.below HBg.out).at_ hlt
              subst hA
              obtain ⟨Av, cv, rfl⟩ := hvs.shape
              have HLC0 : Hid (∀ W', Below wg.heap.size wg W' → W'.cell? ⟨bL, oL + j, none⟩ = some (.slice Av l.length cv)) := fun W' h => below_celllt hcell (cell_block hcell) h
              have HLv0 := Lib.hid hvs
              have T4g := Lib.hid (T4f.out.below HBg.out)
              clear hvs
              -- the copy
              go_wp2_with fail
              refine (copyStrs6_any (.slice Av l.length cv) l wg HLv0.out hl6).mono ?_
              rintro e wh ⟨ri, rfl, hoi, hbh⟩
              obtain ⟨Ai, ci, rfl⟩ := own_shape hoi
              have HSi : Hid (Strs6 wh (.slice Ai l.length ci) l) := RowIs.of_own hoi
              have HBh := Lib.hid hbh
              have T4h := Lib.hid (T4g.out.below hbh)
              obtain ⟨bb, hbb⟩ : ∃ bb, bb = (mayB (k, m, z) && fitB l k z) := ⟨_, rfl⟩
              have HBB := Lib.hid hbb.symm
              obtain ⟨x0, x1, x2, _, _, _⟩ := T4h.out
              clear hbh hoi hcell hbb
              -- all pieces
              go_wp2_with fail
              refine (encode_all k m z (.slice Ai l.length ci) l bb HBB.out wh HSi.out (by omega)).mono ?_
              rintro e wq ⟨rx, rfl, hox, hbq⟩
              obtain ⟨Ax, cx, rfl⟩ := own_shape hox
              obtain ⟨xl, hxl⟩ : ∃ xl, xl = ifL bb (encL k m z l) := ⟨_, rfl⟩
              rw [← hxl] at hox
              rw [← hxl]
              obtain ⟨eX, heX⟩ : ∃ x, x = mulE bb := ⟨_, rfl⟩
              rw [← heX]
              have HEX := Lib.hid heX
              have HXL := Lib.hid hxl
              have HOX := Lib.hid hox
              have HBq := Lib.hid hbq
              have HBgq := Lib.hid (HBh.out.trans (hbq.mono HBh.out.size))
              have T4q := Lib.hid (T4g.out.below HBgq.out)
              have HLv := Lib.hid (HLv0.out.below HBgq.out)
              have HLC : Hid (∀ W', Below wq.heap.size wq W' → W'.cell? ⟨bL, oL + j, none⟩ = some (.slice Av l.length cv)) := fun W' h => HLC0.out W' (HBgq.out.trans (h.mono HBgq.out.size))
              have HSiq := Lib.hid (HSi.out.below hbq)
              clear hxl heX hox hbq x0 x1 x2
              go_upto_region 24 with fail
              go_cut [110] from 99 to 110 (fun cv' wx => cv' = .bool bb ∧ Hid (Below wq.heap.size wq wx))
              case first =>
                cases mb
                · have e1 : bb = false := by have h := HBB.out; rw [HMB.out] at h; exact h.symm
                  subst e1
                  refine wp_region_held (S := fun W' => Below wq.heap.size wq W') (by kernel_rfl) ?_
                  change wpAnyH _ _ _ _ _ 12 _ _ wq.drew
                  have hcum := (Below.refl wq.heap.size wq).drew
                  generalize wq.drew = V0 at *
                  refine wpAnyH_take (i := 0) (oi := { dst := some 99, op := Op.move (Operand.tmp 5), type := 4, pos := "law.go:73", after := #[], guard := none }) (v := ?_) rfl (by kernel_rfl) (by kernel_rfl) (by kernel_rfl) (fun _ _ _ h => h) (Or.inl ⟨by rfl, fun W' hW' => ?_⟩) hcum ?_
                  rotate_left 1
                  · go_simp
                    try rfl
                  try simp only [Act.put, List.setIfInBounds_toArray, List.set_cons_zero, List.set_cons_succ]
                  refine wpAnyH_take (i := 1) (oi := { dst := some 100, op := Op.move (Operand.tmp 99), type := 4, pos := "law.go:73", after := #[{ on := 0, ground := Ground.data }], guard := none }) (v := ?_) rfl (by kernel_rfl) (by kernel_rfl) (by kernel_rfl) (fun _ _ _ h => h) (Or.inl ⟨by rfl, fun W' hW' => ?_⟩) hcum ?_
                  rotate_left 1
                  · go_simp
                    try rfl
                  try simp only [Act.put, List.setIfInBounds_toArray, List.set_cons_zero, List.set_cons_succ]
                  refine wpAnyH_take (i := 2) (oi := { dst := some 101, op := Op.move (Operand.tmp 10), type := 37, pos := "law.go:73", after := #[{ on := 1, ground := Ground.guard }], guard := some (1, true) }) (v := undef) rfl (by kernel_rfl) (by kernel_rfl) (by kernel_rfl) (fun _ _ _ h => h) (Or.inr ⟨by rfl, rfl⟩) hcum ?_
                  try simp only [Act.put, List.setIfInBounds_toArray, List.set_cons_zero, List.set_cons_succ]
                  refine wpAnyH_take (i := 3) (oi := { dst := some 102, op := Op.move (Operand.tmp 11), type := 3, pos := "law.go:73", after := #[{ on := 1, ground := Ground.guard }], guard := some (1, true) }) (v := undef) rfl (by kernel_rfl) (by kernel_rfl) (by kernel_rfl) (fun _ _ _ h => h) (Or.inr ⟨by rfl, rfl⟩) hcum ?_
                  try simp only [Act.put, List.setIfInBounds_toArray, List.set_cons_zero, List.set_cons_succ]
                  refine wpAnyH_take (i := 4) (oi := { dst := some 103, op := Op.indexAddr 37 (Operand.tmp 101) (Operand.tmp 102), type := 0, pos := "law.go:73", after := #[{ on := 2, ground := Ground.data }, { on := 3, ground := Ground.data }, { on := 1, ground := Ground.guard }], guard := some (1, true) }) (v := undef) rfl (by kernel_rfl) (by kernel_rfl) (by kernel_rfl) (fun _ _ _ h => h) (Or.inr ⟨by rfl, rfl⟩) hcum ?_
                  try simp only [Act.put, List.setIfInBounds_toArray, List.set_cons_zero, List.set_cons_succ]
                  refine wpAnyH_take (i := 5) (oi := { dst := some 104, op := Op.load 23 (Operand.tmp 103), type := 23, pos := "law.go:73", after := #[{ on := 4, ground := Ground.data }, { on := 1, ground := Ground.guard }], guard := some (1, true) }) (v := undef) rfl (by kernel_rfl) (by kernel_rfl) (by kernel_rfl) (fun _ _ _ h => h) (Or.inr ⟨by rfl, rfl⟩) hcum ?_
                  try simp only [Act.put, List.setIfInBounds_toArray, List.set_cons_zero, List.set_cons_succ]
                  refine wpAnyH_take (i := 6) (oi := { dst := some 105, op := Op.fieldAddr 29 (Operand.tmp 4) 0, type := 0, pos := "law.go:73", after := #[{ on := 1, ground := Ground.guard }], guard := some (1, true) }) (v := undef) rfl (by kernel_rfl) (by kernel_rfl) (by kernel_rfl) (fun _ _ _ h => h) (Or.inr ⟨by rfl, rfl⟩) hcum ?_
                  try simp only [Act.put, List.setIfInBounds_toArray, List.set_cons_zero, List.set_cons_succ]
                  refine wpAnyH_take (i := 7) (oi := { dst := some 106, op := Op.load 3 (Operand.tmp 105), type := 3, pos := "law.go:73", after := #[{ on := 6, ground := Ground.data }, { on := 1, ground := Ground.guard }], guard := some (1, true) }) (v := undef) rfl (by kernel_rfl) (by kernel_rfl) (by kernel_rfl) (fun _ _ _ h => h) (Or.inr ⟨by rfl, rfl⟩) hcum ?_
                  try simp only [Act.put, List.setIfInBounds_toArray, List.set_cons_zero, List.set_cons_succ]
                  refine wpAnyH_take (i := 8) (oi := { dst := some 107, op := Op.fieldAddr 29 (Operand.tmp 4) 2, type := 0, pos := "law.go:73", after := #[{ on := 1, ground := Ground.guard }], guard := some (1, true) }) (v := undef) rfl (by kernel_rfl) (by kernel_rfl) (by kernel_rfl) (fun _ _ _ h => h) (Or.inr ⟨by rfl, rfl⟩) hcum ?_
                  try simp only [Act.put, List.setIfInBounds_toArray, List.set_cons_zero, List.set_cons_succ]
                  refine wpAnyH_take (i := 9) (oi := { dst := some 108, op := Op.load 3 (Operand.tmp 107), type := 3, pos := "law.go:73", after := #[{ on := 8, ground := Ground.data }, { on := 1, ground := Ground.guard }], guard := some (1, true) }) (v := undef) rfl (by kernel_rfl) (by kernel_rfl) (by kernel_rfl) (fun _ _ _ h => h) (Or.inr ⟨by rfl, rfl⟩) hcum ?_
                  try simp only [Act.put, List.setIfInBounds_toArray, List.set_cons_zero, List.set_cons_succ]
                  refine wpAnyH_take (i := 10) (oi := { dst := some 109, op := Op.call { callee := Callee.value (Operand.func 20), args := #[Operand.tmp 104, Operand.tmp 106, Operand.tmp 108], argTypes := #[23, 3, 3] }, type := 4, pos := "law.go:73", after := #[{ on := 5, ground := Ground.data }, { on := 7, ground := Ground.data }, { on := 9, ground := Ground.data }, { on := 1, ground := Ground.chain }, { on := 1, ground := Ground.guard }], guard := some (1, true) }) (v := undef) rfl (by kernel_rfl) (by kernel_rfl) (by kernel_rfl) (fun _ _ _ h => h) (Or.inr ⟨by rfl, rfl⟩) hcum ?_
                  try simp only [Act.put, List.setIfInBounds_toArray, List.set_cons_zero, List.set_cons_succ]
                  refine wpAnyH_take (i := 11) (oi := { dst := some 110, op := Op.pick (Operand.tmp 100) (Operand.tmp 109) (Operand.const (Value.bool false)), type := 4, pos := "law.go:73", after := #[{ on := 1, ground := Ground.data }, { on := 10, ground := Ground.data }], guard := none }) (v := ?_) rfl (by kernel_rfl) (by kernel_rfl) (by kernel_rfl) (fun _ _ _ h => h) (Or.inl ⟨by rfl, fun W' hW' => ?_⟩) hcum ?_
                  rotate_left 1
                  · go_simp
                    try rfl
                  try simp only [Act.put, List.setIfInBounds_toArray, List.set_cons_zero, List.set_cons_succ]
                  refine wpAnyH_done (by kernel_rfl) ?_ _
                  go_wp2_with fail
                  go_meet
                  exact ⟨rfl, Lib.hid hcum⟩
                · have HFB : Hid (fitB l k z = bb) := by have h := HBB.out; rw [HMB.out, Bool.true_and] at h; exact h
                  refine wp_region_held (S := fun W' => Below wq.heap.size wq W') (by kernel_rfl) ?_
                  change wpAnyH _ _ _ _ _ 12 _ _ wq.drew
                  have hcum := (Below.refl wq.heap.size wq).drew
                  generalize wq.drew = V0 at *
                  refine wpAnyH_take (i := 0) (oi := { dst := some 99, op := Op.move (Operand.tmp 5), type := 4, pos := "law.go:73", after := #[], guard := none }) (v := ?_) rfl (by kernel_rfl) (by kernel_rfl) (by kernel_rfl) (fun _ _ _ h => h) (Or.inl ⟨by rfl, fun W' hW' => ?_⟩) hcum ?_
                  rotate_left 1
                  · go_simp
                    try rfl
                  try simp only [Act.put, List.setIfInBounds_toArray, List.set_cons_zero, List.set_cons_succ]
                  refine wpAnyH_take (i := 1) (oi := { dst := some 100, op := Op.move (Operand.tmp 99), type := 4, pos := "law.go:73", after := #[{ on := 0, ground := Ground.data }], guard := none }) (v := ?_) rfl (by kernel_rfl) (by kernel_rfl) (by kernel_rfl) (fun _ _ _ h => h) (Or.inl ⟨by rfl, fun W' hW' => ?_⟩) hcum ?_
                  rotate_left 1
                  · go_simp
                    try rfl
                  try simp only [Act.put, List.setIfInBounds_toArray, List.set_cons_zero, List.set_cons_succ]
                  refine wpAnyH_take (i := 2) (oi := { dst := some 101, op := Op.move (Operand.tmp 10), type := 37, pos := "law.go:73", after := #[{ on := 1, ground := Ground.guard }], guard := some (1, true) }) (v := ?_) rfl (by kernel_rfl) (by kernel_rfl) (by kernel_rfl) (fun _ _ _ h => h) (Or.inl ⟨by rfl, fun W' hW' => ?_⟩) hcum ?_
                  rotate_left 1
                  · go_simp
                    try rfl
                  try simp only [Act.put, List.setIfInBounds_toArray, List.set_cons_zero, List.set_cons_succ]
                  refine wpAnyH_take (i := 3) (oi := { dst := some 102, op := Op.move (Operand.tmp 11), type := 3, pos := "law.go:73", after := #[{ on := 1, ground := Ground.guard }], guard := some (1, true) }) (v := ?_) rfl (by kernel_rfl) (by kernel_rfl) (by kernel_rfl) (fun _ _ _ h => h) (Or.inl ⟨by rfl, fun W' hW' => ?_⟩) hcum ?_
                  rotate_left 1
                  · go_simp
                    try rfl
                  try simp only [Act.put, List.setIfInBounds_toArray, List.set_cons_zero, List.set_cons_succ]
                  refine wpAnyH_take (i := 4) (oi := { dst := some 103, op := Op.indexAddr 37 (Operand.tmp 101) (Operand.tmp 102), type := 0, pos := "law.go:73", after := #[{ on := 2, ground := Ground.data }, { on := 3, ground := Ground.data }, { on := 1, ground := Ground.guard }], guard := some (1, true) }) (v := ?_) rfl (by kernel_rfl) (by kernel_rfl) (by kernel_rfl) (fun _ _ _ h => h) (Or.inl ⟨by rfl, fun W' hW' => ?_⟩) hcum ?_
                  rotate_left 1
                  · go_simp
                    try rfl
                  try simp only [Act.put, List.setIfInBounds_toArray, List.set_cons_zero, List.set_cons_succ]
                  refine wpAnyH_take (i := 5) (oi := { dst := some 104, op := Op.load 23 (Operand.tmp 103), type := 23, pos := "law.go:73", after := #[{ on := 4, ground := Ground.data }, { on := 1, ground := Ground.guard }], guard := some (1, true) }) (v := ?_) rfl (by kernel_rfl) (by kernel_rfl) (by kernel_rfl) (fun _ _ _ h => h) (Or.inl ⟨by rfl, fun W' hW' => ?_⟩) hcum ?_
                  rotate_left 1
                  · (obtain ⟨x0, x1, x2, _, _, _⟩ := T4q.out.below hW'; have hlc := HLC.out _ hW'; go_simp)
                    try rfl
                  try simp only [Act.put, List.setIfInBounds_toArray, List.set_cons_zero, List.set_cons_succ]
                  refine wpAnyH_take (i := 6) (oi := { dst := some 105, op := Op.fieldAddr 29 (Operand.tmp 4) 0, type := 0, pos := "law.go:73", after := #[{ on := 1, ground := Ground.guard }], guard := some (1, true) }) (v := ?_) rfl (by kernel_rfl) (by kernel_rfl) (by kernel_rfl) (fun _ _ _ h => h) (Or.inl ⟨by rfl, fun W' hW' => ?_⟩) hcum ?_
                  rotate_left 1
                  · go_simp
                    try rfl
                  try simp only [Act.put, List.setIfInBounds_toArray, List.set_cons_zero, List.set_cons_succ]
                  refine wpAnyH_take (i := 7) (oi := { dst := some 106, op := Op.load 3 (Operand.tmp 105), type := 3, pos := "law.go:73", after := #[{ on := 6, ground := Ground.data }, { on := 1, ground := Ground.guard }], guard := some (1, true) }) (v := ?_) rfl (by kernel_rfl) (by kernel_rfl) (by kernel_rfl) (fun _ _ _ h => h) (Or.inl ⟨by rfl, fun W' hW' => ?_⟩) hcum ?_
                  rotate_left 1
                  · (obtain ⟨x0, x1, x2, _, _, _⟩ := T4q.out.below hW'; have hlc := HLC.out _ hW'; go_simp)
                    try rfl
                  try simp only [Act.put, List.setIfInBounds_toArray, List.set_cons_zero, List.set_cons_succ]
                  refine wpAnyH_take (i := 8) (oi := { dst := some 107, op := Op.fieldAddr 29 (Operand.tmp 4) 2, type := 0, pos := "law.go:73", after := #[{ on := 1, ground := Ground.guard }], guard := some (1, true) }) (v := ?_) rfl (by kernel_rfl) (by kernel_rfl) (by kernel_rfl) (fun _ _ _ h => h) (Or.inl ⟨by rfl, fun W' hW' => ?_⟩) hcum ?_
                  rotate_left 1
                  · go_simp
                    try rfl
                  try simp only [Act.put, List.setIfInBounds_toArray, List.set_cons_zero, List.set_cons_succ]
                  refine wpAnyH_take (i := 9) (oi := { dst := some 108, op := Op.load 3 (Operand.tmp 107), type := 3, pos := "law.go:73", after := #[{ on := 8, ground := Ground.data }, { on := 1, ground := Ground.guard }], guard := some (1, true) }) (v := ?_) rfl (by kernel_rfl) (by kernel_rfl) (by kernel_rfl) (fun _ _ _ h => h) (Or.inl ⟨by rfl, fun W' hW' => ?_⟩) hcum ?_
                  rotate_left 1
                  · (obtain ⟨x0, x1, x2, _, _, _⟩ := T4q.out.below hW'; have hlc := HLC.out _ hW'; go_simp)
                    try rfl
                  try simp only [Act.put, List.setIfInBounds_toArray, List.set_cons_zero, List.set_cons_succ]
                  refine wpAnyH_ready (rs := [10]) (by kernel_rfl) (by simp) ?_
                  refine AllReadyH.cons (o := { dst := some 109, op := Op.call { callee := Callee.value (Operand.func 20), args := #[Operand.tmp 104, Operand.tmp 106, Operand.tmp 108], argTypes := #[23, 3, 3] }, type := 4, pos := "law.go:73", after := #[{ on := 5, ground := Ground.data }, { on := 7, ground := Ground.data }, { on := 9, ground := Ground.data }, { on := 1, ground := Ground.chain }, { on := 1, ground := Ground.guard }], guard := some (1, true) }) rfl (fun KK hK => ?_) AllReadyH.nil
                  rw [if_pos (by rfl)]
                  go_simp
                  refine (refTexts_any z k (.slice Av l.length cv) l bb HFB.out V0 (HLv.out.below hcum) (by omega)).mono ?_
                  rintro e V1 ⟨rfl, hVV⟩
                  have hbe : Below V0.heap.size V0 V1 := hVV ▸ Below.refl _ _
                  clear hVV
                  have hcum := hcum.trans (hbe.mono hcum.size)
                  refine hK.out _ _ hcum (fun _ => ?_)
                  clear hK hbe
                  try simp only [Act.put, List.setIfInBounds_toArray, List.set_cons_zero, List.set_cons_succ]
                  refine wpAnyH_take (i := 11) (oi := { dst := some 110, op := Op.pick (Operand.tmp 100) (Operand.tmp 109) (Operand.const (Value.bool false)), type := 4, pos := "law.go:73", after := #[{ on := 1, ground := Ground.data }, { on := 10, ground := Ground.data }], guard := none }) (v := ?_) rfl (by kernel_rfl) (by kernel_rfl) (by kernel_rfl) (fun _ _ _ h => h) (Or.inl ⟨by rfl, fun W' hW' => ?_⟩) hcum ?_
                  rotate_left 1
                  · go_simp
                    try rfl
                  try simp only [Act.put, List.setIfInBounds_toArray, List.set_cons_zero, List.set_cons_succ]
                  refine wpAnyH_done (by kernel_rfl) ?_ _
                  go_wp2_with fail
                  go_meet
                  exact ⟨rfl, Lib.hid hcum⟩
              case rest =>
                obtain ⟨wt, rfl⟩ : ∃ wt : World, wt = wc := ⟨_, rfl⟩
                obtain ⟨rfl, HQ1⟩ := hcut
                go_upto_if 110 with fail
                go_cut [8, 15] from 110 to 116 (fun e8 d15 wx => e8 = .int .i64 eX ∧ Strs6 wx d15 (ifL bb (encL k m z l)) ∧ Hid (Below wq.heap.size wq wx))
                case first =>
                  cases bb
                  · have e1 : eX = 1 := HEX.out
                    subst e1
                    go_wp2_with fail
                    go_meet
                    exact ⟨rfl, RowIs.nil _ _ _ _, HQ1⟩
                  · have e1 : eX = 0 := HEX.out
                    have hr := HBB.out
                    rw [Bool.and_eq_true] at hr
                    obtain ⟨K, M, rfl, rfl, k1, k8, m6, z1, z2⟩ := mayB_yes hr.1
                    obtain ⟨f1, f2⟩ := fitB_all hr.2
                    have HLK : Hid (l.length = K) := by rw [Hid]; omega
                    have HLZ : Hid (∀ s ∈ l, s.size = z.toNat) := fun s hs => by have := f2 s hs; omega
                    have HKM : Hid (((K : Int) + (M : Int)).toNat = K + M) := by rw [Hid]; omega
                    subst e1
                    clear hr f1 f2
                    go_upto_region 25 with fail
                    refine wp_region_held (S := fun W' => Below wt.heap.size wt W') (by kernel_rfl) ?_
                    change wpAnyH _ _ _ _ _ 8 _ _ wt.drew
                    have hcum := (Below.refl wt.heap.size wt).drew
                    generalize wt.drew = V0 at *
                    refine wpAnyH_take (i := 0) (oi := { dst := some 111, op := Op.load 29 (Operand.tmp 4), type := 29, pos := "law.go:74", after := #[], guard := none }) (v := ?_) rfl (by kernel_rfl) (by kernel_rfl) (by kernel_rfl) (fun _ _ _ h => h) (Or.inl ⟨by rfl, fun W' hW' => ?_⟩) hcum ?_
                    rotate_left 1
                    · (obtain ⟨x0, x1, x2, _, _, _⟩ := T4q.out.below (HQ1.out.trans (hW'.mono HQ1.out.size)); have hlc := HLC.out _ (HQ1.out.trans (hW'.mono HQ1.out.size)); go_simp)
                      try rfl
                    try simp only [Act.put, List.setIfInBounds_toArray, List.set_cons_zero, List.set_cons_succ]
                    refine wpAnyH_take (i := 1) (oi := { dst := some 112, op := Op.move (Operand.tmp 10), type := 37, pos := "law.go:74", after := #[], guard := none }) (v := ?_) rfl (by kernel_rfl) (by kernel_rfl) (by kernel_rfl) (fun _ _ _ h => h) (Or.inl ⟨by rfl, fun W' hW' => ?_⟩) hcum ?_
                    rotate_left 1
                    · go_simp
                      try rfl
                    try simp only [Act.put, List.setIfInBounds_toArray, List.set_cons_zero, List.set_cons_succ]
                    refine wpAnyH_take (i := 2) (oi := { dst := some 113, op := Op.move (Operand.tmp 11), type := 3, pos := "law.go:74", after := #[], guard := none }) (v := ?_) rfl (by kernel_rfl) (by kernel_rfl) (by kernel_rfl) (fun _ _ _ h => h) (Or.inl ⟨by rfl, fun W' hW' => ?_⟩) hcum ?_
                    rotate_left 1
                    · go_simp
                      try rfl
                    try simp only [Act.put, List.setIfInBounds_toArray, List.set_cons_zero, List.set_cons_succ]
                    refine wpAnyH_take (i := 3) (oi := { dst := some 114, op := Op.indexAddr 37 (Operand.tmp 112) (Operand.tmp 113), type := 0, pos := "law.go:74", after := #[{ on := 1, ground := Ground.data }, { on := 2, ground := Ground.data }], guard := none }) (v := ?_) rfl (by kernel_rfl) (by kernel_rfl) (by kernel_rfl) (fun _ _ _ h => h) (Or.inl ⟨by rfl, fun W' hW' => ?_⟩) hcum ?_
                    rotate_left 1
                    · go_simp
                      try rfl
                    try simp only [Act.put, List.setIfInBounds_toArray, List.set_cons_zero, List.set_cons_succ]
                    refine wpAnyH_take (i := 4) (oi := { dst := some 115, op := Op.load 23 (Operand.tmp 114), type := 23, pos := "law.go:74", after := #[{ on := 3, ground := Ground.data }], guard := none }) (v := ?_) rfl (by kernel_rfl) (by kernel_rfl) (by kernel_rfl) (fun _ _ _ h => h) (Or.inl ⟨by rfl, fun W' hW' => ?_⟩) hcum ?_
                    rotate_left 1
                    · (obtain ⟨x0, x1, x2, _, _, _⟩ := T4q.out.below (HQ1.out.trans (hW'.mono HQ1.out.size)); have hlc := HLC.out _ (HQ1.out.trans (hW'.mono HQ1.out.size)); go_simp)
                      try rfl
                    try simp only [Act.put, List.setIfInBounds_toArray, List.set_cons_zero, List.set_cons_succ]
                    refine wpAnyH_ready (rs := [5]) (by kernel_rfl) (by simp) ?_
                    refine AllReadyH.cons (o := { dst := some 116, op := Op.call { callee := Callee.value (Operand.func 21), args := #[Operand.tmp 111, Operand.tmp 115], argTypes := #[29, 23] }, type := 23, pos := "law.go:74", after := #[{ on := 0, ground := Ground.data }, { on := 4, ground := Ground.data }], guard := none }) rfl (fun KK hK => ?_) AllReadyH.nil
                    rw [if_pos (by rfl)]
                    go_simp
                    refine (refEncode_any K M z (.slice Av l.length cv) l V0 k1 k8 m6 z1 z2 (HLv.out.below (HQ1.out.trans (hcum.mono HQ1.out.size))) HLK.out HLZ.out).mono ?_
                    rintro e V1 ⟨rd, rfl, hod, hbe⟩
                    obtain ⟨Ad, cd, rfl⟩ := own_shape hod
                    have hcum := hcum.trans (hbe.mono hcum.size)
                    refine hK.out _ _ hcum (fun _ => ?_)
                    clear hK hbe
                    try simp only [Act.put, List.setIfInBounds_toArray, List.set_cons_zero, List.set_cons_succ]
                    refine wpAnyH_take (i := 6) (oi := { dst := some 8, op := Op.assign (Operand.const (Value.int IntKind.i64 0)), type := 3, pos := "law.go:74", after := #[{ on := 5, ground := Ground.chain }, { on := 0, ground := Ground.textOnly Departure.lateStores }, { on := 1, ground := Ground.textOnly Departure.lateStores }, { on := 2, ground := Ground.textOnly Departure.lateStores }, { on := 3, ground := Ground.textOnly Departure.lateStores }, { on := 4, ground := Ground.textOnly Departure.lateStores }, { on := 5, ground := Ground.textOnly Departure.lateStoresUnsure }], guard := none }) (v := ?_) rfl (by kernel_rfl) (by kernel_rfl) (by kernel_rfl) (fun _ _ _ h => h) (Or.inl ⟨by rfl, fun W' hW' => ?_⟩) hcum ?_
                    rotate_left 1
                    · go_simp
                      try rfl
                    try simp only [Act.put, List.setIfInBounds_toArray, List.set_cons_zero, List.set_cons_succ]
                    refine wpAnyH_take (i := 7) (oi := { dst := some 15, op := Op.assign (Operand.tmp 116), type := 23, pos := "law.go:74", after := #[{ on := 5, ground := Ground.data }, { on := 6, ground := Ground.chain }, { on := 0, ground := Ground.phase }, { on := 1, ground := Ground.phase }, { on := 2, ground := Ground.phase }, { on := 3, ground := Ground.phase }, { on := 4, ground := Ground.phase }, { on := 5, ground := Ground.phase }, { on := 6, ground := Ground.phase }], guard := none }) (v := ?_) rfl (by kernel_rfl) (by kernel_rfl) (by kernel_rfl) (fun _ _ _ h => h) (Or.inl ⟨by rfl, fun W' hW' => ?_⟩) hcum ?_
                    rotate_left 1
                    · go_simp
                      try rfl
                    try simp only [Act.put, List.setIfInBounds_toArray, List.set_cons_zero, List.set_cons_succ]
                    refine wpAnyH_done (by kernel_rfl) ?_ _
                    go_wp2_with fail
                    go_meet
                    have hsd := RowIs.of_own hod
                    refine ⟨rfl, ?_, Lib.hid (HQ1.out.trans (hcum.mono HQ1.out.size))⟩
                    show RowIs _ _ (encL _ _ _ _).length 1 _
                    rw [encL_len, HKM.out]
                    exact hsd
                case rest =>
                  obtain ⟨wu, rfl⟩ : ∃ wu : World, wu = wc := ⟨_, rfl⟩
                  obtain ⟨rfl, hd15, HQ2⟩ := hcut
                  obtain ⟨Ad, cd, rfl⟩ := hd15.shape
                  have hx9 : xl.length ≤ 14 := by
                    rw [HXL.out, ifL]
                    split
                    · rename_i hbt
                      have hr := HBB.out
                      rw [hbt, Bool.and_eq_true] at hr
                      obtain ⟨K, M, rfl, rfl, k1, k8, m6, z1, z2⟩ := mayB_yes hr.1
                      rw [encL_len]
                      omega
                    · simp
                  rw [← HXL.out] at hd15
                  rw [← HXL.out]
                  have HD := Lib.hid hd15
                  have HXu : Hid (Strs6 wu (.slice Ax xl.length cx) xl) := (RowIs.of_own HOX.out).below HQ2.out
                  have HSiu := Lib.hid (HSiq.out.below HQ2.out)
                  have HLvu := Lib.hid (HLv.out.below HQ2.out)
                  have hlc := HLC.out _ HQ2.out
                  clear hd15
                  go_wp2_with (first | (go_at_call 15; refine (num4_any _ _).mono ?_; rintro e wn ⟨rfl, rfl⟩))
                  refine (eqStrs6_yes _ _ xl wu HXu.out HD.out (by omega)).mono ?_
                  rintro e wv ⟨rfl, hbv⟩
                  have HQ3 := Lib.hid (HQ2.out.trans (hbv.mono HQ2.out.size))
                  have HSiv := Lib.hid (HSiu.out.below hbv)
                  have HLvv := Lib.hid (HLvu.out.below hbv)
                  clear hbv hlc
                  have hlc := HLC.out _ HQ3.out
                  go_wp2_with fail
                  refine (eqStrs6_yes _ _ l wv HSiv.out HLvv.out (by omega)).mono ?_
                  rintro e ww ⟨rfl, hbw⟩
                  have HQ4 := Lib.hid (HQ3.out.trans (hbw.mono HQ3.out.size))
                  clear hbw hlc
                  -- the answer spoilt
                  go_wp2_with fail
                  refine (strings_any wh.heap.size (.slice Ax xl.length cx) ww ((Spoils.of_own HOX.out).below HQ4.out) (by rintro _ _ _ ⟨⟩; omega)).mono ?_
                  rintro e wy ⟨rfl, hby⟩
                  have HBy := Lib.hid ((HBq.out.trans (HQ4.out.mono HBq.out.size)).trans hby)
                  have HSiy := Lib.hid (HSi.out.below HBy.out)
                  have HBgy := Lib.hid (HBh.out.trans (HBy.out.mono HBh.out.size))
                  have HLvy := Lib.hid (HLv0.out.below HBgy.out)
                  have hlc := HLC0.out _ HBgy.out
                  clear hby
                  go_wp2_with fail
                  refine (eqStrs6_yes _ _ l wy HSiy.out HLvy.out (by omega)).mono ?_
                  rintro e wz ⟨rfl, hbz⟩
                  have HBn := Lib.hid (HBg.out.trans ((HBgy.out.trans (hbz.mono HBgy.out.size)).mono HBg.out.size))
                  clear hbz hlc
                  go_wp2_with fail
                  go_roundw
                  case rel => exact ⟨j + 1, by go_num, by omega, HBn⟩
                  case measure => simp [intOf]; omega
            · have hjd : decide ((j : Int) < (LL.length : Int)) = false := by simp; omega
              have HBn := Lib.hid (HBf.out.trans (HBg.out.mono HBf.out.size))
              go_wp2_with fail
              go_roundw
              case rel => exact ⟨i + 1, by go_num, by omega, HBn⟩
              case measure => simp [intOf]; omega
      · have hid : (decide ((i : Int) < (S.length : Int)) && decide ((i : Int) < 4)) = false := by simp; omega
        have HB2 := Lib.hid (HB1.out.trans (HB.out.mono HB1.out.size))
        by_cases h3 : i < S.length
        all_goals
          go_wp2_with fail
          refine (wakes4_any _).mono ?_
          rintro e w5 ⟨rfl, hb5⟩
          have hfin := HB2.out.trans (hb5.mono HB2.out.size)
          clear hb5
          go_wp2_with fail
          go_ret
          exact ⟨rfl, hfin⟩
  · go_wp2_with fail
    go_ret
    exact ⟨rfl, HB1.out⟩
end Go.Proofs.Ytdagnmhioellhaa
