/- CodeRebuilds: the law's walk. -/
import Derived.Test.YtdagnmhioellhaaPkA28
import Derived.Test.YtdagnmhioellhaaPkA29
import Derived.Test.YtdagnmhioellhaaPkA30
import Derived.Test.YtdagnmhioellhaaPkA31
import Derived.Test.YtdagnmhioellhaaPkA20
namespace Go.Proofs.Ytdagnmhioellhaa
open Go.ChangeShapes Go.WideShapes Go.ChangeAt Go.RowKit Go.Joins Go.Shelf
set_option linter.unusedVariables false
set_option linter.unusedSimpArgs false

set_option maxRecDepth 100000 in
set_option maxHeartbeats 40000000 in
theorem codeRebuilds_walk (c0 c1 c2 : Value) (S : List T3) (L : List ByteArray) (bs : List Bool) (w : World) (hS : ThreesIn w c0 S) (hL : TextsIn w c1 L) (hB : BoolsIn w c2 bs) (hS2 : S.length ≤ 9223372036854775807) :
    Calls Try.prog 5 #[.agg #[c0, c1, c2]] w fun e w' => e = .returned (.bool true) ∧ Below w.heap.size w w' := by
  obtain ⟨l0, hlb, hv0, hv1, hv2⟩ := info_parts infoBool
  have tA := Three.new w c0 c1 c2 26
  have hbe := (Below.refl w.heap.size w).alloc (Nat.le_refl _) (.cells #[c0, c1, c2] 26)
  have TA := Lib.hid tA
  have HBE := Lib.hid hbe
  have HS := Lib.hid (hS.below hbe)
  have HL := Lib.hid (hL.row.below hbe)
  have HHX := Lib.hid (heavy4_any c0 c1 c2 S L bs (w.alloc (.cells #[c0, c1, c2] 26)) (hS.below hbe) (hL.below hbe) (hB.below hbe) hS2)
  obtain ⟨A, c, rfl⟩ := hS.len
  obtain ⟨pL, kL, rfl⟩ := hL.row.shape
  have HBO := Lib.hid (hB.below hbe)
  obtain ⟨pb, cb, rfl, _⟩ := hB
  obtain ⟨a0, a1, a2, _, _, _⟩ := tA
  clear hbe hS hL
  go_enter Try.func5, Try.ntmps5
  go_wp2_with fail
  clear a0 a1 a2
  generalize w.alloc (.cells #[.slice A S.length c, .slice pL L.length kL, .slice pb bs.length cb] 26) = W0 at *
  refine HHX.out.mono ?_
  rintro e w1 ⟨bo, hfew, rfl, hb1⟩
  have TA1 := Lib.hid (TA.out.below hb1)
  have HS1 := Lib.hid (HS.out.below hb1)
  have HL1 := Lib.hid (HL.out.below hb1)
  have HBO1 := Lib.hid (HBO.out.below hb1)
  have HB1 := Lib.hid (HBE.out.trans (hb1.mono HBE.out.size))
  have HFW := Lib.hid hfew
  clear hb1 TA HS HL HHX HBO hfew
  cases bo
  · obtain ⟨ht4, hb100, hs50⟩ := HFW.out rfl
    have hLlen : L.length ≤ 4000 := by unfold total at ht4; omega
    have HSZ : Hid (∀ x ∈ L, x.size ≤ 100000) := fun x hx => by
      obtain ⟨q, hq, rfl⟩ := List.getElem_of_mem hx
      have h2 := total_get hq
      rw [← List.getElem_eq_getD (h := hq)] at h2
      omega
    clear HFW ht4
    go_wp2_with fail
    go_loopw [3] (fun nn wr => ∃ i : Nat, nn = .int .i64 i ∧ i ≤ 4 ∧ Hid (Below w1.heap.size w1 wr)) (fun nn _ => 4 - (intOf nn).toNat)
    case atStart => exact ⟨0, rfl, by omega, Lib.hid (Below.refl _ _)⟩
    case round =>
      obtain ⟨i, rfl, hi4, HB⟩ := hrel
      obtain ⟨a0, a1, a2, _, _, _⟩ := TA1.out.below HB.out
      by_cases hil : i < S.length ∧ i < 4
      · obtain ⟨hl0, hi3⟩ := hil
        have hid1 : decide ((i : Int) < (S.length : Int)) = true := by simp; omega
        have hid2 : decide ((i : Int) < 4) = true := by simp; omega
        have i0 : (0 : Int) ≤ (i : Int) := by omega
        have i1 : (i : Int) < (S.length : Int) := by omega
        obtain ⟨b, o, cS, e, s, hs, p0, p1, p2⟩ := (HS1.out.below HB.out).at_ hl0
        cases e
        obtain ⟨k, m, z⟩ := s
        dsimp only at p0 p1 p2
        clear hs
        have t4 := Three.new wr (.int .i64 k) (.int .i64 m) (.int .i64 z) 29
        obtain ⟨o4, ho4⟩ : ∃ o, o = (Obj.cells #[.int .i64 k, .int .i64 m, .int .i64 z] 29) := ⟨_, rfl⟩
        rw [← ho4] at t4
        have hb4 := (Below.refl wr.heap.size wr).alloc (Nat.le_refl _) o4
        have T4 := Lib.hid t4
        have HB4 := Lib.hid (HB.out.trans (hb4.mono HB.out.size))
        obtain ⟨x0, x1, x2, _, _, _⟩ := t4
        rw [ho4] at x0 x1 x2
        clear hb4
        go_upto_region 7 with fail
        rw [← ho4]
        clear x0 x1 x2 ho4 a0 a1 a2 p0 p1 p2
        generalize wr.alloc o4 = W4 at *
        generalize wr.heap.size = b4 at *
        obtain ⟨x0, x1, x2, _, _, _⟩ := T4.out
        -- whether it may be
        go_wp2_with fail
        refine (refShape_any k m z W4).mono ?_
        rintro e w5 ⟨rfl, hb5⟩
        obtain ⟨mb, hmb⟩ : ∃ mb, mb = mayB (k, m, z) := ⟨_, rfl⟩
        rw [← hmb]
        have HMB := Lib.hid hmb.symm
        have T5 := Lib.hid (T4.out.below hb5)
        have HB5 := Lib.hid (HB4.out.trans (hb5.mono HB4.out.size))
        clear hb5 hmb x0 x1 x2
        have T15 := Lib.hid (TA1.out.below HB5.out)
        have HL5 := Lib.hid (HL1.out.below HB5.out)
        obtain ⟨_, _, eB, hBS⟩ := HBO1.out.below HB5.out
        cases eB
        have HBS5 := Lib.hid hBS
        clear hBS
        cases mb
        · -- it may not be: both are refused
          obtain ⟨x0, x1, x2, _, _, _⟩ := T5.out
          obtain ⟨a0, a1, a2, _, _, _⟩ := T15.out
          go_wp2_with fail
          refine (rebuild_no k m z pL pb L.length bs.length kL cb w5 (Or.inl HMB.out)).mono ?_
          rintro e w6 ⟨rfl, hb6⟩
          have T6 := Lib.hid (T5.out.below hb6)
          have T16 := Lib.hid (T15.out.below hb6)
          have HL6 := Lib.hid (HL5.out.below hb6)
          have HB6 := Lib.hid (HB5.out.trans (hb6.mono HB5.out.size))
          clear hb6 x0 x1 x2 a0 a1 a2
          obtain ⟨x0, x1, x2, _, _, _⟩ := T6.out
          obtain ⟨a0, a1, a2, _, _, _⟩ := T16.out
          go_wp2_with fail
          refine (verify_all k m z (.slice pL L.length kL) L false (by rw [HMB.out]; rfl) w6 HL6.out (by omega) (fun h => by simp at h)).mono ?_
          rintro e w7 ⟨rfl, hb7⟩
          have HB7 := Lib.hid (HB6.out.trans (hb7.mono HB6.out.size))
          have hv : verB false k m z L = false := rfl
          have he : mulE false = 1 := rfl
          rw [hv, he]
          clear hb7 x0 x1 x2 a0 a1 a2 hv he
          go_wp2_with (first | (go_at_call 15; refine (num4_any _ _).mono ?_; rintro e wn ⟨rfl, rfl⟩))
          go_roundw
          case rel => exact ⟨i + 1, by go_num, by omega, HB7⟩
          case measure => simp [intOf]; omega
        · obtain ⟨K, M, rfl, rfl, k1, k8, m6, z1, z2⟩ := mayB_yes HMB.out
          obtain ⟨Z, rfl⟩ : ∃ Z : Nat, z = (Z : Int) := ⟨z.toNat, by omega⟩
          obtain ⟨n, hn⟩ : ∃ n, n = K + M := ⟨_, rfl⟩
          have wK : IntKind.i64.wrap ((K : Int) + (M : Int)) = (n : Int) := by rw [IntWalk.i64_in _ (by omega)]; omega
          have hn14 : n ≤ 14 := by omega
          have hn1 : 1 ≤ n := by omega
          have hKn : K ≤ n := by omega
          have HNN := Lib.hid hn
          have HNI : Hid (((K : Int) + (M : Int)).toNat = n) := by rw [Hid]; omega
          clear hn
          have hmk := hmkT (n := n) (by omega)
          obtain ⟨CT, hCT⟩ : ∃ C, C = Array.replicate n (Value.bool false) := ⟨_, rfl⟩
          rw [← hCT] at hmk
          have hT0 := World.ownsRow_lit (base := w5.heap.size) (e := 4) (size := 1) w5 CT n (Nat.le_refl _) (by unfold maxLen; omega) (by rw [hCT]; simp)
          have hT1 : CT.toList = (List.replicate n false).map Value.bool := by rw [hCT]; simp
          rw [hT1] at hT0
          have HT0 := Lib.hid hT0
          have HBT := Lib.hid ((Below.refl w5.heap.size w5).alloc (Nat.le_refl _) (.cells CT 4))
          obtain ⟨x0, x1, x2, _, _, _⟩ := T5.out
          clear hT0 hT1 hCT
          go_upto_block 2 with fail
          clear x0 x1 x2 hmk
          generalize w5.alloc (.cells CT 4) = W6 at *
          go_wp2_with fail
          go_loopw [11] (fun ii wr => ∃ (q : Nat) (T : List Bool), ii = .int .i64 q ∧ q ≤ n ∧ Hid (T.length = n) ∧ Hid (wr.ownsRow w5.heap.size 4 1 (.slice (some ⟨w5.heap.size, 0, none⟩) n n) n (T.map Value.bool)) ∧ Hid (Below w5.heap.size w5 wr)) (fun ii _ => n - (intOf ii).toNat)
          case atStart => exact ⟨0, List.replicate n false, rfl, by omega, Lib.hid (by simp), HT0, HBT⟩
          case round =>
            clear HT0 HBT
            obtain ⟨q, T, rfl, hqn, HTL, HO, HBq⟩ := hrel
            by_cases hlt : q < n
            · have hqd : decide ((q : Int) < (n : Int)) = true := by simp; omega
              have q0 : (0 : Int) ≤ (q : Int) := by omega
              have q1 : (q : Int) < (n : Int) := by omega
              by_cases hb0 : bs.length = 0
              · have hbd : ((bs.length : Int) == 0) = true := by simp [hb0]
                have hbd2 : (bs.length == 0) = true := by simp [hb0]
                clear hb0
                obtain ⟨xb, hxb⟩ : ∃ x : Bool, x = true := ⟨_, rfl⟩
                have HTn : Hid ((T.set q xb).length = n) := by rw [Hid, List.length_set]; exact HTL.out
                subst hxb
                go_upto_region 17 with fail
                refine wp_region_held (S := fun W' => Below w5.heap.size w5 W') (by kernel_rfl) ?_
                change wpAnyH _ _ _ _ _ 19 _ _ wr.drew
                have hcum := HBq.out.drew
                have hown := HO.out.drew
                have hq1 : q < (T.map Value.bool).length := by rw [List.length_map, HTL.out]; exact hlt
                obtain ⟨ub, hub⟩ : ∃ u, (T.map Value.bool)[q]? = some u := ⟨_, List.getElem?_eq_getElem hq1⟩
                have d1 : wr.drew.cell? ⟨w5.heap.size, q, none⟩ = some ub := by rw [hown.cellAt q (by omega)]; exact hub
                have d2 := hown.frozenAt q
                clear hq1 hub
                generalize wr.drew = V0 at *
                refine wpAnyH_take (i := 0) (oi := { dst := some 87, op := Op.move (Operand.tmp 10), type := 24, pos := "law.go:106", after := #[], guard := none }) (v := ?_) rfl (by kernel_rfl) (by kernel_rfl) (by kernel_rfl) (fun _ _ _ h => h) (Or.inl ⟨by rfl, fun W' hW' => ?_⟩) hcum ?_
                rotate_left 1
                · go_simp
                  try rfl
                try simp only [Act.put, List.setIfInBounds_toArray, List.set_cons_zero, List.set_cons_succ]
                refine wpAnyH_take (i := 1) (oi := { dst := some 88, op := Op.move (Operand.tmp 11), type := 3, pos := "law.go:106", after := #[], guard := none }) (v := ?_) rfl (by kernel_rfl) (by kernel_rfl) (by kernel_rfl) (fun _ _ _ h => h) (Or.inl ⟨by rfl, fun W' hW' => ?_⟩) hcum ?_
                rotate_left 1
                · go_simp
                  try rfl
                try simp only [Act.put, List.setIfInBounds_toArray, List.set_cons_zero, List.set_cons_succ]
                refine wpAnyH_take (i := 2) (oi := { dst := some 89, op := Op.fieldAddr 26 (Operand.tmp 1) 2, type := 0, pos := "law.go:106", after := #[], guard := none }) (v := ?_) rfl (by kernel_rfl) (by kernel_rfl) (by kernel_rfl) (fun _ _ _ h => h) (Or.inl ⟨by rfl, fun W' hW' => ?_⟩) hcum ?_
                rotate_left 1
                · go_simp
                  try rfl
                try simp only [Act.put, List.setIfInBounds_toArray, List.set_cons_zero, List.set_cons_succ]
                refine wpAnyH_take (i := 3) (oi := { dst := some 90, op := Op.load 24 (Operand.tmp 89), type := 24, pos := "law.go:106", after := #[{ on := 2, ground := Ground.data }], guard := none }) (v := ?_) rfl (by kernel_rfl) (by kernel_rfl) (by kernel_rfl) (fun _ _ _ h => h) (Or.inl ⟨by rfl, fun W' hW' => ?_⟩) hcum ?_
                rotate_left 1
                · (obtain ⟨a0, a1, a2, _, _, _⟩ := T15.out.below hW'; go_simp)
                  try rfl
                try simp only [Act.put, List.setIfInBounds_toArray, List.set_cons_zero, List.set_cons_succ]
                refine wpAnyH_take (i := 4) (oi := { dst := some 91, op := Op.call { callee := Callee.builtin Builtin.len, args := #[Operand.tmp 90], argTypes := #[24] }, type := 3, pos := "law.go:106", after := #[{ on := 3, ground := Ground.data }], guard := none }) (v := ?_) rfl (by kernel_rfl) (by kernel_rfl) (by kernel_rfl) (fun _ _ _ h => h) (Or.inl ⟨by rfl, fun W' hW' => ?_⟩) hcum ?_
                rotate_left 1
                · go_simp
                  try rfl
                try simp only [Act.put, List.setIfInBounds_toArray, List.set_cons_zero, List.set_cons_succ]
                refine wpAnyH_take (i := 5) (oi := { dst := some 92, op := Op.binOp BinOp.eql 3 (Operand.tmp 91) (Operand.const (Value.int IntKind.i64 0)) 3, type := 4, pos := "law.go:106", after := #[{ on := 4, ground := Ground.data }], guard := none }) (v := ?_) rfl (by kernel_rfl) (by kernel_rfl) (by kernel_rfl) (fun _ _ _ h => h) (Or.inl ⟨by rfl, fun W' hW' => ?_⟩) hcum ?_
                rotate_left 1
                · go_simp
                  try rfl
                try simp only [Act.put, List.setIfInBounds_toArray, List.set_cons_zero, List.set_cons_succ]
                refine wpAnyH_take (i := 6) (oi := { dst := some 93, op := Op.move (Operand.tmp 92), type := 4, pos := "law.go:106", after := #[{ on := 5, ground := Ground.data }], guard := none }) (v := ?_) rfl (by kernel_rfl) (by kernel_rfl) (by kernel_rfl) (fun _ _ _ h => h) (Or.inl ⟨by rfl, fun W' hW' => ?_⟩) hcum ?_
                rotate_left 1
                · go_simp
                  try rfl
                try simp only [Act.put, List.setIfInBounds_toArray, List.set_cons_zero, List.set_cons_succ]
                refine wpAnyH_take (i := 7) (oi := { dst := some 94, op := Op.fieldAddr 26 (Operand.tmp 1) 2, type := 0, pos := "law.go:106", after := #[{ on := 6, ground := Ground.guard }], guard := some (6, false) }) (v := undef) rfl (by kernel_rfl) (by kernel_rfl) (by kernel_rfl) (fun _ _ _ h => h) (Or.inr ⟨by rfl, rfl⟩) hcum ?_
                try simp only [Act.put, List.setIfInBounds_toArray, List.set_cons_zero, List.set_cons_succ]
                refine wpAnyH_take (i := 8) (oi := { dst := some 95, op := Op.load 24 (Operand.tmp 94), type := 24, pos := "law.go:106", after := #[{ on := 7, ground := Ground.data }, { on := 6, ground := Ground.guard }], guard := some (6, false) }) (v := undef) rfl (by kernel_rfl) (by kernel_rfl) (by kernel_rfl) (fun _ _ _ h => h) (Or.inr ⟨by rfl, rfl⟩) hcum ?_
                try simp only [Act.put, List.setIfInBounds_toArray, List.set_cons_zero, List.set_cons_succ]
                refine wpAnyH_take (i := 9) (oi := { dst := some 96, op := Op.move (Operand.tmp 11), type := 3, pos := "law.go:106", after := #[{ on := 6, ground := Ground.guard }], guard := some (6, false) }) (v := undef) rfl (by kernel_rfl) (by kernel_rfl) (by kernel_rfl) (fun _ _ _ h => h) (Or.inr ⟨by rfl, rfl⟩) hcum ?_
                try simp only [Act.put, List.setIfInBounds_toArray, List.set_cons_zero, List.set_cons_succ]
                refine wpAnyH_take (i := 10) (oi := { dst := some 97, op := Op.fieldAddr 26 (Operand.tmp 1) 2, type := 0, pos := "law.go:106", after := #[{ on := 6, ground := Ground.guard }], guard := some (6, false) }) (v := undef) rfl (by kernel_rfl) (by kernel_rfl) (by kernel_rfl) (fun _ _ _ h => h) (Or.inr ⟨by rfl, rfl⟩) hcum ?_
                try simp only [Act.put, List.setIfInBounds_toArray, List.set_cons_zero, List.set_cons_succ]
                refine wpAnyH_take (i := 11) (oi := { dst := some 98, op := Op.load 24 (Operand.tmp 97), type := 24, pos := "law.go:106", after := #[{ on := 10, ground := Ground.data }, { on := 6, ground := Ground.guard }], guard := some (6, false) }) (v := undef) rfl (by kernel_rfl) (by kernel_rfl) (by kernel_rfl) (fun _ _ _ h => h) (Or.inr ⟨by rfl, rfl⟩) hcum ?_
                try simp only [Act.put, List.setIfInBounds_toArray, List.set_cons_zero, List.set_cons_succ]
                refine wpAnyH_take (i := 12) (oi := { dst := some 99, op := Op.call { callee := Callee.builtin Builtin.len, args := #[Operand.tmp 98], argTypes := #[24] }, type := 3, pos := "law.go:106", after := #[{ on := 11, ground := Ground.data }, { on := 6, ground := Ground.guard }], guard := some (6, false) }) (v := undef) rfl (by kernel_rfl) (by kernel_rfl) (by kernel_rfl) (fun _ _ _ h => h) (Or.inr ⟨by rfl, rfl⟩) hcum ?_
                try simp only [Act.put, List.setIfInBounds_toArray, List.set_cons_zero, List.set_cons_succ]
                refine wpAnyH_take (i := 13) (oi := { dst := some 100, op := Op.binOp BinOp.rem 3 (Operand.tmp 96) (Operand.tmp 99) 3, type := 3, pos := "law.go:106", after := #[{ on := 9, ground := Ground.data }, { on := 12, ground := Ground.data }, { on := 6, ground := Ground.guard }], guard := some (6, false) }) (v := undef) rfl (by kernel_rfl) (by kernel_rfl) (by kernel_rfl) (fun _ _ _ h => h) (Or.inr ⟨by rfl, rfl⟩) hcum ?_
                try simp only [Act.put, List.setIfInBounds_toArray, List.set_cons_zero, List.set_cons_succ]
                refine wpAnyH_take (i := 14) (oi := { dst := some 101, op := Op.indexAddr 24 (Operand.tmp 95) (Operand.tmp 100), type := 0, pos := "law.go:106", after := #[{ on := 8, ground := Ground.data }, { on := 13, ground := Ground.data }, { on := 6, ground := Ground.guard }], guard := some (6, false) }) (v := undef) rfl (by kernel_rfl) (by kernel_rfl) (by kernel_rfl) (fun _ _ _ h => h) (Or.inr ⟨by rfl, rfl⟩) hcum ?_
                try simp only [Act.put, List.setIfInBounds_toArray, List.set_cons_zero, List.set_cons_succ]
                refine wpAnyH_take (i := 15) (oi := { dst := some 102, op := Op.load 4 (Operand.tmp 101), type := 4, pos := "law.go:106", after := #[{ on := 14, ground := Ground.data }, { on := 6, ground := Ground.guard }], guard := some (6, false) }) (v := undef) rfl (by kernel_rfl) (by kernel_rfl) (by kernel_rfl) (fun _ _ _ h => h) (Or.inr ⟨by rfl, rfl⟩) hcum ?_
                try simp only [Act.put, List.setIfInBounds_toArray, List.set_cons_zero, List.set_cons_succ]
                refine wpAnyH_take (i := 16) (oi := { dst := some 103, op := Op.pick (Operand.tmp 93) (Operand.const (Value.bool true)) (Operand.tmp 102), type := 4, pos := "law.go:106", after := #[{ on := 6, ground := Ground.data }, { on := 15, ground := Ground.data }], guard := none }) (v := ?_) rfl (by kernel_rfl) (by kernel_rfl) (by kernel_rfl) (fun _ _ _ h => h) (Or.inl ⟨by rfl, fun W' hW' => ?_⟩) hcum ?_
                rotate_left 1
                · go_simp
                  try rfl
                try simp only [Act.put, List.setIfInBounds_toArray, List.set_cons_zero, List.set_cons_succ]
                refine wpAnyH_take (i := 17) (oi := { dst := some 104, op := Op.indexAddr 24 (Operand.tmp 87) (Operand.tmp 88), type := 0, pos := "law.go:106", after := #[{ on := 0, ground := Ground.data }, { on := 1, ground := Ground.data }, { on := 0, ground := Ground.phase }, { on := 1, ground := Ground.phase }, { on := 2, ground := Ground.phase }, { on := 3, ground := Ground.phase }, { on := 4, ground := Ground.phase }, { on := 5, ground := Ground.phase }, { on := 6, ground := Ground.phase }, { on := 7, ground := Ground.phase }, { on := 8, ground := Ground.phase }, { on := 9, ground := Ground.phase }, { on := 10, ground := Ground.phase }, { on := 11, ground := Ground.phase }, { on := 12, ground := Ground.phase }, { on := 13, ground := Ground.phase }, { on := 14, ground := Ground.phase }, { on := 15, ground := Ground.phase }, { on := 16, ground := Ground.phase }], guard := none }) (v := ?_) rfl (by kernel_rfl) (by kernel_rfl) (by kernel_rfl) (fun _ _ _ h => h) (Or.inl ⟨by rfl, fun W' hW' => ?_⟩) hcum ?_
                rotate_left 1
                · go_simp
                  try rfl
                try simp only [Act.put, List.setIfInBounds_toArray, List.set_cons_zero, List.set_cons_succ]
                refine wpAnyH_ready (rs := [18]) (by kernel_rfl) (by simp) ?_
                refine AllReadyH.cons (o := { dst := none, op := Op.store 4 (Operand.tmp 104) (Operand.tmp 103), type := 0, pos := "law.go:106", after := #[{ on := 17, ground := Ground.data }, { on := 16, ground := Ground.data }, { on := 6, ground := Ground.chain }, { on := 0, ground := Ground.phase }, { on := 1, ground := Ground.phase }, { on := 2, ground := Ground.phase }, { on := 3, ground := Ground.phase }, { on := 4, ground := Ground.phase }, { on := 5, ground := Ground.phase }, { on := 6, ground := Ground.phase }, { on := 7, ground := Ground.phase }, { on := 8, ground := Ground.phase }, { on := 9, ground := Ground.phase }, { on := 10, ground := Ground.phase }, { on := 11, ground := Ground.phase }, { on := 12, ground := Ground.phase }, { on := 13, ground := Ground.phase }, { on := 14, ground := Ground.phase }, { on := 15, ground := Ground.phase }, { on := 16, ground := Ground.phase }], guard := none }) rfl (fun KK hK => ?_) AllReadyH.nil
                rw [if_pos (by rfl)]
                go_simp
                clear d1 d2
                have hown := (hown.stored q (.bool true)).1
                rw [← List.map_set] at hown
                replace hcum := hcum.setCell (p := ⟨w5.heap.size, q, none⟩) (Nat.le_refl _) (.bool true)
                refine hK.out _ _ hcum (fun _ => ?_)
                clear hK
                generalize V0.setCell ⟨w5.heap.size, q, none⟩ (.bool true) = V1 at *
                try simp only [Act.put, List.setIfInBounds_toArray, List.set_cons_zero, List.set_cons_succ]
                refine wpAnyH_done (by kernel_rfl) ?_ _
                go_wp2_with fail
                go_roundw
                case rel => exact ⟨q + 1, T.set q true, by go_num, by omega, HTn, Lib.hid hown, Lib.hid hcum⟩
                case measure => simp [intOf]; omega
              · have hbd : ((bs.length : Int) == 0) = false := by rw [beq_eq_false_iff_ne]; omega
                obtain ⟨r, hr⟩ : ∃ r, r = q % bs.length := ⟨_, rfl⟩
                have hrl : r < bs.length := by rw [hr]; exact Nat.mod_lt _ (by omega)
                have e1 : (q : Int).tmod (bs.length : Int) = (r : Int) := by rw [Int.tmod_eq_emod_of_nonneg (by omega), hr]; exact (Int.natCast_emod q bs.length).symm
                have r0 : (0 : Int) ≤ (r : Int) := by omega
                have r1 : (r : Int) < (bs.length : Int) := by omega
                clear hr
                obtain ⟨bb, ob, hpb, hbb, hbcell0⟩ := HBS5.out.2 r hrl
                subst hpb
                dsimp only at hbcell0
                generalize bs.getD r false = xb at *
                have HPC : Hid (∀ W', Below w5.heap.size w5 W' → W'.cell? ⟨bb, ob + r, none⟩ = some (.bool xb)) := fun W' h => below_celllt hbcell0 hbb h
                have HTn : Hid ((T.set q xb).length = n) := by rw [Hid, List.length_set]; exact HTL.out
                clear hbcell0
                go_upto_region 17 with fail
                refine wp_region_held (S := fun W' => Below w5.heap.size w5 W') (by kernel_rfl) ?_
                change wpAnyH _ _ _ _ _ 19 _ _ wr.drew
                have hcum := HBq.out.drew
                have hown := HO.out.drew
                have hq1 : q < (T.map Value.bool).length := by rw [List.length_map, HTL.out]; exact hlt
                obtain ⟨ub, hub⟩ : ∃ u, (T.map Value.bool)[q]? = some u := ⟨_, List.getElem?_eq_getElem hq1⟩
                have d1 : wr.drew.cell? ⟨w5.heap.size, q, none⟩ = some ub := by rw [hown.cellAt q (by omega)]; exact hub
                have d2 := hown.frozenAt q
                clear hq1 hub
                generalize wr.drew = V0 at *
                refine wpAnyH_take (i := 0) (oi := { dst := some 87, op := Op.move (Operand.tmp 10), type := 24, pos := "law.go:106", after := #[], guard := none }) (v := ?_) rfl (by kernel_rfl) (by kernel_rfl) (by kernel_rfl) (fun _ _ _ h => h) (Or.inl ⟨by rfl, fun W' hW' => ?_⟩) hcum ?_
                rotate_left 1
                · go_simp
                  try rfl
                try simp only [Act.put, List.setIfInBounds_toArray, List.set_cons_zero, List.set_cons_succ]
                refine wpAnyH_take (i := 1) (oi := { dst := some 88, op := Op.move (Operand.tmp 11), type := 3, pos := "law.go:106", after := #[], guard := none }) (v := ?_) rfl (by kernel_rfl) (by kernel_rfl) (by kernel_rfl) (fun _ _ _ h => h) (Or.inl ⟨by rfl, fun W' hW' => ?_⟩) hcum ?_
                rotate_left 1
                · go_simp
                  try rfl
                try simp only [Act.put, List.setIfInBounds_toArray, List.set_cons_zero, List.set_cons_succ]
                refine wpAnyH_take (i := 2) (oi := { dst := some 89, op := Op.fieldAddr 26 (Operand.tmp 1) 2, type := 0, pos := "law.go:106", after := #[], guard := none }) (v := ?_) rfl (by kernel_rfl) (by kernel_rfl) (by kernel_rfl) (fun _ _ _ h => h) (Or.inl ⟨by rfl, fun W' hW' => ?_⟩) hcum ?_
                rotate_left 1
                · go_simp
                  try rfl
                try simp only [Act.put, List.setIfInBounds_toArray, List.set_cons_zero, List.set_cons_succ]
                refine wpAnyH_take (i := 3) (oi := { dst := some 90, op := Op.load 24 (Operand.tmp 89), type := 24, pos := "law.go:106", after := #[{ on := 2, ground := Ground.data }], guard := none }) (v := ?_) rfl (by kernel_rfl) (by kernel_rfl) (by kernel_rfl) (fun _ _ _ h => h) (Or.inl ⟨by rfl, fun W' hW' => ?_⟩) hcum ?_
                rotate_left 1
                · (obtain ⟨a0, a1, a2, _, _, _⟩ := T15.out.below hW'; have hpc := HPC.out _ hW'; go_simp)
                  try rfl
                try simp only [Act.put, List.setIfInBounds_toArray, List.set_cons_zero, List.set_cons_succ]
                refine wpAnyH_take (i := 4) (oi := { dst := some 91, op := Op.call { callee := Callee.builtin Builtin.len, args := #[Operand.tmp 90], argTypes := #[24] }, type := 3, pos := "law.go:106", after := #[{ on := 3, ground := Ground.data }], guard := none }) (v := ?_) rfl (by kernel_rfl) (by kernel_rfl) (by kernel_rfl) (fun _ _ _ h => h) (Or.inl ⟨by rfl, fun W' hW' => ?_⟩) hcum ?_
                rotate_left 1
                · go_simp
                  try rfl
                try simp only [Act.put, List.setIfInBounds_toArray, List.set_cons_zero, List.set_cons_succ]
                refine wpAnyH_take (i := 5) (oi := { dst := some 92, op := Op.binOp BinOp.eql 3 (Operand.tmp 91) (Operand.const (Value.int IntKind.i64 0)) 3, type := 4, pos := "law.go:106", after := #[{ on := 4, ground := Ground.data }], guard := none }) (v := ?_) rfl (by kernel_rfl) (by kernel_rfl) (by kernel_rfl) (fun _ _ _ h => h) (Or.inl ⟨by rfl, fun W' hW' => ?_⟩) hcum ?_
                rotate_left 1
                · go_simp
                  try rfl
                try simp only [Act.put, List.setIfInBounds_toArray, List.set_cons_zero, List.set_cons_succ]
                refine wpAnyH_take (i := 6) (oi := { dst := some 93, op := Op.move (Operand.tmp 92), type := 4, pos := "law.go:106", after := #[{ on := 5, ground := Ground.data }], guard := none }) (v := ?_) rfl (by kernel_rfl) (by kernel_rfl) (by kernel_rfl) (fun _ _ _ h => h) (Or.inl ⟨by rfl, fun W' hW' => ?_⟩) hcum ?_
                rotate_left 1
                · go_simp
                  try rfl
                try simp only [Act.put, List.setIfInBounds_toArray, List.set_cons_zero, List.set_cons_succ]
                refine wpAnyH_take (i := 7) (oi := { dst := some 94, op := Op.fieldAddr 26 (Operand.tmp 1) 2, type := 0, pos := "law.go:106", after := #[{ on := 6, ground := Ground.guard }], guard := some (6, false) }) (v := ?_) rfl (by kernel_rfl) (by kernel_rfl) (by kernel_rfl) (fun _ _ _ h => h) (Or.inl ⟨by rfl, fun W' hW' => ?_⟩) hcum ?_
                rotate_left 1
                · go_simp
                  try rfl
                try simp only [Act.put, List.setIfInBounds_toArray, List.set_cons_zero, List.set_cons_succ]
                refine wpAnyH_take (i := 8) (oi := { dst := some 95, op := Op.load 24 (Operand.tmp 94), type := 24, pos := "law.go:106", after := #[{ on := 7, ground := Ground.data }, { on := 6, ground := Ground.guard }], guard := some (6, false) }) (v := ?_) rfl (by kernel_rfl) (by kernel_rfl) (by kernel_rfl) (fun _ _ _ h => h) (Or.inl ⟨by rfl, fun W' hW' => ?_⟩) hcum ?_
                rotate_left 1
                · (obtain ⟨a0, a1, a2, _, _, _⟩ := T15.out.below hW'; have hpc := HPC.out _ hW'; go_simp)
                  try rfl
                try simp only [Act.put, List.setIfInBounds_toArray, List.set_cons_zero, List.set_cons_succ]
                refine wpAnyH_take (i := 9) (oi := { dst := some 96, op := Op.move (Operand.tmp 11), type := 3, pos := "law.go:106", after := #[{ on := 6, ground := Ground.guard }], guard := some (6, false) }) (v := ?_) rfl (by kernel_rfl) (by kernel_rfl) (by kernel_rfl) (fun _ _ _ h => h) (Or.inl ⟨by rfl, fun W' hW' => ?_⟩) hcum ?_
                rotate_left 1
                · go_simp
                  try rfl
                try simp only [Act.put, List.setIfInBounds_toArray, List.set_cons_zero, List.set_cons_succ]
                refine wpAnyH_take (i := 10) (oi := { dst := some 97, op := Op.fieldAddr 26 (Operand.tmp 1) 2, type := 0, pos := "law.go:106", after := #[{ on := 6, ground := Ground.guard }], guard := some (6, false) }) (v := ?_) rfl (by kernel_rfl) (by kernel_rfl) (by kernel_rfl) (fun _ _ _ h => h) (Or.inl ⟨by rfl, fun W' hW' => ?_⟩) hcum ?_
                rotate_left 1
                · go_simp
                  try rfl
                try simp only [Act.put, List.setIfInBounds_toArray, List.set_cons_zero, List.set_cons_succ]
                refine wpAnyH_take (i := 11) (oi := { dst := some 98, op := Op.load 24 (Operand.tmp 97), type := 24, pos := "law.go:106", after := #[{ on := 10, ground := Ground.data }, { on := 6, ground := Ground.guard }], guard := some (6, false) }) (v := ?_) rfl (by kernel_rfl) (by kernel_rfl) (by kernel_rfl) (fun _ _ _ h => h) (Or.inl ⟨by rfl, fun W' hW' => ?_⟩) hcum ?_
                rotate_left 1
                · (obtain ⟨a0, a1, a2, _, _, _⟩ := T15.out.below hW'; have hpc := HPC.out _ hW'; go_simp)
                  try rfl
                try simp only [Act.put, List.setIfInBounds_toArray, List.set_cons_zero, List.set_cons_succ]
                refine wpAnyH_take (i := 12) (oi := { dst := some 99, op := Op.call { callee := Callee.builtin Builtin.len, args := #[Operand.tmp 98], argTypes := #[24] }, type := 3, pos := "law.go:106", after := #[{ on := 11, ground := Ground.data }, { on := 6, ground := Ground.guard }], guard := some (6, false) }) (v := ?_) rfl (by kernel_rfl) (by kernel_rfl) (by kernel_rfl) (fun _ _ _ h => h) (Or.inl ⟨by rfl, fun W' hW' => ?_⟩) hcum ?_
                rotate_left 1
                · go_simp
                  try rfl
                try simp only [Act.put, List.setIfInBounds_toArray, List.set_cons_zero, List.set_cons_succ]
                refine wpAnyH_take (i := 13) (oi := { dst := some 100, op := Op.binOp BinOp.rem 3 (Operand.tmp 96) (Operand.tmp 99) 3, type := 3, pos := "law.go:106", after := #[{ on := 9, ground := Ground.data }, { on := 12, ground := Ground.data }, { on := 6, ground := Ground.guard }], guard := some (6, false) }) (v := ?_) rfl (by kernel_rfl) (by kernel_rfl) (by kernel_rfl) (fun _ _ _ h => h) (Or.inl ⟨by rfl, fun W' hW' => ?_⟩) hcum ?_
                rotate_left 1
                · go_simp
                  try rfl
                try simp only [Act.put, List.setIfInBounds_toArray, List.set_cons_zero, List.set_cons_succ]
                refine wpAnyH_take (i := 14) (oi := { dst := some 101, op := Op.indexAddr 24 (Operand.tmp 95) (Operand.tmp 100), type := 0, pos := "law.go:106", after := #[{ on := 8, ground := Ground.data }, { on := 13, ground := Ground.data }, { on := 6, ground := Ground.guard }], guard := some (6, false) }) (v := ?_) rfl (by kernel_rfl) (by kernel_rfl) (by kernel_rfl) (fun _ _ _ h => h) (Or.inl ⟨by rfl, fun W' hW' => ?_⟩) hcum ?_
                rotate_left 1
                · go_simp
                  try rfl
                try simp only [Act.put, List.setIfInBounds_toArray, List.set_cons_zero, List.set_cons_succ]
                refine wpAnyH_take (i := 15) (oi := { dst := some 102, op := Op.load 4 (Operand.tmp 101), type := 4, pos := "law.go:106", after := #[{ on := 14, ground := Ground.data }, { on := 6, ground := Ground.guard }], guard := some (6, false) }) (v := ?_) rfl (by kernel_rfl) (by kernel_rfl) (by kernel_rfl) (fun _ _ _ h => h) (Or.inl ⟨by rfl, fun W' hW' => ?_⟩) hcum ?_
                rotate_left 1
                · (obtain ⟨a0, a1, a2, _, _, _⟩ := T15.out.below hW'; have hpc := HPC.out _ hW'; go_simp)
                  try rfl
                try simp only [Act.put, List.setIfInBounds_toArray, List.set_cons_zero, List.set_cons_succ]
                refine wpAnyH_take (i := 16) (oi := { dst := some 103, op := Op.pick (Operand.tmp 93) (Operand.const (Value.bool true)) (Operand.tmp 102), type := 4, pos := "law.go:106", after := #[{ on := 6, ground := Ground.data }, { on := 15, ground := Ground.data }], guard := none }) (v := ?_) rfl (by kernel_rfl) (by kernel_rfl) (by kernel_rfl) (fun _ _ _ h => h) (Or.inl ⟨by rfl, fun W' hW' => ?_⟩) hcum ?_
                rotate_left 1
                · go_simp
                  try rfl
                try simp only [Act.put, List.setIfInBounds_toArray, List.set_cons_zero, List.set_cons_succ]
                refine wpAnyH_take (i := 17) (oi := { dst := some 104, op := Op.indexAddr 24 (Operand.tmp 87) (Operand.tmp 88), type := 0, pos := "law.go:106", after := #[{ on := 0, ground := Ground.data }, { on := 1, ground := Ground.data }, { on := 0, ground := Ground.phase }, { on := 1, ground := Ground.phase }, { on := 2, ground := Ground.phase }, { on := 3, ground := Ground.phase }, { on := 4, ground := Ground.phase }, { on := 5, ground := Ground.phase }, { on := 6, ground := Ground.phase }, { on := 7, ground := Ground.phase }, { on := 8, ground := Ground.phase }, { on := 9, ground := Ground.phase }, { on := 10, ground := Ground.phase }, { on := 11, ground := Ground.phase }, { on := 12, ground := Ground.phase }, { on := 13, ground := Ground.phase }, { on := 14, ground := Ground.phase }, { on := 15, ground := Ground.phase }, { on := 16, ground := Ground.phase }], guard := none }) (v := ?_) rfl (by kernel_rfl) (by kernel_rfl) (by kernel_rfl) (fun _ _ _ h => h) (Or.inl ⟨by rfl, fun W' hW' => ?_⟩) hcum ?_
                rotate_left 1
                · go_simp
                  try rfl
                try simp only [Act.put, List.setIfInBounds_toArray, List.set_cons_zero, List.set_cons_succ]
                refine wpAnyH_ready (rs := [18]) (by kernel_rfl) (by simp) ?_
                refine AllReadyH.cons (o := { dst := none, op := Op.store 4 (Operand.tmp 104) (Operand.tmp 103), type := 0, pos := "law.go:106", after := #[{ on := 17, ground := Ground.data }, { on := 16, ground := Ground.data }, { on := 6, ground := Ground.chain }, { on := 0, ground := Ground.phase }, { on := 1, ground := Ground.phase }, { on := 2, ground := Ground.phase }, { on := 3, ground := Ground.phase }, { on := 4, ground := Ground.phase }, { on := 5, ground := Ground.phase }, { on := 6, ground := Ground.phase }, { on := 7, ground := Ground.phase }, { on := 8, ground := Ground.phase }, { on := 9, ground := Ground.phase }, { on := 10, ground := Ground.phase }, { on := 11, ground := Ground.phase }, { on := 12, ground := Ground.phase }, { on := 13, ground := Ground.phase }, { on := 14, ground := Ground.phase }, { on := 15, ground := Ground.phase }, { on := 16, ground := Ground.phase }], guard := none }) rfl (fun KK hK => ?_) AllReadyH.nil
                rw [if_pos (by rfl)]
                go_simp
                clear d1 d2
                have hown := (hown.stored q (.bool xb)).1
                rw [← List.map_set] at hown
                replace hcum := hcum.setCell (p := ⟨w5.heap.size, q, none⟩) (Nat.le_refl _) (.bool xb)
                refine hK.out _ _ hcum (fun _ => ?_)
                clear hK
                generalize V0.setCell ⟨w5.heap.size, q, none⟩ (.bool xb) = V1 at *
                try simp only [Act.put, List.setIfInBounds_toArray, List.set_cons_zero, List.set_cons_succ]
                refine wpAnyH_done (by kernel_rfl) ?_ _
                go_wp2_with fail
                go_roundw
                case rel => exact ⟨q + 1, T.set q xb, by go_num, by omega, HTn, Lib.hid hown, Lib.hid hcum⟩
                case measure => simp [intOf]; omega
            · have hqe : q = n := by omega
              have hqd : decide ((q : Int) < (n : Int)) = false := by simp; omega
              clear hqe hqn
              have T1r := Lib.hid (T15.out.below HBq.out)
              have T4r := Lib.hid (T5.out.below HBq.out)
              have HLr := Lib.hid (HL5.out.below HBq.out)
              have HBr := Lib.hid (HB5.out.trans (HBq.out.mono HB5.out.size))
              have HTr : Hid (BoolsIn wr (.slice (some ⟨w5.heap.size, 0, none⟩) n n) T) := boolsIn_own (by rw [HTL.out]; exact HO.out) (by rw [HTL.out]; omega)
              clear HO HBq
              generalize w5.heap.size = b0 at *
              go_upto_region 18 with fail
              go_cut [12] from 105 to 113 (fun p12 wx => ∃ (P : List ByteArray), wx.ownsRow wr.heap.size 9 1 p12 n (P.map Value.string) ∧ Hid (P.length = n) ∧ Hid (∀ s ∈ P, s.size = Z) ∧ Hid (Below wr.heap.size wr wx))
              case first =>
                as_aux_lemma =>
                  refine wp_region_held (S := fun W' => Below wr.heap.size wr W') (by kernel_rfl) ?_
                  change wpAnyH _ _ _ _ _ 10 _ _ wr.drew
                  have hcum := (Below.refl wr.heap.size wr).drew
                  generalize wr.drew = V0 at *
                  refine wpAnyH_take (i := 0) (oi := { dst := some 105, op := Op.load 29 (Operand.tmp 4), type := 29, pos := "law.go:108", after := #[], guard := none }) (v := ?_) rfl (by kernel_rfl) (by kernel_rfl) (by kernel_rfl) (fun _ _ _ h => h) (Or.inl ⟨by rfl, fun W' hW' => ?_⟩) hcum ?_
                  rotate_left 1
                  · (obtain ⟨a0, a1, a2, _, _, _⟩ := T1r.out.below hW'; obtain ⟨x0, x1, x2, _, _, _⟩ := T4r.out.below hW'; go_simp)
                    try rfl
                  try simp only [Act.put, List.setIfInBounds_toArray, List.set_cons_zero, List.set_cons_succ]
                  refine wpAnyH_take (i := 1) (oi := { dst := some 106, op := Op.fieldAddr 26 (Operand.tmp 1) 1, type := 0, pos := "law.go:108", after := #[], guard := none }) (v := ?_) rfl (by kernel_rfl) (by kernel_rfl) (by kernel_rfl) (fun _ _ _ h => h) (Or.inl ⟨by rfl, fun W' hW' => ?_⟩) hcum ?_
                  rotate_left 1
                  · go_simp
                    try rfl
                  try simp only [Act.put, List.setIfInBounds_toArray, List.set_cons_zero, List.set_cons_succ]
                  refine wpAnyH_take (i := 2) (oi := { dst := some 107, op := Op.load 23 (Operand.tmp 106), type := 23, pos := "law.go:108", after := #[{ on := 1, ground := Ground.data }], guard := none }) (v := ?_) rfl (by kernel_rfl) (by kernel_rfl) (by kernel_rfl) (fun _ _ _ h => h) (Or.inl ⟨by rfl, fun W' hW' => ?_⟩) hcum ?_
                  rotate_left 1
                  · (obtain ⟨a0, a1, a2, _, _, _⟩ := T1r.out.below hW'; obtain ⟨x0, x1, x2, _, _, _⟩ := T4r.out.below hW'; go_simp)
                    try rfl
                  try simp only [Act.put, List.setIfInBounds_toArray, List.set_cons_zero, List.set_cons_succ]
                  refine wpAnyH_take (i := 3) (oi := { dst := some 108, op := Op.fieldAddr 29 (Operand.tmp 4) 0, type := 0, pos := "law.go:108", after := #[], guard := none }) (v := ?_) rfl (by kernel_rfl) (by kernel_rfl) (by kernel_rfl) (fun _ _ _ h => h) (Or.inl ⟨by rfl, fun W' hW' => ?_⟩) hcum ?_
                  rotate_left 1
                  · go_simp
                    try rfl
                  try simp only [Act.put, List.setIfInBounds_toArray, List.set_cons_zero, List.set_cons_succ]
                  refine wpAnyH_take (i := 4) (oi := { dst := some 109, op := Op.load 3 (Operand.tmp 108), type := 3, pos := "law.go:108", after := #[{ on := 3, ground := Ground.data }], guard := none }) (v := ?_) rfl (by kernel_rfl) (by kernel_rfl) (by kernel_rfl) (fun _ _ _ h => h) (Or.inl ⟨by rfl, fun W' hW' => ?_⟩) hcum ?_
                  rotate_left 1
                  · (obtain ⟨a0, a1, a2, _, _, _⟩ := T1r.out.below hW'; obtain ⟨x0, x1, x2, _, _, _⟩ := T4r.out.below hW'; go_simp)
                    try rfl
                  try simp only [Act.put, List.setIfInBounds_toArray, List.set_cons_zero, List.set_cons_succ]
                  refine wpAnyH_take (i := 5) (oi := { dst := some 110, op := Op.fieldAddr 29 (Operand.tmp 4) 2, type := 0, pos := "law.go:108", after := #[], guard := none }) (v := ?_) rfl (by kernel_rfl) (by kernel_rfl) (by kernel_rfl) (fun _ _ _ h => h) (Or.inl ⟨by rfl, fun W' hW' => ?_⟩) hcum ?_
                  rotate_left 1
                  · go_simp
                    try rfl
                  try simp only [Act.put, List.setIfInBounds_toArray, List.set_cons_zero, List.set_cons_succ]
                  refine wpAnyH_take (i := 6) (oi := { dst := some 111, op := Op.load 3 (Operand.tmp 110), type := 3, pos := "law.go:108", after := #[{ on := 5, ground := Ground.data }], guard := none }) (v := ?_) rfl (by kernel_rfl) (by kernel_rfl) (by kernel_rfl) (fun _ _ _ h => h) (Or.inl ⟨by rfl, fun W' hW' => ?_⟩) hcum ?_
                  rotate_left 1
                  · (obtain ⟨a0, a1, a2, _, _, _⟩ := T1r.out.below hW'; obtain ⟨x0, x1, x2, _, _, _⟩ := T4r.out.below hW'; go_simp)
                    try rfl
                  try simp only [Act.put, List.setIfInBounds_toArray, List.set_cons_zero, List.set_cons_succ]
                  refine wpAnyH_ready (rs := [7]) (by kernel_rfl) (by simp) ?_
                  refine AllReadyH.cons (o := { dst := some 112, op := Op.call { callee := Callee.value (Operand.func 14), args := #[Operand.tmp 107, Operand.tmp 109, Operand.tmp 111], argTypes := #[23, 3, 3] }, type := 23, pos := "law.go:108", after := #[{ on := 2, ground := Ground.data }, { on := 4, ground := Ground.data }, { on := 6, ground := Ground.data }], guard := none }) rfl (fun KK hK => ?_) AllReadyH.nil
                  rw [if_pos (by rfl)]
                  go_simp
                  have HC := fitted_any (.slice pL L.length kL) L K Z V0 (HLr.out.below hcum) (by omega) HSZ.out (by omega) (by omega) (by omega)
                  with_reducible refine HC.mono ?_
                  rintro e V1 ⟨f1, F1, rfl, hof1, hF1, hF1z, hbe⟩
                  obtain ⟨A1, c1, rfl⟩ := own_shape hof1
                  have hF1 := Lib.hid hF1
                  clear HC
                  have hcum := hcum.trans (hbe.mono hcum.size)
                  refine hK.out _ _ hcum (fun _ => ?_)
                  clear hK hbe
                  try simp only [Act.put, List.setIfInBounds_toArray, List.set_cons_zero, List.set_cons_succ]
                  refine wpAnyH_ready (rs := [8]) (by kernel_rfl) (by simp) ?_
                  refine AllReadyH.cons (o := { dst := some 113, op := Op.call { callee := Callee.value (Operand.func 21), args := #[Operand.tmp 105, Operand.tmp 112], argTypes := #[29, 23] }, type := 23, pos := "law.go:108", after := #[{ on := 0, ground := Ground.data }, { on := 7, ground := Ground.data }, { on := 7, ground := Ground.chain }], guard := none }) rfl (fun KK hK => ?_) AllReadyH.nil
                  rw [if_pos (by rfl)]
                  go_simp
                  have hs1 : Strs6 V1 (.slice A1 K c1) F1 := by show RowIs _ _ F1.length 1 _; rw [hF1.out]; exact RowIs.of_own hof1
                  have hcumA := hcum
                  refine (refEncode_any K M (Z : Int) (.slice A1 K c1) F1 V1 k1 k8 m6 (by omega) (by omega) hs1 hF1.out (fun s hs => by rw [Int.toNat_natCast]; exact hF1z s hs)).mono ?_
                  rintro e V2 ⟨rd, rfl, hod, hbe⟩
                  rw [← HNN.out] at hod
                  clear hs1 hof1
                  have hcum := hcum.trans (hbe.mono hcum.size)
                  refine hK.out _ _ hcum (fun _ => ?_)
                  clear hK hbe
                  try simp only [Act.put, List.setIfInBounds_toArray, List.set_cons_zero, List.set_cons_succ]
                  refine wpAnyH_take (i := 9) (oi := { dst := some 12, op := Op.assign (Operand.tmp 113), type := 23, pos := "law.go:108", after := #[{ on := 8, ground := Ground.data }, { on := 8, ground := Ground.chain }, { on := 0, ground := Ground.phase }, { on := 1, ground := Ground.phase }, { on := 2, ground := Ground.phase }, { on := 3, ground := Ground.phase }, { on := 4, ground := Ground.phase }, { on := 5, ground := Ground.phase }, { on := 6, ground := Ground.phase }, { on := 7, ground := Ground.phase }, { on := 8, ground := Ground.phase }], guard := none }) (v := ?_) rfl (by kernel_rfl) (by kernel_rfl) (by kernel_rfl) (fun _ _ _ h => h) (Or.inl ⟨by rfl, fun W' hW' => ?_⟩) hcum ?_
                  rotate_left 1
                  · go_simp
                    try rfl
                  try simp only [Act.put, List.setIfInBounds_toArray, List.set_cons_zero, List.set_cons_succ]
                  refine wpAnyH_done (by kernel_rfl) ?_ _
                  have HPS : Hid (∀ s ∈ encL (K : Int) (M : Int) (Z : Int) F1, s.size = Z) := fun s hs => by have := encL_size s hs; rw [Int.toNat_natCast] at this; exact this
                  have HPL : Hid ((encL (K : Int) (M : Int) (Z : Int) F1).length = n) := by rw [Hid, encL_len, HNN.out]; omega
                  have hod := own_base hod hcumA.size
                  go_wp2_with fail
                  go_meet
                  exact ⟨_, hod, HPL, HPS, Lib.hid hcum⟩
              case rest =>
                obtain ⟨ws, rfl⟩ : ∃ ws : World, ws = wc := ⟨_, rfl⟩
                obtain ⟨P, hop, HPL, HPZ, HBs⟩ := hcut
                obtain ⟨gP, cP, rfl, hgP1, hgP2, hcP, hcP2⟩ := own_room hop hn1
                have HSP : Hid (Strs6 ws (.slice (some ⟨gP, 0, none⟩) n cP) P) := by show RowIs _ _ P.length 1 _; rw [HPL.out]; exact RowIs.of_own hop
                have T1s := Lib.hid (T1r.out.below HBs.out)
                have T4s := Lib.hid (T4r.out.below HBs.out)
                have HLs := Lib.hid (HLr.out.below HBs.out)
                have HBs' := Lib.hid (HBr.out.trans (HBs.out.mono HBr.out.size))
                have HTs := Lib.hid (HTr.out.below HBs.out)
                obtain ⟨a0, a1, a2, _, _, _⟩ := T1s.out
                obtain ⟨x0, x1, x2, _, _, _⟩ := T4s.out
                clear hop
                go_wp2_with fail
                have HC := fitted_any (.slice pL L.length kL) L n Z ws HLs.out (by omega) HSZ.out (by omega) (by omega) (by omega)
                with_reducible refine HC.mono ?_
                rintro e wt ⟨vw, Wd, rfl, how, hWl, hWz, hbt⟩
                obtain ⟨gW, cW, rfl, hgW1, hgW2, hcW, hcW2⟩ := own_room how hn1
                have HWL := Lib.hid hWl
                have HWZ := Lib.hid hWz
                have HSW : Hid (Strs6 wt (.slice (some ⟨gW, 0, none⟩) n cW) Wd) := by show RowIs _ _ Wd.length 1 _; rw [HWL.out]; exact RowIs.of_own how
                have HSPt := Lib.hid (HSP.out.below hbt)
                have T1t := Lib.hid (T1s.out.below hbt)
                have T4t := Lib.hid (T4s.out.below hbt)
                have HTt := Lib.hid (HTs.out.below hbt)
                have HBt := Lib.hid (HBs'.out.trans (hbt.mono HBs'.out.size))
                clear hbt how hWl hWz HC a0 a1 a2 x0 x1 x2
                obtain ⟨n1, hn1e⟩ : ∃ n1, n1 = n - 1 := ⟨_, rfl⟩
                have wn : IntKind.i64.wrap ((n : Int) - 1) = (n1 : Int) := by rw [IntWalk.i64_in _ (by omega)]; omega
                have s0 : (0 : Int) ≤ (n1 : Int) := by omega
                have s1 : (n1 : Int) ≤ (cP : Int) := by omega
                have hn1n : n1 + 1 = n := by omega
                have hcP0 : ¬ cP = 0 := by omega
                clear hn1e
                obtain ⟨o14, ho14⟩ : ∃ o, o = (Obj.cells #[.slice (some ⟨gP, 0, none⟩) n cP, .slice (some ⟨gW, 0, none⟩) n cW, .slice (some ⟨gP, 0, none⟩) n1 cP] 23) := ⟨_, rfl⟩
                have hal := (Below.refl wt.heap.size wt).alloc (Nat.le_refl _) o14
                have hrow := lit_row wt #[.slice (some ⟨gP, 0, none⟩) n cP, .slice (some ⟨gW, 0, none⟩) n cW, .slice (some ⟨gP, 0, none⟩) n1 cP] 23 3 1 3 rfl
                rw [← ho14] at hrow
                have hPt1 : (P.take n1).length = n1 := by rw [List.length_take, HPL.out]; omega
                have hsp3 : Strs6 wt (.slice (some ⟨gP, 0, none⟩) n1 cP) (P.take n1) := Strs6.take (by rw [HPL.out]; exact HSPt.out) (by rw [HPL.out]; omega)
                obtain ⟨LL, hLL⟩ : ∃ LL : List (Value × List ByteArray), LL = [(.slice (some ⟨gP, 0, none⟩) n cP, P), (.slice (some ⟨gW, 0, none⟩) n cW, Wd), (.slice (some ⟨gP, 0, none⟩) n1 cP, P.take n1)] := ⟨_, rfl⟩
                have HLL3 : Hid (LL.length = 3) := by rw [Hid, hLL]; rfl
                have hok : ∀ p ∈ LL, Strs6 wt p.1 p.2 ∧ (p.2.length = n ∨ p.2.length = n1) ∧ (∀ s ∈ p.2, s.size = Z) ∧ RoomS p.1 p.2 := by
                  intro p hp
                  rw [hLL] at hp
                  simp at hp
                  rcases hp with rfl | rfl | rfl
                  · exact ⟨HSPt.out, Or.inl HPL.out, HPZ.out, _, _, by rw [HPL.out], by rw [HPL.out]; exact hcP, hcP2⟩
                  · exact ⟨HSW.out, Or.inl HWL.out, HWZ.out, _, _, by rw [HWL.out], by rw [HWL.out]; exact hcW, hcW2⟩
                  · exact ⟨hsp3, Or.inr hPt1, fun s hs => HPZ.out s (List.mem_of_mem_take hs), _, _, by rw [hPt1], by rw [hPt1]; omega, hcP2⟩
                have HLi : Hid (ListsIn (wt.alloc o14) (.slice (some ⟨wt.heap.size, 0, none⟩) LL.length 3) LL) := by
                  refine ⟨?_, fun p hp => ⟨(hok p hp).1.below hal, ?_⟩⟩
                  · rw [hLL]
                    exact hrow
                  · have := (hok p hp).2.1
                    omega
                rw [HLL3.out] at HLi
                have HOK : Hid (∀ p ∈ LL, (p.2.length = n ∨ p.2.length = n1) ∧ (∀ s ∈ p.2, s.size = Z) ∧ RoomS p.1 p.2) := fun p hp => (hok p hp).2
                have T4u := Lib.hid (T4t.out.below hal)
                have HTu := Lib.hid (HTt.out.below hal)
                have HBu := Lib.hid (HBt.out.trans (hal.mono HBt.out.size))
                have HSPu := Lib.hid (HSPt.out.below hal)
                clear hrow hsp3 hPt1 hok hLL hal
                go_upto_block 4 with fail
                rw [← ho14]
                clear ho14
                generalize wt.alloc o14 = W14 at *
                generalize wt.heap.size = b14 at *
                go_wp2_with fail
                go_loopw [15] (fun kk wr => ∃ j : Nat, kk = .int .i64 j ∧ j ≤ 3 ∧ Hid (Below W14.heap.size W14 wr)) (fun kk _ => 3 - (intOf kk).toNat)
                case atStart => exact ⟨0, rfl, by omega, Lib.hid (Below.refl _ _)⟩
                case round =>
                  obtain ⟨wg, rfl⟩ : ∃ wg : World, wg = wr := ⟨_, rfl⟩
                  obtain ⟨j, rfl, hj3, HBg⟩ := hrel
                  by_cases hlt : j < 3
                  · have hjd : decide ((j : Int) < 3) = true := by simp; omega
                    have p0 : (0 : Int) ≤ (j : Int) := by omega
                    have p1 : (j : Int) < 3 := by omega
                    obtain ⟨bL, oL, v, l, hmem, hA, hcell, hvs, hl6⟩ := (HLi.out.below HBg.out : ListsIn wg (.slice (some ⟨b14, 0, none⟩) 3 3) LL) |> (fun h => ListsIn.at2 (by rw [HLL3.out]; exact h) (k := j) (by rw [HLL3.out]; exact hlt))
                    cases hA
                    rw [Nat.zero_add] at hcell
                    obtain ⟨Av, cv, rfl⟩ := hvs.shape
                    obtain ⟨hlen, hlz, hroom⟩ := HOK.out _ hmem
                    dsimp only at hlen hlz hroom
                    have hll14 : l.length ≤ n := by omega
                    have HLEN := Lib.hid hlen
                    have HLZ := Lib.hid hlz
                    have HRM := Lib.hid hroom
                    have HLC0 : Hid (∀ W', Below wg.heap.size wg W' → W'.cell? ⟨b14, j, none⟩ = some (.slice Av l.length cv)) := fun W' h => below_celllt hcell (cell_block hcell) h
                    have HLv0 := Lib.hid hvs
                    have T4g := Lib.hid (T4u.out.below HBg.out)
                    have HTg := Lib.hid (HTu.out.below HBg.out)
                    clear hvs hlen hlz hroom hmem
                    -- the copy
                    go_wp2_with fail
                    refine (copyStrs6_any (.slice Av l.length cv) l wg HLv0.out hl6).mono ?_
                    rintro e wh ⟨ri, rfl, hoi, hbh⟩
                    obtain ⟨Ai, ci, rfl⟩ := own_shape hoi
                    have HOI := Lib.hid hoi
                    have HBh := Lib.hid hbh
                    clear hoi hbh hcell
                    go_wp2_with fail
                    go_loopw [17] (fun qq wr => ∃ (q : Nat) (Il : List ByteArray), qq = .int .i64 q ∧ q ≤ l.length ∧ Hid (Il.length = l.length) ∧ Hid (∀ t, T.getD t false = true → Il.getD t ByteArray.empty = l.getD t ByteArray.empty) ∧ Hid (wr.ownsRow wg.heap.size 9 1 (.slice Ai l.length ci) l.length (Il.map Value.string)) ∧ Hid (Below wg.heap.size wg wr)) (fun qq _ => l.length - (intOf qq).toNat)
                    case atStart => exact ⟨0, l, rfl, by omega, rfl, Lib.hid (fun _ _ => rfl), HOI, HBh⟩
                    case round =>
                      clear HOI HBh
                      obtain ⟨q, Il, rfl, hql, HIL, HIT, HOI, HBi⟩ := hrel
                      by_cases hqlt : q < l.length
                      · have hqd : decide ((q : Int) < (l.length : Int)) = true := by simp; omega
                        have hqd2 : decide ((q : Int) < (n : Int)) = true := by simp; omega
                        have q0 : (0 : Int) ≤ (q : Int) := by omega
                        have q1 : (q : Int) < (l.length : Int) := by omega
                        have q2 : (q : Int) < (n : Int) := by omega
                        obtain ⟨pT, cT, eT, hTs⟩ := HTg.out.below HBi.out
                        obtain ⟨bT, oT, hpT, hbT, hTcell⟩ := hTs.2 q (by rw [HTL.out]; omega)
                        rw [HTL.out] at eT
                        cases eT
                        cases hpT
                        dsimp only at hTcell
                        rw [Nat.zero_add] at hTcell
                        generalize htq : T.getD q false = tq at *
                        have HTQ := Lib.hid htq
                        clear htq hTs
                        cases tq
                        · obtain ⟨gI, cI, eI, _, hgI, _, _⟩ := own_room HOI.out (by omega)
                          cases eI
                          have hqI : q < (Il.map Value.string).length := by rw [List.length_map, HIL.out]; exact hqlt
                          obtain ⟨ub, hub⟩ : ∃ u, (Il.map Value.string)[q]? = some u := ⟨_, List.getElem?_eq_getElem hqI⟩
                          have d1 : wr.cell? ⟨gI, q, none⟩ = some ub := by rw [HOI.out.cellAt q (by omega)]; exact hub
                          have d2 := HOI.out.frozenAt q
                          have hst := (HOI.out.stored q (.string ⟨#[103, 111, 110, 101]⟩)).1
                          rw [← List.map_set] at hst
                          have HST := Lib.hid hst
                          have HIL' : Hid ((Il.set q ⟨#[103, 111, 110, 101]⟩).length = l.length) := by rw [Hid, List.length_set]; exact HIL.out
                          have HIT' : Hid (∀ t, T.getD t false = true → (Il.set q ⟨#[103, 111, 110, 101]⟩).getD t ByteArray.empty = l.getD t ByteArray.empty) := fun t ht => by
                            have hne : q ≠ t := fun e => by rw [← e, HTQ.out] at ht; simp at ht
                            rw [← HIT.out t ht]
                            simp [List.getD, List.getElem?_set, hne]
                          have HB2 := Lib.hid (HBi.out.setCell (p := ⟨gI, q, none⟩) ((HOI.out.lt gI rfl).1) (.string ⟨#[103, 111, 110, 101]⟩))
                          clear hst hqI hub HOI HIL HIT
                          go_wp2_with fail
                          go_roundw
                          case rel => exact ⟨q + 1, _, by go_num, by omega, HIL', HIT', HST, HB2⟩
                          case measure => simp [intOf]; omega
                        · go_wp2_with fail
                          go_roundw
                          case rel => exact ⟨q + 1, Il, by go_num, by omega, HIL, HIT, HOI, HBi⟩
                          case measure => simp [intOf]; omega
                      · have hqe : q = l.length := by omega
                        have hqd : decide ((q : Int) < (l.length : Int)) = false := by simp; omega
                        obtain ⟨wk, rfl⟩ : ∃ wk : World, wk = wr := ⟨_, rfl⟩
                        have HSI : Hid (Strs6 wk (.slice Ai l.length ci) Il) := by show RowIs _ _ Il.length 1 _; rw [HIL.out]; exact RowIs.of_own HOI.out
                        have T4k := Lib.hid (T4g.out.below HBi.out)
                        have HTk := Lib.hid (HTg.out.below HBi.out)
                        have HBk := Lib.hid (HBg.out.trans (HBi.out.mono HBg.out.size))
                        clear hqe hql HOI
                        go_upto_region 30 with fail
                        clear hqd hqlt
                        obtain ⟨x0, x1, x2, _, _, _⟩ := T4k.out
                        by_cases hln : l.length = n
                        · have HLN := Lib.hid hln
                          have hsz : ∀ t, T.getD t false = true → (Il.getD t ByteArray.empty).size = Z := fun t ht => by
                            rw [HIT.out t ht]
                            have htn : t < l.length := by
                              rw [HLN.out, ← HTL.out]
                              by_cases hx : t < T.length
                              · exact hx
                              · simp [List.getD, hx] at ht
                            have : l.getD t ByteArray.empty = l[t]'htn := by rw [← List.getElem_eq_getD (h := htn)]
                            rw [this]
                            exact HLZ.out _ (List.getElem_mem htn)
                          have HSZ2 := Lib.hid hsz
                          have HIN : Hid (Il.length = K + M) := by rw [Hid, HIL.out, HLN.out, HNN.out]
                          have HTN : Hid (T.length = K + M) := by rw [Hid, HTL.out, HNN.out]
                          rw [hln] at HSI ⊢
                          obtain ⟨eR, heR⟩ : ∃ x, x = rebE n K T := ⟨_, rfl⟩
                          obtain ⟨rL, hrL⟩ : ∃ x, x = rebL n K Z T Il := ⟨_, rfl⟩
                          have HER := Lib.hid heR
                          have HRL := Lib.hid hrL
                          clear hln hsz heR hrL
                          go_wp2_with fail
                          have HC := rebuild_any K M Z (.slice Ai n ci) (.slice (some ⟨b0, 0, none⟩) n n) Il T wk k1 k8 m6 (by omega) (by omega) HSI.out HTk.out HIN.out HTN.out HSZ2.out
                          rw [← HNN.out, ← HER.out, ← HRL.out] at HC
                          with_reducible refine HC.mono ?_
                          rintro e wm ⟨rx, rfl, hox, hbm⟩
                          obtain ⟨Ax, cx, rfl⟩ := own_shape hox
                          have HSX : Hid (Strs6 wm (.slice Ax rL.length cx) rL) := RowIs.of_own hox
                          have HSIm := Lib.hid (HSI.out.below hbm)
                          have HTm := Lib.hid (HTk.out.below hbm)
                          have T4m := Lib.hid (T4k.out.below hbm)
                          have HBm := Lib.hid (HBi.out.trans (hbm.mono HBi.out.size))
                          clear HC hox hbm x0 x1 x2
                          obtain ⟨x0, x1, x2, _, _, _⟩ := T4m.out
                          -- the page's own
                          go_wp2_with fail
                          have HC := refRebuild_any K M Z (.slice Ai n ci) (.slice (some ⟨b0, 0, none⟩) n n) Il T wm k1 k8 m6 (by omega) (by omega) HSIm.out HTm.out HIN.out HTN.out HSZ2.out
                          obtain ⟨ok, hok⟩ : ∃ ok, ok = (!decide ((haveN T K n).length < K)) := ⟨_, rfl⟩
                          rw [← HNN.out, ← hok, ← HRL.out] at HC
                          have HOKB := Lib.hid hok
                          clear hok
                          with_reducible refine HC.mono ?_
                          rintro e wp ⟨ry, rfl, hoy, hbp⟩
                          obtain ⟨Ay, cy, rfl⟩ := own_shape hoy
                          have HSY : Hid (Strs6 wp (.slice Ay rL.length cy) rL) := RowIs.of_own hoy
                          have HSXp := Lib.hid (HSX.out.below hbp)
                          have T4p := Lib.hid (T4m.out.below hbp)
                          have HBp := Lib.hid (HBm.out.trans (hbp.mono HBm.out.size))
                          clear HC hoy hbp x0 x1 x2
                          go_upto_if 175 with fail
                          go_cut [20, 21] from 175 to 176 (fun e20 d21 wx => e20 = .int .i64 eR ∧ Strs6 wx d21 rL ∧ Hid (Below wp.heap.size wp wx))
                          case first =>
                            as_aux_lemma =>
                              cases ok
                              · have hlt2 : (haveN T K n).length < K := by have h := HOKB.out; simpa using h.symm
                                have e1 : eR = 8 := by rw [HER.out, rebE, if_pos hlt2]
                                have e2 : rL = [] := by rw [HRL.out, rebL, if_pos hlt2]
                                subst e1
                                clear hlt2
                                go_wp2_with fail
                                go_meet
                                exact ⟨rfl, by rw [e2]; exact RowIs.nil _ _ _ _, Lib.hid (Below.refl _ _)⟩
                              · have hlt2 : ¬ (haveN T K n).length < K := by have h := HOKB.out; simpa using h.symm
                                have e1 : eR = 0 := by rw [HER.out, rebE, if_neg hlt2]
                                subst e1
                                clear hlt2
                                go_wp2_with fail
                                go_meet
                                exact ⟨rfl, HSY.out, Lib.hid (Below.refl _ _)⟩
                          case rest =>
                            obtain ⟨wx, rfl⟩ : ∃ wx : World, wx = wc := ⟨_, rfl⟩
                            obtain ⟨rfl, hd21, HBx⟩ := hcut
                            obtain ⟨Aw2, cw2, rfl⟩ := hd21.shape
                            have HSD := Lib.hid hd21
                            have HSXx := Lib.hid (HSXp.out.below HBx.out)
                            have T4w := Lib.hid (T4p.out.below HBx.out)
                            have HBX := Lib.hid (HBp.out.trans (HBx.out.mono HBp.out.size))
                            have HLv := Lib.hid (HLv0.out.below HBX.out)
                            have HLC : Hid (∀ W', Below wx.heap.size wx W' → W'.cell? ⟨b14, j, none⟩ = some (.slice Av l.length cv)) := fun W' h => HLC0.out W' (HBX.out.trans (h.mono HBX.out.size))
                            obtain ⟨vb, hvb⟩ : ∃ vb, vb = verB true (K : Int) (M : Int) (Z : Int) l := ⟨_, rfl⟩
                            have HVF : Hid ((mayB ((K : Int), (M : Int), (Z : Int)) && fitB l ((K : Int) + (M : Int)) (Z : Int)) = true) := by
                              rw [Hid, HMB.out, Bool.true_and]
                              exact fitB_of (by rw [HLN.out, HNN.out]; omega) (fun s hs => by rw [HLZ.out s hs])
                            have HVB : Hid (decide (encL (K : Int) (M : Int) (Z : Int) (l.take K) = l) = vb) := by rw [Hid, hvb, verB, Bool.true_and, Int.toNat_natCast]
                            have HVB2 := Lib.hid hvb.symm
                            clear hd21 hvb
                            go_upto_region 38 with fail
                            go_cut [24, 25] from 177 to 185 (fun v24 e25 wy => v24 = .bool vb ∧ e25 = .int .i64 0 ∧ Hid (Below wx.heap.size wx wy))
                            case first =>
                              as_aux_lemma =>
                                refine wp_region_held (S := fun W' => Below wx.heap.size wx W') (by kernel_rfl) ?_
                                change wpAnyH _ _ _ _ _ 11 _ _ wx.drew
                                have hcum := (Below.refl wx.heap.size wx).drew
                                generalize wx.drew = V0 at *
                                refine wpAnyH_take (i := 0) (oi := { dst := some 178, op := Op.load 29 (Operand.tmp 4), type := 29, pos := "law.go:127", after := #[], guard := none }) (v := ?_) rfl (by kernel_rfl) (by kernel_rfl) (by kernel_rfl) (fun _ _ _ h => h) (Or.inl ⟨by rfl, fun W' hW' => ?_⟩) hcum ?_
                                rotate_left 1
                                · (obtain ⟨x0, x1, x2, _, _, _⟩ := T4w.out.below hW'; have hlc := HLC.out _ hW'; go_simp)
                                  try rfl
                                try simp only [Act.put, List.setIfInBounds_toArray, List.set_cons_zero, List.set_cons_succ]
                                refine wpAnyH_take (i := 1) (oi := { dst := some 179, op := Op.move (Operand.tmp 14), type := 37, pos := "law.go:127", after := #[], guard := none }) (v := ?_) rfl (by kernel_rfl) (by kernel_rfl) (by kernel_rfl) (fun _ _ _ h => h) (Or.inl ⟨by rfl, fun W' hW' => ?_⟩) hcum ?_
                                rotate_left 1
                                · go_simp
                                  try rfl
                                try simp only [Act.put, List.setIfInBounds_toArray, List.set_cons_zero, List.set_cons_succ]
                                refine wpAnyH_take (i := 2) (oi := { dst := some 180, op := Op.move (Operand.tmp 15), type := 3, pos := "law.go:127", after := #[], guard := none }) (v := ?_) rfl (by kernel_rfl) (by kernel_rfl) (by kernel_rfl) (fun _ _ _ h => h) (Or.inl ⟨by rfl, fun W' hW' => ?_⟩) hcum ?_
                                rotate_left 1
                                · go_simp
                                  try rfl
                                try simp only [Act.put, List.setIfInBounds_toArray, List.set_cons_zero, List.set_cons_succ]
                                refine wpAnyH_take (i := 3) (oi := { dst := some 181, op := Op.indexAddr 37 (Operand.tmp 179) (Operand.tmp 180), type := 0, pos := "law.go:127", after := #[{ on := 1, ground := Ground.data }, { on := 2, ground := Ground.data }], guard := none }) (v := ?_) rfl (by kernel_rfl) (by kernel_rfl) (by kernel_rfl) (fun _ _ _ h => h) (Or.inl ⟨by rfl, fun W' hW' => ?_⟩) hcum ?_
                                rotate_left 1
                                · go_simp
                                  try rfl
                                try simp only [Act.put, List.setIfInBounds_toArray, List.set_cons_zero, List.set_cons_succ]
                                refine wpAnyH_take (i := 4) (oi := { dst := some 182, op := Op.load 23 (Operand.tmp 181), type := 23, pos := "law.go:127", after := #[{ on := 3, ground := Ground.data }], guard := none }) (v := ?_) rfl (by kernel_rfl) (by kernel_rfl) (by kernel_rfl) (fun _ _ _ h => h) (Or.inl ⟨by rfl, fun W' hW' => ?_⟩) hcum ?_
                                rotate_left 1
                                · (obtain ⟨x0, x1, x2, _, _, _⟩ := T4w.out.below hW'; have hlc := HLC.out _ hW'; go_simp)
                                  try rfl
                                try simp only [Act.put, List.setIfInBounds_toArray, List.set_cons_zero, List.set_cons_succ]
                                refine wpAnyH_ready (rs := [5]) (by kernel_rfl) (by simp) ?_
                                refine AllReadyH.cons (o := { dst := some 183, op := Op.call { callee := Callee.value (Operand.func 29), args := #[Operand.tmp 178, Operand.tmp 182], argTypes := #[29, 23] }, type := 56, pos := "law.go:127", after := #[{ on := 0, ground := Ground.data }, { on := 4, ground := Ground.data }], guard := none }) rfl (fun KK hK => ?_) AllReadyH.nil
                                rw [if_pos (by rfl)]
                                go_simp
                                refine (verify_all (K : Int) (M : Int) (Z : Int) (.slice Av l.length cv) l true HVF.out V0 (HLv.out.below hcum) (by omega) (fun _ => HRM.out)).mono ?_
                                rintro e V1 ⟨rfl, hbe⟩
                                have hcum := hcum.trans (hbe.mono hcum.size)
                                refine hK.out _ _ hcum (fun _ => ?_)
                                clear hK hbe
                                try simp only [Act.put, List.setIfInBounds_toArray, List.set_cons_zero, List.set_cons_succ]
                                refine wpAnyH_take (i := 6) (oi := { dst := some 177, op := Op.move (Operand.tmp 183), type := 56, pos := "law.go:127", after := #[{ on := 5, ground := Ground.data }], guard := none }) (v := ?_) rfl (by kernel_rfl) (by kernel_rfl) (by kernel_rfl) (fun _ _ _ h => h) (Or.inl ⟨by rfl, fun W' hW' => ?_⟩) hcum ?_
                                rotate_left 1
                                · go_simp
                                  try rfl
                                try simp only [Act.put, List.setIfInBounds_toArray, List.set_cons_zero, List.set_cons_succ]
                                refine wpAnyH_take (i := 7) (oi := { dst := some 184, op := Op.extract (Operand.tmp 177) 0, type := 4, pos := "law.go:127", after := #[{ on := 6, ground := Ground.data }], guard := none }) (v := ?_) rfl (by kernel_rfl) (by kernel_rfl) (by kernel_rfl) (fun _ _ _ h => h) (Or.inl ⟨by rfl, fun W' hW' => ?_⟩) hcum ?_
                                rotate_left 1
                                · go_simp
                                  try rfl
                                try simp only [Act.put, List.setIfInBounds_toArray, List.set_cons_zero, List.set_cons_succ]
                                refine wpAnyH_take (i := 8) (oi := { dst := some 185, op := Op.extract (Operand.tmp 177) 1, type := 34, pos := "law.go:127", after := #[{ on := 6, ground := Ground.data }, { on := 9, ground := Ground.gcOnly Departure.lateStores }], guard := none }) (v := ?_) rfl (by kernel_rfl) (by kernel_rfl) (by kernel_rfl) (fun _ _ _ h => h) (Or.inl ⟨by rfl, fun W' hW' => ?_⟩) hcum ?_
                                rotate_left 1
                                · go_simp
                                  try rfl
                                try simp only [Act.put, List.setIfInBounds_toArray, List.set_cons_zero, List.set_cons_succ]
                                refine wpAnyH_take (i := 9) (oi := { dst := some 24, op := Op.assign (Operand.tmp 184), type := 4, pos := "law.go:127", after := #[{ on := 7, ground := Ground.data }, { on := 5, ground := Ground.chain }, { on := 0, ground := Ground.phase }, { on := 1, ground := Ground.phase }, { on := 2, ground := Ground.phase }, { on := 3, ground := Ground.phase }, { on := 4, ground := Ground.phase }, { on := 5, ground := Ground.phase }, { on := 6, ground := Ground.phase }, { on := 7, ground := Ground.phase }, { on := 8, ground := Ground.textOnly Departure.lateStores }], guard := none }) (v := ?_) rfl (by kernel_rfl) (by kernel_rfl) (by kernel_rfl) (fun _ _ _ h => h) (Or.inl ⟨by rfl, fun W' hW' => ?_⟩) hcum ?_
                                rotate_left 1
                                · go_simp
                                  try rfl
                                try simp only [Act.put, List.setIfInBounds_toArray, List.set_cons_zero, List.set_cons_succ]
                                refine wpAnyH_take (i := 10) (oi := { dst := some 25, op := Op.assign (Operand.tmp 185), type := 34, pos := "law.go:127", after := #[{ on := 8, ground := Ground.data }, { on := 9, ground := Ground.chain }, { on := 0, ground := Ground.phase }, { on := 1, ground := Ground.phase }, { on := 2, ground := Ground.phase }, { on := 3, ground := Ground.phase }, { on := 4, ground := Ground.phase }, { on := 5, ground := Ground.phase }, { on := 6, ground := Ground.phase }, { on := 7, ground := Ground.phase }, { on := 8, ground := Ground.phase }, { on := 9, ground := Ground.phase }], guard := none }) (v := ?_) rfl (by kernel_rfl) (by kernel_rfl) (by kernel_rfl) (fun _ _ _ h => h) (Or.inl ⟨by rfl, fun W' hW' => ?_⟩) hcum ?_
                                rotate_left 1
                                · go_simp
                                  try rfl
                                try simp only [Act.put, List.setIfInBounds_toArray, List.set_cons_zero, List.set_cons_succ]
                                refine wpAnyH_done (by kernel_rfl) ?_ _
                                go_wp2_with fail
                                go_meet
                                exact ⟨by rw [HVB2.out], rfl, Lib.hid hcum⟩
                            case rest =>
                              obtain ⟨wy, rfl⟩ : ∃ wy : World, wy = wc := ⟨_, rfl⟩
                              obtain ⟨rfl, rfl, HBy⟩ := hcut
                              have T4y := Lib.hid (T4w.out.below HBy.out)
                              have HSXy := Lib.hid (HSXx.out.below HBy.out)
                              have HSDy := Lib.hid (HSD.out.below HBy.out)
                              have HLC2 : Hid (∀ W', Below wy.heap.size wy W' → W'.cell? ⟨b14, j, none⟩ = some (.slice Av n cv)) := fun W' h => by rw [← HLN.out]; exact HLC.out W' (HBy.out.trans (h.mono HBy.out.size))
                              have hlv2 := HLv.out.below HBy.out
                              have HTK : Hid (Strs6 wy (.slice Av K cv) (l.take K)) := Strs6.take hlv2 (by rw [HLN.out]; exact hKn)
                              have HTL2 : Hid ((l.take K).length = K) := by rw [Hid, List.length_take, HLN.out]; omega
                              rw [HLN.out] at hlv2
                              have HLv2 := Lib.hid hlv2
                              obtain ⟨_, _, e0, hr1, hr2⟩ := HRM.out
                              cases e0
                              have s3 : (0 : Int) ≤ (K : Int) := by omega
                              have s4 : (K : Int) ≤ (cv : Int) := by rw [HLN.out] at hr1; omega
                              clear hlv2 hr1 hr2
                              go_upto_region 42 with fail
                              go_cut [27] from 190 to 203 (fun d27 wy2 => d27 = .bool vb ∧ Hid (Below wy.heap.size wy wy2))
                              case first =>
                                as_aux_lemma =>
                                  refine wp_region_held (S := fun W' => Below wy.heap.size wy W') (by kernel_rfl) ?_
                                  change wpAnyH _ _ _ _ _ 15 _ _ wy.drew
                                  have hcum := (Below.refl wy.heap.size wy).drew
                                  generalize wy.drew = V0 at *
                                  refine wpAnyH_take (i := 0) (oi := { dst := some 190, op := Op.load 29 (Operand.tmp 4), type := 29, pos := "law.go:131", after := #[], guard := none }) (v := ?_) rfl (by kernel_rfl) (by kernel_rfl) (by kernel_rfl) (fun _ _ _ h => h) (Or.inl ⟨by rfl, fun W' hW' => ?_⟩) hcum ?_
                                  rotate_left 1
                                  · (obtain ⟨x0, x1, x2, _, _, _⟩ := T4y.out.below hW'; have hlc := HLC2.out _ hW'; go_simp)
                                    try rfl
                                  try simp only [Act.put, List.setIfInBounds_toArray, List.set_cons_zero, List.set_cons_succ]
                                  refine wpAnyH_take (i := 1) (oi := { dst := some 191, op := Op.move (Operand.tmp 14), type := 37, pos := "law.go:131", after := #[], guard := none }) (v := ?_) rfl (by kernel_rfl) (by kernel_rfl) (by kernel_rfl) (fun _ _ _ h => h) (Or.inl ⟨by rfl, fun W' hW' => ?_⟩) hcum ?_
                                  rotate_left 1
                                  · go_simp
                                    try rfl
                                  try simp only [Act.put, List.setIfInBounds_toArray, List.set_cons_zero, List.set_cons_succ]
                                  refine wpAnyH_take (i := 2) (oi := { dst := some 192, op := Op.move (Operand.tmp 15), type := 3, pos := "law.go:131", after := #[], guard := none }) (v := ?_) rfl (by kernel_rfl) (by kernel_rfl) (by kernel_rfl) (fun _ _ _ h => h) (Or.inl ⟨by rfl, fun W' hW' => ?_⟩) hcum ?_
                                  rotate_left 1
                                  · go_simp
                                    try rfl
                                  try simp only [Act.put, List.setIfInBounds_toArray, List.set_cons_zero, List.set_cons_succ]
                                  refine wpAnyH_take (i := 3) (oi := { dst := some 193, op := Op.indexAddr 37 (Operand.tmp 191) (Operand.tmp 192), type := 0, pos := "law.go:131", after := #[{ on := 1, ground := Ground.data }, { on := 2, ground := Ground.data }], guard := none }) (v := ?_) rfl (by kernel_rfl) (by kernel_rfl) (by kernel_rfl) (fun _ _ _ h => h) (Or.inl ⟨by rfl, fun W' hW' => ?_⟩) hcum ?_
                                  rotate_left 1
                                  · go_simp
                                    try rfl
                                  try simp only [Act.put, List.setIfInBounds_toArray, List.set_cons_zero, List.set_cons_succ]
                                  refine wpAnyH_take (i := 4) (oi := { dst := some 194, op := Op.load 23 (Operand.tmp 193), type := 23, pos := "law.go:131", after := #[{ on := 3, ground := Ground.data }], guard := none }) (v := ?_) rfl (by kernel_rfl) (by kernel_rfl) (by kernel_rfl) (fun _ _ _ h => h) (Or.inl ⟨by rfl, fun W' hW' => ?_⟩) hcum ?_
                                  rotate_left 1
                                  · (obtain ⟨x0, x1, x2, _, _, _⟩ := T4y.out.below hW'; have hlc := HLC2.out _ hW'; go_simp)
                                    try rfl
                                  try simp only [Act.put, List.setIfInBounds_toArray, List.set_cons_zero, List.set_cons_succ]
                                  refine wpAnyH_take (i := 5) (oi := { dst := some 195, op := Op.fieldAddr 29 (Operand.tmp 4) 0, type := 0, pos := "law.go:131", after := #[], guard := none }) (v := ?_) rfl (by kernel_rfl) (by kernel_rfl) (by kernel_rfl) (fun _ _ _ h => h) (Or.inl ⟨by rfl, fun W' hW' => ?_⟩) hcum ?_
                                  rotate_left 1
                                  · go_simp
                                    try rfl
                                  try simp only [Act.put, List.setIfInBounds_toArray, List.set_cons_zero, List.set_cons_succ]
                                  refine wpAnyH_take (i := 6) (oi := { dst := some 196, op := Op.load 3 (Operand.tmp 195), type := 3, pos := "law.go:131", after := #[{ on := 5, ground := Ground.data }], guard := none }) (v := ?_) rfl (by kernel_rfl) (by kernel_rfl) (by kernel_rfl) (fun _ _ _ h => h) (Or.inl ⟨by rfl, fun W' hW' => ?_⟩) hcum ?_
                                  rotate_left 1
                                  · (obtain ⟨x0, x1, x2, _, _, _⟩ := T4y.out.below hW'; have hlc := HLC2.out _ hW'; go_simp)
                                    try rfl
                                  try simp only [Act.put, List.setIfInBounds_toArray, List.set_cons_zero, List.set_cons_succ]
                                  refine wpAnyH_take (i := 7) (oi := { dst := some 197, op := Op.slice 23 (Operand.tmp 194) none (some (Operand.tmp 196)) none, type := 23, pos := "law.go:131", after := #[{ on := 4, ground := Ground.data }, { on := 6, ground := Ground.data }], guard := none }) (v := ?_) rfl (by kernel_rfl) (by kernel_rfl) (by kernel_rfl) (fun _ _ _ h => h) (Or.inl ⟨by rfl, fun W' hW' => ?_⟩) hcum ?_
                                  rotate_left 1
                                  · go_simp
                                    try rfl
                                  try simp only [Act.put, List.setIfInBounds_toArray, List.set_cons_zero, List.set_cons_succ]
                                  refine wpAnyH_take (i := 9) (oi := { dst := some 199, op := Op.move (Operand.tmp 14), type := 37, pos := "law.go:131", after := #[], guard := none }) (v := ?_) rfl (by kernel_rfl) (by kernel_rfl) (by kernel_rfl) (fun _ _ _ h => h) (Or.inl ⟨by rfl, fun W' hW' => ?_⟩) hcum ?_
                                  rotate_left 1
                                  · go_simp
                                    try rfl
                                  try simp only [Act.put, List.setIfInBounds_toArray, List.set_cons_zero, List.set_cons_succ]
                                  refine wpAnyH_take (i := 10) (oi := { dst := some 200, op := Op.move (Operand.tmp 15), type := 3, pos := "law.go:131", after := #[], guard := none }) (v := ?_) rfl (by kernel_rfl) (by kernel_rfl) (by kernel_rfl) (fun _ _ _ h => h) (Or.inl ⟨by rfl, fun W' hW' => ?_⟩) hcum ?_
                                  rotate_left 1
                                  · go_simp
                                    try rfl
                                  try simp only [Act.put, List.setIfInBounds_toArray, List.set_cons_zero, List.set_cons_succ]
                                  refine wpAnyH_take (i := 11) (oi := { dst := some 201, op := Op.indexAddr 37 (Operand.tmp 199) (Operand.tmp 200), type := 0, pos := "law.go:131", after := #[{ on := 9, ground := Ground.data }, { on := 10, ground := Ground.data }], guard := none }) (v := ?_) rfl (by kernel_rfl) (by kernel_rfl) (by kernel_rfl) (fun _ _ _ h => h) (Or.inl ⟨by rfl, fun W' hW' => ?_⟩) hcum ?_
                                  rotate_left 1
                                  · go_simp
                                    try rfl
                                  try simp only [Act.put, List.setIfInBounds_toArray, List.set_cons_zero, List.set_cons_succ]
                                  refine wpAnyH_take (i := 12) (oi := { dst := some 202, op := Op.load 23 (Operand.tmp 201), type := 23, pos := "law.go:131", after := #[{ on := 11, ground := Ground.data }], guard := none }) (v := ?_) rfl (by kernel_rfl) (by kernel_rfl) (by kernel_rfl) (fun _ _ _ h => h) (Or.inl ⟨by rfl, fun W' hW' => ?_⟩) hcum ?_
                                  rotate_left 1
                                  · (obtain ⟨x0, x1, x2, _, _, _⟩ := T4y.out.below hW'; have hlc := HLC2.out _ hW'; go_simp)
                                    try rfl
                                  try simp only [Act.put, List.setIfInBounds_toArray, List.set_cons_zero, List.set_cons_succ]
                                  refine wpAnyH_ready (rs := [8]) (by kernel_rfl) (by simp) ?_
                                  refine AllReadyH.cons (o := { dst := some 198, op := Op.call { callee := Callee.value (Operand.func 21), args := #[Operand.tmp 190, Operand.tmp 197], argTypes := #[29, 23] }, type := 23, pos := "law.go:131", after := #[{ on := 0, ground := Ground.data }, { on := 7, ground := Ground.data }], guard := none }) rfl (fun KK hK => ?_) AllReadyH.nil
                                  rw [if_pos (by rfl)]
                                  go_simp
                                  have hs1 : Strs6 V0 (.slice Av K cv) (l.take K) := HTK.out.below hcum
                                  refine (refEncode_any K M (Z : Int) (.slice Av K cv) (l.take K) V0 k1 k8 m6 (by omega) (by omega) hs1 HTL2.out (fun s hs => by rw [Int.toNat_natCast]; exact HLZ.out s (List.mem_of_mem_take hs))).mono ?_
                                  rintro e V1 ⟨rd, rfl, hod, hbe⟩
                                  rw [← HNN.out] at hod
                                  obtain ⟨Ad, cd, rfl⟩ := own_shape hod
                                  clear hs1
                                  have hcum := hcum.trans (hbe.mono hcum.size)
                                  refine hK.out _ _ hcum (fun _ => ?_)
                                  clear hK hbe
                                  try simp only [Act.put, List.setIfInBounds_toArray, List.set_cons_zero, List.set_cons_succ]
                                  refine wpAnyH_ready (rs := [13]) (by kernel_rfl) (by simp) ?_
                                  refine AllReadyH.cons (o := { dst := some 203, op := Op.call { callee := Callee.value (Operand.func 22), args := #[Operand.tmp 198, Operand.tmp 202], argTypes := #[23, 23] }, type := 4, pos := "law.go:131", after := #[{ on := 8, ground := Ground.data }, { on := 12, ground := Ground.data }, { on := 8, ground := Ground.chain }], guard := none }) rfl (fun KK hK => ?_) AllReadyH.nil
                                  rw [if_pos (by rfl)]
                                  go_simp
                                  have hsr : Strs6 V1 (.slice Ad n cd) (encL (K : Int) (M : Int) (Z : Int) (l.take K)) := by
                                    show RowIs _ _ (encL _ _ _ _).length 1 _
                                    rw [encL_len, HNI.out]
                                    exact RowIs.of_own hod
                                  refine (eqStrs6_dec _ (.slice Av n cv) (encL (K : Int) (M : Int) (Z : Int) (l.take K)) l V1 hsr (HLv2.out.below hcum) (by rw [encL_len, HNI.out]; omega) (by rw [HLN.out]; omega)).mono ?_
                                  rintro e V2 ⟨rfl, hbe⟩
                                  rw [HVB.out]
                                  clear hsr hod
                                  have hcum := hcum.trans (hbe.mono hcum.size)
                                  refine hK.out _ _ hcum (fun _ => ?_)
                                  clear hK hbe
                                  try simp only [Act.put, List.setIfInBounds_toArray, List.set_cons_zero, List.set_cons_succ]
                                  refine wpAnyH_take (i := 14) (oi := { dst := some 27, op := Op.assign (Operand.tmp 203), type := 4, pos := "law.go:131", after := #[{ on := 13, ground := Ground.data }, { on := 13, ground := Ground.chain }, { on := 0, ground := Ground.phase }, { on := 1, ground := Ground.phase }, { on := 2, ground := Ground.phase }, { on := 3, ground := Ground.phase }, { on := 4, ground := Ground.phase }, { on := 5, ground := Ground.phase }, { on := 6, ground := Ground.phase }, { on := 7, ground := Ground.phase }, { on := 8, ground := Ground.phase }, { on := 9, ground := Ground.phase }, { on := 10, ground := Ground.phase }, { on := 11, ground := Ground.phase }, { on := 12, ground := Ground.phase }, { on := 13, ground := Ground.phase }], guard := none }) (v := ?_) rfl (by kernel_rfl) (by kernel_rfl) (by kernel_rfl) (fun _ _ _ h => h) (Or.inl ⟨by rfl, fun W' hW' => ?_⟩) hcum ?_
                                  rotate_left 1
                                  · go_simp
                                    try rfl
                                  try simp only [Act.put, List.setIfInBounds_toArray, List.set_cons_zero, List.set_cons_succ]
                                  refine wpAnyH_done (by kernel_rfl) ?_ _
                                  go_wp2_with fail
                                  go_meet
                                  exact ⟨rfl, Lib.hid hcum⟩
                              case rest =>
                                obtain ⟨wv, rfl⟩ : ∃ wv : World, wv = wc := ⟨_, rfl⟩
                                obtain ⟨rfl, HBv⟩ := hcut
                                have HSXv := Lib.hid (HSXy.out.below HBv.out)
                                have HSDv := Lib.hid (HSDy.out.below HBv.out)
                                have hrl9 : rL.length ≤ 14 := by rw [HRL.out]; exact Nat.le_trans rebL_len hn14
                                have HBg2 := Lib.hid (HBX.out.trans ((HBy.out.trans (HBv.out.mono HBy.out.size)).mono HBX.out.size))
                                go_wp2_with (first | (go_at_call 15; refine (num4_any _ _).mono ?_; rintro e wn ⟨rfl, rfl⟩))
                                refine (eqStrs6_yes _ _ rL wv HSXv.out HSDv.out (by omega)).mono ?_
                                rintro e wq2 ⟨rfl, hbq⟩
                                have HBn := Lib.hid (HBg.out.trans ((HBg2.out.trans (hbq.mono HBg2.out.size)).mono HBg.out.size))
                                clear hbq
                                cases vb
                                all_goals
                                  go_wp2_with (first | (go_at_call 15; refine (num4_any _ _).mono ?_; rintro e wn ⟨rfl, rfl⟩))
                                  go_roundw
                                  case rel => exact ⟨j + 1, by go_num, by omega, HBn⟩
                                  case measure => simp [intOf]; omega
                        · have hl1 : l.length = n1 := by rcases HLEN.out with h | h; exact absurd h hln; exact h
                          have HL1 := Lib.hid hl1
                          rw [hl1] at HSI ⊢
                          have hnn : ¬ n1 = n := by omega
                          have hnd : ((n1 : Int) == (n : Int)) = false := by simp; omega
                          have hnd2 : (n1 == n) = false := by simp; omega
                          have hnd3 : decide (n1 = n) = false := decide_eq_false hnn
                          clear hl1 hln
                          go_wp2_with fail
                          refine (rebuild_no (K : Int) (M : Int) (Z : Int) Ai (some ⟨b0, 0, none⟩) n1 n ci n wk (Or.inr (Or.inr (by omega)))).mono ?_
                          rintro e wm ⟨rfl, hbm⟩
                          obtain ⟨wx, rfl⟩ : ∃ wx : World, wx = wm := ⟨_, rfl⟩
                          have T4w := Lib.hid (T4k.out.below hbm)
                          have HBX := Lib.hid (HBi.out.trans (hbm.mono HBi.out.size))
                          have HLv := Lib.hid (HLv0.out.below HBX.out)
                          have HLC : Hid (∀ W', Below wx.heap.size wx W' → W'.cell? ⟨b14, j, none⟩ = some (.slice Av n1 cv)) := fun W' h => by rw [← HL1.out]; exact HLC0.out W' (HBX.out.trans (h.mono HBX.out.size))
                          have hvf : (mayB ((K : Int), (M : Int), (Z : Int)) && fitB l ((K : Int) + (M : Int)) (Z : Int)) = false := by
                            rw [HMB.out, Bool.true_and, fitB, decide_eq_false (by rw [HL1.out]; have := HNN.out; omega), Bool.false_and]
                          have HVF := Lib.hid hvf
                          have hlv := HLv.out
                          rw [HL1.out] at hlv
                          have hl14 : l.length ≤ 14 := by rw [HL1.out]; omega
                          replace HLv := Lib.hid hlv
                          clear hbm hvf hlv x0 x1 x2
                          go_upto_region 38 with fail
                          go_cut [24, 25] from 177 to 185 (fun v24 e25 wy => v24 = .bool false ∧ e25 = .int .i64 1 ∧ Hid (Below wx.heap.size wx wy))
                          case first =>
                            as_aux_lemma =>
                              refine wp_region_held (S := fun W' => Below wx.heap.size wx W') (by kernel_rfl) ?_
                              change wpAnyH _ _ _ _ _ 11 _ _ wx.drew
                              have hcum := (Below.refl wx.heap.size wx).drew
                              generalize wx.drew = V0 at *
                              refine wpAnyH_take (i := 0) (oi := { dst := some 178, op := Op.load 29 (Operand.tmp 4), type := 29, pos := "law.go:127", after := #[], guard := none }) (v := ?_) rfl (by kernel_rfl) (by kernel_rfl) (by kernel_rfl) (fun _ _ _ h => h) (Or.inl ⟨by rfl, fun W' hW' => ?_⟩) hcum ?_
                              rotate_left 1
                              · (obtain ⟨x0, x1, x2, _, _, _⟩ := T4w.out.below hW'; have hlc := HLC.out _ hW'; go_simp)
                                try rfl
                              try simp only [Act.put, List.setIfInBounds_toArray, List.set_cons_zero, List.set_cons_succ]
                              refine wpAnyH_take (i := 1) (oi := { dst := some 179, op := Op.move (Operand.tmp 14), type := 37, pos := "law.go:127", after := #[], guard := none }) (v := ?_) rfl (by kernel_rfl) (by kernel_rfl) (by kernel_rfl) (fun _ _ _ h => h) (Or.inl ⟨by rfl, fun W' hW' => ?_⟩) hcum ?_
                              rotate_left 1
                              · go_simp
                                try rfl
                              try simp only [Act.put, List.setIfInBounds_toArray, List.set_cons_zero, List.set_cons_succ]
                              refine wpAnyH_take (i := 2) (oi := { dst := some 180, op := Op.move (Operand.tmp 15), type := 3, pos := "law.go:127", after := #[], guard := none }) (v := ?_) rfl (by kernel_rfl) (by kernel_rfl) (by kernel_rfl) (fun _ _ _ h => h) (Or.inl ⟨by rfl, fun W' hW' => ?_⟩) hcum ?_
                              rotate_left 1
                              · go_simp
                                try rfl
                              try simp only [Act.put, List.setIfInBounds_toArray, List.set_cons_zero, List.set_cons_succ]
                              refine wpAnyH_take (i := 3) (oi := { dst := some 181, op := Op.indexAddr 37 (Operand.tmp 179) (Operand.tmp 180), type := 0, pos := "law.go:127", after := #[{ on := 1, ground := Ground.data }, { on := 2, ground := Ground.data }], guard := none }) (v := ?_) rfl (by kernel_rfl) (by kernel_rfl) (by kernel_rfl) (fun _ _ _ h => h) (Or.inl ⟨by rfl, fun W' hW' => ?_⟩) hcum ?_
                              rotate_left 1
                              · go_simp
                                try rfl
                              try simp only [Act.put, List.setIfInBounds_toArray, List.set_cons_zero, List.set_cons_succ]
                              refine wpAnyH_take (i := 4) (oi := { dst := some 182, op := Op.load 23 (Operand.tmp 181), type := 23, pos := "law.go:127", after := #[{ on := 3, ground := Ground.data }], guard := none }) (v := ?_) rfl (by kernel_rfl) (by kernel_rfl) (by kernel_rfl) (fun _ _ _ h => h) (Or.inl ⟨by rfl, fun W' hW' => ?_⟩) hcum ?_
                              rotate_left 1
                              · (obtain ⟨x0, x1, x2, _, _, _⟩ := T4w.out.below hW'; have hlc := HLC.out _ hW'; go_simp)
                                try rfl
                              try simp only [Act.put, List.setIfInBounds_toArray, List.set_cons_zero, List.set_cons_succ]
                              refine wpAnyH_ready (rs := [5]) (by kernel_rfl) (by simp) ?_
                              refine AllReadyH.cons (o := { dst := some 183, op := Op.call { callee := Callee.value (Operand.func 29), args := #[Operand.tmp 178, Operand.tmp 182], argTypes := #[29, 23] }, type := 56, pos := "law.go:127", after := #[{ on := 0, ground := Ground.data }, { on := 4, ground := Ground.data }], guard := none }) rfl (fun KK hK => ?_) AllReadyH.nil
                              rw [if_pos (by rfl)]
                              go_simp
                              refine (verify_all (K : Int) (M : Int) (Z : Int) (.slice Av n1 cv) l false HVF.out V0 (HLv.out.below hcum) (by omega) (fun h => by simp at h)).mono ?_
                              rintro e V1 ⟨rfl, hbe⟩
                              have hcum := hcum.trans (hbe.mono hcum.size)
                              refine hK.out _ _ hcum (fun _ => ?_)
                              clear hK hbe
                              try simp only [Act.put, List.setIfInBounds_toArray, List.set_cons_zero, List.set_cons_succ]
                              refine wpAnyH_take (i := 6) (oi := { dst := some 177, op := Op.move (Operand.tmp 183), type := 56, pos := "law.go:127", after := #[{ on := 5, ground := Ground.data }], guard := none }) (v := ?_) rfl (by kernel_rfl) (by kernel_rfl) (by kernel_rfl) (fun _ _ _ h => h) (Or.inl ⟨by rfl, fun W' hW' => ?_⟩) hcum ?_
                              rotate_left 1
                              · go_simp
                                try rfl
                              try simp only [Act.put, List.setIfInBounds_toArray, List.set_cons_zero, List.set_cons_succ]
                              refine wpAnyH_take (i := 7) (oi := { dst := some 184, op := Op.extract (Operand.tmp 177) 0, type := 4, pos := "law.go:127", after := #[{ on := 6, ground := Ground.data }], guard := none }) (v := ?_) rfl (by kernel_rfl) (by kernel_rfl) (by kernel_rfl) (fun _ _ _ h => h) (Or.inl ⟨by rfl, fun W' hW' => ?_⟩) hcum ?_
                              rotate_left 1
                              · go_simp
                                try rfl
                              try simp only [Act.put, List.setIfInBounds_toArray, List.set_cons_zero, List.set_cons_succ]
                              refine wpAnyH_take (i := 8) (oi := { dst := some 185, op := Op.extract (Operand.tmp 177) 1, type := 34, pos := "law.go:127", after := #[{ on := 6, ground := Ground.data }, { on := 9, ground := Ground.gcOnly Departure.lateStores }], guard := none }) (v := ?_) rfl (by kernel_rfl) (by kernel_rfl) (by kernel_rfl) (fun _ _ _ h => h) (Or.inl ⟨by rfl, fun W' hW' => ?_⟩) hcum ?_
                              rotate_left 1
                              · go_simp
                                try rfl
                              try simp only [Act.put, List.setIfInBounds_toArray, List.set_cons_zero, List.set_cons_succ]
                              refine wpAnyH_take (i := 9) (oi := { dst := some 24, op := Op.assign (Operand.tmp 184), type := 4, pos := "law.go:127", after := #[{ on := 7, ground := Ground.data }, { on := 5, ground := Ground.chain }, { on := 0, ground := Ground.phase }, { on := 1, ground := Ground.phase }, { on := 2, ground := Ground.phase }, { on := 3, ground := Ground.phase }, { on := 4, ground := Ground.phase }, { on := 5, ground := Ground.phase }, { on := 6, ground := Ground.phase }, { on := 7, ground := Ground.phase }, { on := 8, ground := Ground.textOnly Departure.lateStores }], guard := none }) (v := ?_) rfl (by kernel_rfl) (by kernel_rfl) (by kernel_rfl) (fun _ _ _ h => h) (Or.inl ⟨by rfl, fun W' hW' => ?_⟩) hcum ?_
                              rotate_left 1
                              · go_simp
                                try rfl
                              try simp only [Act.put, List.setIfInBounds_toArray, List.set_cons_zero, List.set_cons_succ]
                              refine wpAnyH_take (i := 10) (oi := { dst := some 25, op := Op.assign (Operand.tmp 185), type := 34, pos := "law.go:127", after := #[{ on := 8, ground := Ground.data }, { on := 9, ground := Ground.chain }, { on := 0, ground := Ground.phase }, { on := 1, ground := Ground.phase }, { on := 2, ground := Ground.phase }, { on := 3, ground := Ground.phase }, { on := 4, ground := Ground.phase }, { on := 5, ground := Ground.phase }, { on := 6, ground := Ground.phase }, { on := 7, ground := Ground.phase }, { on := 8, ground := Ground.phase }, { on := 9, ground := Ground.phase }], guard := none }) (v := ?_) rfl (by kernel_rfl) (by kernel_rfl) (by kernel_rfl) (fun _ _ _ h => h) (Or.inl ⟨by rfl, fun W' hW' => ?_⟩) hcum ?_
                              rotate_left 1
                              · go_simp
                                try rfl
                              try simp only [Act.put, List.setIfInBounds_toArray, List.set_cons_zero, List.set_cons_succ]
                              refine wpAnyH_done (by kernel_rfl) ?_ _
                              go_wp2_with fail
                              go_meet
                              exact ⟨rfl, rfl, Lib.hid hcum⟩
                          case rest =>
                            obtain ⟨wy, rfl⟩ : ∃ wy : World, wy = wc := ⟨_, rfl⟩
                            obtain ⟨rfl, rfl, HBy⟩ := hcut
                            have HBg2 := Lib.hid (HBX.out.trans (HBy.out.mono HBX.out.size))
                            go_wp2_with (first | (go_at_call 15; refine (num4_any _ _).mono ?_; rintro e wn ⟨rfl, rfl⟩))
                            refine (eqStrs6_yes _ _ [] wy (RowIs.nil _ _ _ _) (RowIs.nil _ _ _ _) (by simp)).mono ?_
                            rintro e wq2 ⟨rfl, hbq⟩
                            have HBn := Lib.hid (HBg.out.trans ((HBg2.out.trans (hbq.mono HBg2.out.size)).mono HBg.out.size))
                            clear hbq
                            go_wp2_with (first | (go_at_call 15; refine (num4_any _ _).mono ?_; rintro e wn ⟨rfl, rfl⟩))
                            go_roundw
                            case rel => exact ⟨j + 1, by go_num, by omega, HBn⟩
                            case measure => simp [intOf]; omega
                  · have hjd : decide ((j : Int) < 3) = false := by simp; omega
                    obtain ⟨wz, rfl⟩ : ∃ wz : World, wz = wg := ⟨_, rfl⟩
                    have T4z := Lib.hid (T4u.out.below HBg.out)
                    have HTz := Lib.hid (HTu.out.below HBg.out)
                    have HBz := Lib.hid (HBu.out.trans (HBg.out.mono HBu.out.size))
                    go_upto_region 45 with fail
                    go_cut [28, 29] from 225 to 234 (fun v28 e29 wx => e29 = .int .i64 1 ∧ Hid (Below wz.heap.size wz wx))
                    case first =>
                      as_aux_lemma =>
                        refine wp_region_held (S := fun W' => Below wz.heap.size wz W') (by kernel_rfl) ?_
                        change wpAnyH _ _ _ _ _ 12 _ _ wz.drew
                        have hcum := (Below.refl wz.heap.size wz).drew
                        generalize wz.drew = V0 at *
                        refine wpAnyH_take (i := 0) (oi := { dst := some 226, op := Op.load 29 (Operand.tmp 4), type := 29, pos := "law.go:137", after := #[], guard := none }) (v := ?_) rfl (by kernel_rfl) (by kernel_rfl) (by kernel_rfl) (fun _ _ _ h => h) (Or.inl ⟨by rfl, fun W' hW' => ?_⟩) hcum ?_
                        rotate_left 1
                        · (obtain ⟨x0, x1, x2, _, _, _⟩ := T4z.out.below hW'; go_simp)
                          try rfl
                        try simp only [Act.put, List.setIfInBounds_toArray, List.set_cons_zero, List.set_cons_succ]
                        refine wpAnyH_take (i := 1) (oi := { dst := some 227, op := Op.move (Operand.tmp 12), type := 23, pos := "law.go:137", after := #[], guard := none }) (v := ?_) rfl (by kernel_rfl) (by kernel_rfl) (by kernel_rfl) (fun _ _ _ h => h) (Or.inl ⟨by rfl, fun W' hW' => ?_⟩) hcum ?_
                        rotate_left 1
                        · go_simp
                          try rfl
                        try simp only [Act.put, List.setIfInBounds_toArray, List.set_cons_zero, List.set_cons_succ]
                        refine wpAnyH_take (i := 2) (oi := { dst := some 228, op := Op.move (Operand.tmp 10), type := 24, pos := "law.go:137", after := #[], guard := none }) (v := ?_) rfl (by kernel_rfl) (by kernel_rfl) (by kernel_rfl) (fun _ _ _ h => h) (Or.inl ⟨by rfl, fun W' hW' => ?_⟩) hcum ?_
                        rotate_left 1
                        · go_simp
                          try rfl
                        try simp only [Act.put, List.setIfInBounds_toArray, List.set_cons_zero, List.set_cons_succ]
                        refine wpAnyH_ready (rs := [3, 4]) (by kernel_rfl) (by simp) ?_
                        refine AllReadyH.cons (o := { dst := some 229, op := Op.call { callee := Callee.value (Operand.func 31), args := #[Operand.tmp 228], argTypes := #[24] }, type := 24, pos := "law.go:137", after := #[{ on := 2, ground := Ground.data }], guard := none }) rfl (fun KK hK => ?_) (AllReadyH.cons (o := { dst := some 230, op := Op.buildSlice 24 1 #[(0, Operand.const (Value.bool true))], type := 24, pos := "law.go:137", after := #[], guard := none }) rfl (fun KK hK => ?_) AllReadyH.nil)
                        · rw [if_pos (by rfl)]
                          go_simp
                          refine (copyBools_any (.slice (some ⟨b0, 0, none⟩) n n) T V0 (HTz.out.below hcum) (by rw [HTL.out]; omega)).mono ?_
                          rintro e V1 ⟨rt, rfl, hot, hbe⟩
                          rw [HTL.out] at hot
                          obtain ⟨At, ct, rfl⟩ := own_shape hot
                          replace hot := own_base hot hcum.size
                          try (replace hl2 := lit_below hl2 hbe hbl2)
                          try (replace hbl2 := Nat.lt_of_lt_of_le hbl2 hbe.size)
                          try (have hlo2 : ∀ q, (Value.slice At n ct).ownBlock = some q → bl2 < q := fun q hq => hbase2 q hq)
                          have hcum := hcum.trans (hbe.mono hcum.size)
                          refine hK.out _ _ hcum (fun _ => ?_)
                          clear hK hbe
                          try simp only [Act.put, List.setIfInBounds_toArray, List.set_cons_zero, List.set_cons_succ]
                          refine wpAnyH_ready (rs := [4]) (by kernel_rfl) (by simp) ?_
                          refine AllReadyH.cons (o := { dst := some 230, op := Op.buildSlice 24 1 #[(0, Operand.const (Value.bool true))], type := 24, pos := "law.go:137", after := #[], guard := none }) rfl (fun KK hK => ?_) AllReadyH.nil
                          rw [if_pos (by rfl)]
                          go_simp
                          have hbe := (Below.refl V1.heap.size V1).alloc (Nat.le_refl _) (.cells #[.bool true] 4)
                          have hl2 := cell_one_new' V1 (.bool true) 4
                          have hbl2 : V1.heap.size < (V1.alloc (.cells #[.bool true] 4)).heap.size := by simp
                          try (replace hot := hot.alloc (.cells #[.bool true] 4))
                          replace hcum := hcum.trans (hbe.mono hcum.size)
                          refine hK.out _ _ hcum (fun _ => ?_)
                          clear hK hbe
                          generalize V1.alloc (.cells #[.bool true] 4) = V2 at *
                          generalize V1.heap.size = bl2 at *
                          try simp only [Act.put, List.setIfInBounds_toArray, List.set_cons_zero, List.set_cons_succ]
                          refine wpAnyH_ready (rs := [5]) (by kernel_rfl) (by simp) ?_
                          refine AllReadyH.cons (o := { dst := some 231, op := Op.call { callee := Callee.builtin Builtin.append, args := #[Operand.tmp 229, Operand.tmp 230], argTypes := #[24, 24] }, type := 24, pos := "law.go:137", after := #[{ on := 3, ground := Ground.data }, { on := 4, ground := Ground.data }, { on := 3, ground := Ground.chain }], guard := none }) rfl (fun KK hK => ?_) AllReadyH.nil
                          have hB0w := hcum.size
                          refine step_append_lies _ (by rfl) _ _ _ (by rfl) wz.heap.size 4 l0 _ 1 1 Try.underlying24 hlb hv0 hv1 hv2 rfl (by decide) _ _ _ (by rfl) hot ⟨bl2, 0, none⟩ 1 1 [.bool true] (by simp [Act.eval]) (by rfl) hl2 (by intro u hu; simp at hu; subst hu; rfl) (by omega) (by unfold maxLen; omega) (by omega) (by omega) V2.heap.size rfl ?_
                          intro g3 cap3 V3 hot' hgrow hat hltg
                          have hbg : Below wz.heap.size V2 V3 := (Below.refl wz.heap.size V2).grown hgrow hcum.size (fun k hk => (hot.lt k hk).1)
                          replace hcum := hcum.trans hbg
                          clear hot hgrow hat hltg hB0w hot'
                          refine hK.out _ _ hcum (fun _ => ?_)
                          clear hK hbg
                          try simp only [Act.put, List.setIfInBounds_toArray, List.set_cons_zero, List.set_cons_succ]
                          refine wpAnyH_ready (rs := [6]) (by kernel_rfl) (by simp) ?_
                          refine AllReadyH.cons (o := { dst := some 232, op := Op.call { callee := Callee.value (Operand.func 27), args := #[Operand.tmp 226, Operand.tmp 227, Operand.tmp 231], argTypes := #[29, 23, 24] }, type := 44, pos := "law.go:137", after := #[{ on := 0, ground := Ground.data }, { on := 1, ground := Ground.data }, { on := 5, ground := Ground.data }, { on := 5, ground := Ground.chain }], guard := none }) rfl (fun KK hK => ?_) AllReadyH.nil
                          rw [if_pos (by rfl)]
                          go_simp
                          refine (rebuild_no (K : Int) (M : Int) (Z : Int) (some ⟨gP, 0, none⟩) (some ⟨g3, 0, none⟩) n (n + 1) cP cap3 V3 (Or.inr (Or.inr (by omega)))).mono ?_
                          rintro e V4 ⟨rfl, hbe⟩
                          have hcum := hcum.trans (hbe.mono hcum.size)
                          refine hK.out _ _ hcum (fun _ => ?_)
                          clear hK hbe
                          try simp only [Act.put, List.setIfInBounds_toArray, List.set_cons_zero, List.set_cons_succ]
                          refine wpAnyH_take (i := 7) (oi := { dst := some 225, op := Op.move (Operand.tmp 232), type := 44, pos := "law.go:137", after := #[{ on := 6, ground := Ground.data }], guard := none }) (v := ?_) rfl (by kernel_rfl) (by kernel_rfl) (by kernel_rfl) (fun _ _ _ h => h) (Or.inl ⟨by rfl, fun W' hW' => ?_⟩) hcum ?_
                          rotate_left 1
                          · go_simp
                            try rfl
                          try simp only [Act.put, List.setIfInBounds_toArray, List.set_cons_zero, List.set_cons_succ]
                          refine wpAnyH_take (i := 8) (oi := { dst := some 233, op := Op.extract (Operand.tmp 225) 0, type := 23, pos := "law.go:137", after := #[{ on := 7, ground := Ground.data }], guard := none }) (v := ?_) rfl (by kernel_rfl) (by kernel_rfl) (by kernel_rfl) (fun _ _ _ h => h) (Or.inl ⟨by rfl, fun W' hW' => ?_⟩) hcum ?_
                          rotate_left 1
                          · go_simp
                            try rfl
                          try simp only [Act.put, List.setIfInBounds_toArray, List.set_cons_zero, List.set_cons_succ]
                          refine wpAnyH_take (i := 9) (oi := { dst := some 234, op := Op.extract (Operand.tmp 225) 1, type := 34, pos := "law.go:137", after := #[{ on := 7, ground := Ground.data }, { on := 10, ground := Ground.gcOnly Departure.lateStores }], guard := none }) (v := ?_) rfl (by kernel_rfl) (by kernel_rfl) (by kernel_rfl) (fun _ _ _ h => h) (Or.inl ⟨by rfl, fun W' hW' => ?_⟩) hcum ?_
                          rotate_left 1
                          · go_simp
                            try rfl
                          try simp only [Act.put, List.setIfInBounds_toArray, List.set_cons_zero, List.set_cons_succ]
                          refine wpAnyH_take (i := 10) (oi := { dst := some 28, op := Op.assign (Operand.tmp 233), type := 23, pos := "law.go:137", after := #[{ on := 8, ground := Ground.data }, { on := 6, ground := Ground.chain }, { on := 0, ground := Ground.phase }, { on := 1, ground := Ground.phase }, { on := 2, ground := Ground.phase }, { on := 3, ground := Ground.phase }, { on := 4, ground := Ground.phase }, { on := 5, ground := Ground.phase }, { on := 6, ground := Ground.phase }, { on := 7, ground := Ground.phase }, { on := 8, ground := Ground.phase }, { on := 9, ground := Ground.textOnly Departure.lateStores }], guard := none }) (v := ?_) rfl (by kernel_rfl) (by kernel_rfl) (by kernel_rfl) (fun _ _ _ h => h) (Or.inl ⟨by rfl, fun W' hW' => ?_⟩) hcum ?_
                          rotate_left 1
                          · go_simp
                            try rfl
                          try simp only [Act.put, List.setIfInBounds_toArray, List.set_cons_zero, List.set_cons_succ]
                          refine wpAnyH_take (i := 11) (oi := { dst := some 29, op := Op.assign (Operand.tmp 234), type := 34, pos := "law.go:137", after := #[{ on := 9, ground := Ground.data }, { on := 10, ground := Ground.chain }, { on := 0, ground := Ground.phase }, { on := 1, ground := Ground.phase }, { on := 2, ground := Ground.phase }, { on := 3, ground := Ground.phase }, { on := 4, ground := Ground.phase }, { on := 5, ground := Ground.phase }, { on := 6, ground := Ground.phase }, { on := 7, ground := Ground.phase }, { on := 8, ground := Ground.phase }, { on := 9, ground := Ground.phase }, { on := 10, ground := Ground.phase }], guard := none }) (v := ?_) rfl (by kernel_rfl) (by kernel_rfl) (by kernel_rfl) (fun _ _ _ h => h) (Or.inl ⟨by rfl, fun W' hW' => ?_⟩) hcum ?_
                          rotate_left 1
                          · go_simp
                            try rfl
                          try simp only [Act.put, List.setIfInBounds_toArray, List.set_cons_zero, List.set_cons_succ]
                          refine wpAnyH_done (by kernel_rfl) ?_ _
                          go_wp2_with fail
                          go_meet
                          exact ⟨rfl, Lib.hid hcum⟩
                        · rw [if_pos (by rfl)]
                          go_simp
                          have hbe := (Below.refl V0.heap.size V0).alloc (Nat.le_refl _) (.cells #[.bool true] 4)
                          have hl2 := cell_one_new' V0 (.bool true) 4
                          have hbl2 : V0.heap.size < (V0.alloc (.cells #[.bool true] 4)).heap.size := by simp
                          try (replace hot := hot.alloc (.cells #[.bool true] 4))
                          replace hcum := hcum.trans (hbe.mono hcum.size)
                          refine hK.out _ _ hcum (fun _ => ?_)
                          clear hK hbe
                          generalize V0.alloc (.cells #[.bool true] 4) = V1 at *
                          generalize V0.heap.size = bl2 at *
                          try simp only [Act.put, List.setIfInBounds_toArray, List.set_cons_zero, List.set_cons_succ]
                          refine wpAnyH_ready (rs := [3]) (by kernel_rfl) (by simp) ?_
                          refine AllReadyH.cons (o := { dst := some 229, op := Op.call { callee := Callee.value (Operand.func 31), args := #[Operand.tmp 228], argTypes := #[24] }, type := 24, pos := "law.go:137", after := #[{ on := 2, ground := Ground.data }], guard := none }) rfl (fun KK hK => ?_) AllReadyH.nil
                          rw [if_pos (by rfl)]
                          go_simp
                          refine (copyBools_any (.slice (some ⟨b0, 0, none⟩) n n) T V1 (HTz.out.below hcum) (by rw [HTL.out]; omega)).mono ?_
                          rintro e V2 ⟨rt, rfl, hot, hbe⟩
                          rw [HTL.out] at hot
                          obtain ⟨At, ct, rfl⟩ := own_shape hot
                          replace hot := own_base hot hcum.size
                          try (replace hl2 := lit_below hl2 hbe hbl2)
                          try (replace hbl2 := Nat.lt_of_lt_of_le hbl2 hbe.size)
                          try (have hlo2 : ∀ q, (Value.slice At n ct).ownBlock = some q → bl2 < q := fun q hq => hbase2 q hq)
                          have hcum := hcum.trans (hbe.mono hcum.size)
                          refine hK.out _ _ hcum (fun _ => ?_)
                          clear hK hbe
                          try simp only [Act.put, List.setIfInBounds_toArray, List.set_cons_zero, List.set_cons_succ]
                          refine wpAnyH_ready (rs := [5]) (by kernel_rfl) (by simp) ?_
                          refine AllReadyH.cons (o := { dst := some 231, op := Op.call { callee := Callee.builtin Builtin.append, args := #[Operand.tmp 229, Operand.tmp 230], argTypes := #[24, 24] }, type := 24, pos := "law.go:137", after := #[{ on := 3, ground := Ground.data }, { on := 4, ground := Ground.data }, { on := 3, ground := Ground.chain }], guard := none }) rfl (fun KK hK => ?_) AllReadyH.nil
                          have hB0w := hcum.size
                          refine step_append_lies _ (by rfl) _ _ _ (by rfl) wz.heap.size 4 l0 _ 1 1 Try.underlying24 hlb hv0 hv1 hv2 rfl (by decide) _ _ _ (by rfl) hot ⟨bl2, 0, none⟩ 1 1 [.bool true] (by simp [Act.eval]) (by rfl) hl2 (by intro u hu; simp at hu; subst hu; rfl) (by omega) (by unfold maxLen; omega) (by omega) (by omega) V2.heap.size rfl ?_
                          intro g3 cap3 V3 hot' hgrow hat hltg
                          have hbg : Below wz.heap.size V2 V3 := (Below.refl wz.heap.size V2).grown hgrow hcum.size (fun k hk => (hot.lt k hk).1)
                          replace hcum := hcum.trans hbg
                          clear hot hgrow hat hltg hB0w hot'
                          refine hK.out _ _ hcum (fun _ => ?_)
                          clear hK hbg
                          try simp only [Act.put, List.setIfInBounds_toArray, List.set_cons_zero, List.set_cons_succ]
                          refine wpAnyH_ready (rs := [6]) (by kernel_rfl) (by simp) ?_
                          refine AllReadyH.cons (o := { dst := some 232, op := Op.call { callee := Callee.value (Operand.func 27), args := #[Operand.tmp 226, Operand.tmp 227, Operand.tmp 231], argTypes := #[29, 23, 24] }, type := 44, pos := "law.go:137", after := #[{ on := 0, ground := Ground.data }, { on := 1, ground := Ground.data }, { on := 5, ground := Ground.data }, { on := 5, ground := Ground.chain }], guard := none }) rfl (fun KK hK => ?_) AllReadyH.nil
                          rw [if_pos (by rfl)]
                          go_simp
                          refine (rebuild_no (K : Int) (M : Int) (Z : Int) (some ⟨gP, 0, none⟩) (some ⟨g3, 0, none⟩) n (n + 1) cP cap3 V3 (Or.inr (Or.inr (by omega)))).mono ?_
                          rintro e V4 ⟨rfl, hbe⟩
                          have hcum := hcum.trans (hbe.mono hcum.size)
                          refine hK.out _ _ hcum (fun _ => ?_)
                          clear hK hbe
                          try simp only [Act.put, List.setIfInBounds_toArray, List.set_cons_zero, List.set_cons_succ]
                          refine wpAnyH_take (i := 7) (oi := { dst := some 225, op := Op.move (Operand.tmp 232), type := 44, pos := "law.go:137", after := #[{ on := 6, ground := Ground.data }], guard := none }) (v := ?_) rfl (by kernel_rfl) (by kernel_rfl) (by kernel_rfl) (fun _ _ _ h => h) (Or.inl ⟨by rfl, fun W' hW' => ?_⟩) hcum ?_
                          rotate_left 1
                          · go_simp
                            try rfl
                          try simp only [Act.put, List.setIfInBounds_toArray, List.set_cons_zero, List.set_cons_succ]
                          refine wpAnyH_take (i := 8) (oi := { dst := some 233, op := Op.extract (Operand.tmp 225) 0, type := 23, pos := "law.go:137", after := #[{ on := 7, ground := Ground.data }], guard := none }) (v := ?_) rfl (by kernel_rfl) (by kernel_rfl) (by kernel_rfl) (fun _ _ _ h => h) (Or.inl ⟨by rfl, fun W' hW' => ?_⟩) hcum ?_
                          rotate_left 1
                          · go_simp
                            try rfl
                          try simp only [Act.put, List.setIfInBounds_toArray, List.set_cons_zero, List.set_cons_succ]
                          refine wpAnyH_take (i := 9) (oi := { dst := some 234, op := Op.extract (Operand.tmp 225) 1, type := 34, pos := "law.go:137", after := #[{ on := 7, ground := Ground.data }, { on := 10, ground := Ground.gcOnly Departure.lateStores }], guard := none }) (v := ?_) rfl (by kernel_rfl) (by kernel_rfl) (by kernel_rfl) (fun _ _ _ h => h) (Or.inl ⟨by rfl, fun W' hW' => ?_⟩) hcum ?_
                          rotate_left 1
                          · go_simp
                            try rfl
                          try simp only [Act.put, List.setIfInBounds_toArray, List.set_cons_zero, List.set_cons_succ]
                          refine wpAnyH_take (i := 10) (oi := { dst := some 28, op := Op.assign (Operand.tmp 233), type := 23, pos := "law.go:137", after := #[{ on := 8, ground := Ground.data }, { on := 6, ground := Ground.chain }, { on := 0, ground := Ground.phase }, { on := 1, ground := Ground.phase }, { on := 2, ground := Ground.phase }, { on := 3, ground := Ground.phase }, { on := 4, ground := Ground.phase }, { on := 5, ground := Ground.phase }, { on := 6, ground := Ground.phase }, { on := 7, ground := Ground.phase }, { on := 8, ground := Ground.phase }, { on := 9, ground := Ground.textOnly Departure.lateStores }], guard := none }) (v := ?_) rfl (by kernel_rfl) (by kernel_rfl) (by kernel_rfl) (fun _ _ _ h => h) (Or.inl ⟨by rfl, fun W' hW' => ?_⟩) hcum ?_
                          rotate_left 1
                          · go_simp
                            try rfl
                          try simp only [Act.put, List.setIfInBounds_toArray, List.set_cons_zero, List.set_cons_succ]
                          refine wpAnyH_take (i := 11) (oi := { dst := some 29, op := Op.assign (Operand.tmp 234), type := 34, pos := "law.go:137", after := #[{ on := 9, ground := Ground.data }, { on := 10, ground := Ground.chain }, { on := 0, ground := Ground.phase }, { on := 1, ground := Ground.phase }, { on := 2, ground := Ground.phase }, { on := 3, ground := Ground.phase }, { on := 4, ground := Ground.phase }, { on := 5, ground := Ground.phase }, { on := 6, ground := Ground.phase }, { on := 7, ground := Ground.phase }, { on := 8, ground := Ground.phase }, { on := 9, ground := Ground.phase }, { on := 10, ground := Ground.phase }], guard := none }) (v := ?_) rfl (by kernel_rfl) (by kernel_rfl) (by kernel_rfl) (fun _ _ _ h => h) (Or.inl ⟨by rfl, fun W' hW' => ?_⟩) hcum ?_
                          rotate_left 1
                          · go_simp
                            try rfl
                          try simp only [Act.put, List.setIfInBounds_toArray, List.set_cons_zero, List.set_cons_succ]
                          refine wpAnyH_done (by kernel_rfl) ?_ _
                          go_wp2_with fail
                          go_meet
                          exact ⟨rfl, Lib.hid hcum⟩
                    case rest =>
                      obtain ⟨rfl, HBy⟩ := hcut
                      have HBn := Lib.hid (HBz.out.trans (HBy.out.mono HBz.out.size))
                      go_wp2_with (first | (go_at_call 15; refine (num4_any _ _).mono ?_; rintro e wn ⟨rfl, rfl⟩))
                      go_roundw
                      case rel => exact ⟨i + 1, by go_num, by omega, HBn⟩
                      case measure => simp [intOf]; omega
      · have hid : (decide ((i : Int) < (S.length : Int)) && decide ((i : Int) < 4)) = false := by simp; omega
        have HB2 := Lib.hid (HB1.out.trans (HB.out.mono HB1.out.size))
        by_cases h3 : i < S.length
        all_goals
          go_wp2_with fail
          refine (wakes4_any _).mono ?_
          rintro e w5 ⟨rfl, hb5⟩
          have hfin := HB2.out.trans (hb5.mono HB2.out.size)
          clear hb5
          go_wp2_with fail
          go_ret
          exact ⟨rfl, hfin⟩
  · go_wp2_with fail
    go_ret
    exact ⟨rfl, HB1.out⟩
end Go.Proofs.Ytdagnmhioellhaa
