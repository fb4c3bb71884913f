/- The page's own: siloref11.Lay. -/
import Derived.Test.YtiminahobifomaaDoorShH
import Derived.Test.YtiminahobifomaaDoorShF
import Derived.Test.YtiminahobifomaaDoorTextRow
import Derived.Test.YtiminahobifomaaDoorMatD
import Derived.OrdersHeld
import Derived.Deep.RegionHeld
import Derived.Deep.CutBlock
namespace Go.Proofs.YtiminahobifomaaDoor
open Go.ChangeShapes Go.WideShapes Go.ChangeAt Go.RowKit Go.Joins
set_option linter.unusedVariables false
set_option linter.unusedSimpArgs false

def strSz : Value → Nat
  | .string s => s.size
  | _ => 0

set_option maxRecDepth 100000 in
set_option maxHeartbeats 4000000 in
theorem layRef_any (st ix g : Nat) (t : ByteArray) (hm : (⟨st, ix, g, t⟩ : Sh).may = true) (w : World) :
    Calls Tryd.prog 13 #[.agg #[.int .i64 (st : Int), .int .i64 (ix : Int), .int .i64 (g : Int), .string t]] w fun e w' => ∃ r, e = .returned r ∧ w'.ownsRow w.heap.size 9 1 r (layS ⟨st, ix, g, t⟩).length ((layS ⟨st, ix, g, t⟩).map Value.string) ∧ Below w.heap.size w w' := by
  obtain ⟨f1, f2, f3, f4, f5⟩ : st ≤ 1073741824 ∧ g ≤ 1073741824 ∧ ix < 14 ∧ 1 ≤ t.size ∧ t.size ≤ 120 := Sh.facts hm
  obtain ⟨i0, hi, hz0, hz1, hz2⟩ := info_parts infoStr6
  obtain ⟨L, hL⟩ : ∃ L, L = layS ⟨st, ix, g, t⟩ := ⟨_, rfl⟩
  obtain ⟨F, hF⟩ : ∃ F, F = fullL ⟨st, ix, g, t⟩ := ⟨_, rfl⟩
  obtain ⟨T, hT⟩ : ∃ T, T = strOf8 (bodyL ⟨st, ix, g, t⟩) := ⟨_, rfl⟩
  obtain ⟨h1, hh1⟩ : ∃ x, strOf8 (beI 4 (st : Int)) = x := ⟨_, rfl⟩
  obtain ⟨h2, hh2⟩ : ∃ x, strOf8 (beI 4 (g : Int)) = x := ⟨_, rfl⟩
  obtain ⟨h3, hh3⟩ : ∃ x, strOf8 (beI 1 (ix : Int)) = x := ⟨_, rfl⟩
  obtain ⟨h4, hh4⟩ : ∃ x, strOf8 (beI 2 ((t.size : Nat) : Int)) = x := ⟨_, rfl⟩
  obtain ⟨s8, hs8⟩ : ∃ x, strOf8 (sumL (bytesOf T)) = x := ⟨_, rfl⟩
  obtain ⟨T2, hT2⟩ : ∃ x, x = T ++ s8 := ⟨_, rfl⟩
  obtain ⟨m, hsec⟩ : ∃ m, m = secN t.size := ⟨_, rfl⟩
  have hfit : 23 + t.size ≤ 64 * m := by rw [hsec]; exact secN_fit _
  have hm3 : m ≤ 3 := by rw [hsec]; exact secN_small f5
  obtain ⟨z, hz⟩ : ∃ z, z = 64 * m - (23 + t.size) := ⟨_, rfl⟩
  have hbT : bytesOf T = bodyL ⟨st, ix, g, t⟩ := by rw [hT, bytesOf_strOf8 (bodyL_lt _)]
  have hTs : T.size = 15 + t.size := by rw [← bytesOf_length, hbT, bodyL_len]
  have hT2b : T2 = strOf8 (bodyL ⟨st, ix, g, t⟩ ++ sumL (bodyL ⟨st, ix, g, t⟩)) := by rw [hT2, ← hs8, hbT, strOf8_app, hT]
  have hT2s : T2.size = 23 + t.size := by rw [hT2b, strOf8_size, List.length_append, bodyL_len, sumL_len]; simp; omega
  have HT1 : Hid ((⟨#[83, 72, 82, 68]⟩ : ByteArray) ++ h1 ++ h2 ++ h3 ++ h4 ++ t = T) := by
    rw [Hid, ← hh1, ← hh2, ← hh3, ← hh4, hT, bodyL, headL]
    simp only [strOf8_app, beI_nat, strOf8_of]
    rfl
  have HT2 : Hid (T ++ s8 = T2) := hT2.symm
  have HT3 : Hid (T2 ++ strOf8 (List.replicate z 0) = strOf8 F) := by
    rw [Hid, hT2b, hF, fullL, withSum, strOf8_app (_ ++ _), hz, hsec]
  have HLn : Hid (L.length = m) := by rw [Hid, hL, layS_len, hsec]
  have HLi : Hid (∀ i, i < m → L.take (i + 1) = L.take i ++ [strOf8 ((F.drop (64 * i)).take 64)]) := fun i hi => by
    rw [hL, hF, layS, chunksL, ← hsec, ← List.map_take, ← List.map_take, List.take_range, List.take_range, Nat.min_eq_left (by omega), Nat.min_eq_left (by omega), List.range_succ, List.map_append]
    rfl
  have HFl : Hid (F.length = 64 * m) := by rw [Hid, hF, fullL_len, hsec]
  have H1 := Lib.hid hh1
  have H2 := Lib.hid hh2
  have H3 := Lib.hid hh3
  have H4 := Lib.hid hh4
  have HS8 := Lib.hid hs8
  have HSEC := Lib.hid hsec
  have HTsz := Lib.hid hTs
  have HT2sz := Lib.hid hT2s
  have q1 : h1.size = 4 := by rw [← hh1, strOf8_size, beI_len]
  have q2 : h2.size = 4 := by rw [← hh2, strOf8_size, beI_len]
  have q3 : h3.size = 1 := by rw [← hh3, strOf8_size, beI_len]
  have q4 : h4.size = 2 := by rw [← hh4, strOf8_size, beI_len]
  have q5 : ¬ (9223372036854775807 < 15 + t.size) := by omega
  have q6 : s8.size = 8 := by rw [← hs8, strOf8_size, sumL_len]
  have q7 : ¬ (9223372036854775807 < T.size + 8) := by omega
  have q8 : ¬ (9223372036854775807 < T2.size + (strOf8 (List.replicate z 0)).size) := by rw [strOf8_size, List.length_replicate]; omega
  have wq1 : IntKind.i64.wrap ((m : Int) * 64) = (m : Int) * 64 := IntWalk.i64_in _ (by omega)
  have wq2 : IntKind.i64.wrap ((m : Int) * 64 - ((T2.size : Nat) : Int)) = (z : Int) := by rw [hT2s, hz]; rw [IntWalk.i64_in _ (by omega)]; omega
  have hzs : z ≤ 1000 := by omega
  have hmk := hmk8 (n := z) (by omega)
  rw [← hL]
  clear hL hF hT hh1 hh2 hh3 hh4 hs8 hT2 hsec hbT hT2b hz hTs hT2s
  obtain ⟨hbe, b0, b1, b2, b3⟩ := box4_facts w (.int .i64 (st : Int)) (.int .i64 (ix : Int)) (.int .i64 (g : Int)) (.string t) 28
  have hltb : w.heap.size < (w.alloc (.cells #[.int .i64 (st : Int), .int .i64 (ix : Int), .int .i64 (g : Int), .string t] 28)).heap.size := by simp
  obtain ⟨o, ho⟩ : ∃ o, o = (Obj.cells #[.int .i64 (st : Int), .int .i64 (ix : Int), .int .i64 (g : Int), .string t] 28) := ⟨_, rfl⟩
  rw [← ho] at hbe b0 b1 b2 b3 hltb
  have HX : Hid (∀ W', Below (w.alloc o).heap.size (w.alloc o) W' → W'.cell? ⟨w.heap.size, 0, none⟩ = some (.int .i64 (st : Int)) ∧ W'.cell? ⟨w.heap.size, 1, none⟩ = some (.int .i64 (ix : Int)) ∧ W'.cell? ⟨w.heap.size, 2, none⟩ = some (.int .i64 (g : Int)) ∧ W'.cell? ⟨w.heap.size, 3, none⟩ = some (.string t)) := fun W' hW =>
    ⟨(hW.cell (p := ⟨w.heap.size, 0, none⟩) hltb).trans b0, (hW.cell (p := ⟨w.heap.size, 1, none⟩) hltb).trans b1, (hW.cell (p := ⟨w.heap.size, 2, none⟩) hltb).trans b2, (hW.cell (p := ⟨w.heap.size, 3, none⟩) hltb).trans b3⟩
  have HB0 := Lib.hid hbe
  clear hbe b0 b1 b2 b3 hltb
  obtain ⟨B, hB⟩ : ∃ B, B = w.heap.size := ⟨_, rfl⟩
  have HBw := Lib.hid hB
  go_enter Tryd.func13, Tryd.ntmps13
  go_upto_region 1 with fail
  rw [← ho]
  clear ho
  rw [← hB] at HB0 HX ⊢
  clear hB
  generalize w.alloc o = W0 at *
  go_cut [3] from 5 to 24 (fun tv wx => tv = .string T ∧ Hid (Below W0.heap.size W0 wx))
  case first =>
    refine wp_region_held (S := fun W' => Below W0.heap.size W0 W') (by kernel_rfl) ?_
    change wpAnyH _ _ _ _ _ 21 _ _ W0.drew
    have hcum := (Below.refl W0.heap.size W0).drew
    generalize W0.drew = V0 at *
    refine wpAnyH_take (i := 0) (oi := { dst := some 5, op := Op.fieldAddr 28 (Operand.tmp 1) 0, type := 0, pos := "siloref11.go:140", after := #[], guard := none }) (v := ?_) rfl (by kernel_rfl) (by kernel_rfl) (by kernel_rfl) (fun _ _ _ h => h) (Or.inl ⟨by rfl, fun W' hW' => ?_⟩) hcum ?_
    rotate_left 1
    · go_simp
      try rfl
    try simp only [Act.put, List.setIfInBounds_toArray, List.set_cons_zero, List.set_cons_succ]
    refine wpAnyH_take (i := 1) (oi := { dst := some 6, op := Op.load 3 (Operand.tmp 5), type := 3, pos := "siloref11.go:140", after := #[{ on := 0, ground := Ground.data }], guard := none }) (v := ?_) rfl (by kernel_rfl) (by kernel_rfl) (by kernel_rfl) (fun _ _ _ h => h) (Or.inl ⟨by rfl, fun W' hW' => ?_⟩) hcum ?_
    rotate_left 1
    · (obtain ⟨x0, x1, x2, x3⟩ := HX.out _ hW'; go_simp)
      try rfl
    try simp only [Act.put, List.setIfInBounds_toArray, List.set_cons_zero, List.set_cons_succ]
    refine wpAnyH_take (i := 4) (oi := { dst := some 9, op := Op.fieldAddr 28 (Operand.tmp 1) 2, type := 0, pos := "siloref11.go:140", after := #[], guard := none }) (v := ?_) rfl (by kernel_rfl) (by kernel_rfl) (by kernel_rfl) (fun _ _ _ h => h) (Or.inl ⟨by rfl, fun W' hW' => ?_⟩) hcum ?_
    rotate_left 1
    · go_simp
      try rfl
    try simp only [Act.put, List.setIfInBounds_toArray, List.set_cons_zero, List.set_cons_succ]
    refine wpAnyH_take (i := 5) (oi := { dst := some 10, op := Op.load 3 (Operand.tmp 9), type := 3, pos := "siloref11.go:140", after := #[{ on := 4, ground := Ground.data }], guard := none }) (v := ?_) rfl (by kernel_rfl) (by kernel_rfl) (by kernel_rfl) (fun _ _ _ h => h) (Or.inl ⟨by rfl, fun W' hW' => ?_⟩) hcum ?_
    rotate_left 1
    · (obtain ⟨x0, x1, x2, x3⟩ := HX.out _ hW'; go_simp)
      try rfl
    try simp only [Act.put, List.setIfInBounds_toArray, List.set_cons_zero, List.set_cons_succ]
    refine wpAnyH_take (i := 8) (oi := { dst := some 13, op := Op.fieldAddr 28 (Operand.tmp 1) 1, type := 0, pos := "siloref11.go:140", after := #[], guard := none }) (v := ?_) rfl (by kernel_rfl) (by kernel_rfl) (by kernel_rfl) (fun _ _ _ h => h) (Or.inl ⟨by rfl, fun W' hW' => ?_⟩) hcum ?_
    rotate_left 1
    · go_simp
      try rfl
    try simp only [Act.put, List.setIfInBounds_toArray, List.set_cons_zero, List.set_cons_succ]
    refine wpAnyH_take (i := 9) (oi := { dst := some 14, op := Op.load 3 (Operand.tmp 13), type := 3, pos := "siloref11.go:140", after := #[{ on := 8, ground := Ground.data }], guard := none }) (v := ?_) rfl (by kernel_rfl) (by kernel_rfl) (by kernel_rfl) (fun _ _ _ h => h) (Or.inl ⟨by rfl, fun W' hW' => ?_⟩) hcum ?_
    rotate_left 1
    · (obtain ⟨x0, x1, x2, x3⟩ := HX.out _ hW'; go_simp)
      try rfl
    try simp only [Act.put, List.setIfInBounds_toArray, List.set_cons_zero, List.set_cons_succ]
    refine wpAnyH_take (i := 12) (oi := { dst := some 17, op := Op.fieldAddr 28 (Operand.tmp 1) 3, type := 0, pos := "siloref11.go:140", after := #[], guard := none }) (v := ?_) rfl (by kernel_rfl) (by kernel_rfl) (by kernel_rfl) (fun _ _ _ h => h) (Or.inl ⟨by rfl, fun W' hW' => ?_⟩) hcum ?_
    rotate_left 1
    · go_simp
      try rfl
    try simp only [Act.put, List.setIfInBounds_toArray, List.set_cons_zero, List.set_cons_succ]
    refine wpAnyH_take (i := 13) (oi := { dst := some 18, op := Op.load 9 (Operand.tmp 17), type := 9, pos := "siloref11.go:140", after := #[{ on := 12, ground := Ground.data }], guard := none }) (v := ?_) rfl (by kernel_rfl) (by kernel_rfl) (by kernel_rfl) (fun _ _ _ h => h) (Or.inl ⟨by rfl, fun W' hW' => ?_⟩) hcum ?_
    rotate_left 1
    · (obtain ⟨x0, x1, x2, x3⟩ := HX.out _ hW'; go_simp)
      try rfl
    try simp only [Act.put, List.setIfInBounds_toArray, List.set_cons_zero, List.set_cons_succ]
    refine wpAnyH_take (i := 14) (oi := { dst := some 19, op := Op.call { callee := Callee.builtin Builtin.len, args := #[Operand.tmp 18], argTypes := #[9] }, type := 3, pos := "siloref11.go:140", after := #[{ on := 13, ground := Ground.data }], guard := none }) (v := ?_) rfl (by kernel_rfl) (by kernel_rfl) (by kernel_rfl) (fun _ _ _ h => h) (Or.inl ⟨by rfl, fun W' hW' => ?_⟩) hcum ?_
    rotate_left 1
    · go_simp
      try rfl
    try simp only [Act.put, List.setIfInBounds_toArray, List.set_cons_zero, List.set_cons_succ]
    refine wpAnyH_take (i := 17) (oi := { dst := some 22, op := Op.fieldAddr 28 (Operand.tmp 1) 3, type := 0, pos := "siloref11.go:140", after := #[], guard := none }) (v := ?_) rfl (by kernel_rfl) (by kernel_rfl) (by kernel_rfl) (fun _ _ _ h => h) (Or.inl ⟨by rfl, fun W' hW' => ?_⟩) hcum ?_
    rotate_left 1
    · go_simp
      try rfl
    try simp only [Act.put, List.setIfInBounds_toArray, List.set_cons_zero, List.set_cons_succ]
    refine wpAnyH_take (i := 18) (oi := { dst := some 23, op := Op.load 9 (Operand.tmp 22), type := 9, pos := "siloref11.go:140", after := #[{ on := 17, ground := Ground.data }], guard := none }) (v := ?_) rfl (by kernel_rfl) (by kernel_rfl) (by kernel_rfl) (fun _ _ _ h => h) (Or.inl ⟨by rfl, fun W' hW' => ?_⟩) hcum ?_
    rotate_left 1
    · (obtain ⟨x0, x1, x2, x3⟩ := HX.out _ hW'; go_simp)
      try rfl
    try simp only [Act.put, List.setIfInBounds_toArray, List.set_cons_zero, List.set_cons_succ]
    refine wpAnyH_ready (rs := [2]) (by kernel_rfl) (by simp) ?_
    refine AllReadyH.cons (o := { dst := some 7, op := Op.call { callee := Callee.value (Operand.func 30), args := #[Operand.tmp 6, Operand.const (Value.int IntKind.i64 4)], argTypes := #[3, 3] }, type := 9, pos := "siloref11.go:140", after := #[{ on := 1, ground := Ground.data }], guard := none }) rfl (fun KK hK => ?_) AllReadyH.nil
    rw [if_pos (by rfl)]
    go_simp
    refine (high_any (st : Int) 4 V0 (by omega) (by omega) (by omega)).mono ?_
    rintro e V1 ⟨rfl, hbe⟩
    rw [H1.out]
    have hcum := hcum.trans (hbe.mono hcum.size)
    refine hK.out _ _ hcum (fun _ => ?_)
    clear hK hbe
    try simp only [Act.put, List.setIfInBounds_toArray, List.set_cons_zero, List.set_cons_succ]
    refine wpAnyH_take (i := 3) (oi := { dst := some 8, op := Op.binOp BinOp.add 9 (Operand.const (Value.string { data := #[83, 72, 82, 68] })) (Operand.tmp 7) 9, type := 9, pos := "siloref11.go:140", after := #[{ on := 2, ground := Ground.data }], guard := none }) (v := ?_) rfl (by kernel_rfl) (by kernel_rfl) (by kernel_rfl) (fun _ _ _ h => h) (Or.inl ⟨by rfl, fun W' hW' => ?_⟩) hcum ?_
    rotate_left 1
    · go_simp
      try rfl
    try simp only [Act.put, List.setIfInBounds_toArray, List.set_cons_zero, List.set_cons_succ]
    refine wpAnyH_ready (rs := [6]) (by kernel_rfl) (by simp) ?_
    refine AllReadyH.cons (o := { dst := some 11, op := Op.call { callee := Callee.value (Operand.func 30), args := #[Operand.tmp 10, Operand.const (Value.int IntKind.i64 4)], argTypes := #[3, 3] }, type := 9, pos := "siloref11.go:140", after := #[{ on := 5, ground := Ground.data }, { on := 2, ground := Ground.chain }], guard := none }) rfl (fun KK hK => ?_) AllReadyH.nil
    rw [if_pos (by rfl)]
    go_simp
    refine (high_any (g : Int) 4 V1 (by omega) (by omega) (by omega)).mono ?_
    rintro e V2 ⟨rfl, hbe⟩
    rw [H2.out]
    have hcum := hcum.trans (hbe.mono hcum.size)
    refine hK.out _ _ hcum (fun _ => ?_)
    clear hK hbe
    try simp only [Act.put, List.setIfInBounds_toArray, List.set_cons_zero, List.set_cons_succ]
    refine wpAnyH_take (i := 7) (oi := { dst := some 12, op := Op.binOp BinOp.add 9 (Operand.tmp 8) (Operand.tmp 11) 9, type := 9, pos := "siloref11.go:140", after := #[{ on := 3, ground := Ground.data }, { on := 6, ground := Ground.data }], guard := none }) (v := ?_) rfl (by kernel_rfl) (by kernel_rfl) (by kernel_rfl) (fun _ _ _ h => h) (Or.inl ⟨by rfl, fun W' hW' => ?_⟩) hcum ?_
    rotate_left 1
    · go_simp
      try rfl
    try simp only [Act.put, List.setIfInBounds_toArray, List.set_cons_zero, List.set_cons_succ]
    refine wpAnyH_ready (rs := [10]) (by kernel_rfl) (by simp) ?_
    refine AllReadyH.cons (o := { dst := some 15, op := Op.call { callee := Callee.value (Operand.func 30), args := #[Operand.tmp 14, Operand.const (Value.int IntKind.i64 1)], argTypes := #[3, 3] }, type := 9, pos := "siloref11.go:140", after := #[{ on := 9, ground := Ground.data }, { on := 6, ground := Ground.chain }], guard := none }) rfl (fun KK hK => ?_) AllReadyH.nil
    rw [if_pos (by rfl)]
    go_simp
    refine (high_any (ix : Int) 1 V2 (by omega) (by omega) (by omega)).mono ?_
    rintro e V3 ⟨rfl, hbe⟩
    rw [H3.out]
    have hcum := hcum.trans (hbe.mono hcum.size)
    refine hK.out _ _ hcum (fun _ => ?_)
    clear hK hbe
    try simp only [Act.put, List.setIfInBounds_toArray, List.set_cons_zero, List.set_cons_succ]
    refine wpAnyH_take (i := 11) (oi := { dst := some 16, op := Op.binOp BinOp.add 9 (Operand.tmp 12) (Operand.tmp 15) 9, type := 9, pos := "siloref11.go:140", after := #[{ on := 7, ground := Ground.data }, { on := 10, ground := Ground.data }], guard := none }) (v := ?_) rfl (by kernel_rfl) (by kernel_rfl) (by kernel_rfl) (fun _ _ _ h => h) (Or.inl ⟨by rfl, fun W' hW' => ?_⟩) hcum ?_
    rotate_left 1
    · go_simp
      try rfl
    try simp only [Act.put, List.setIfInBounds_toArray, List.set_cons_zero, List.set_cons_succ]
    refine wpAnyH_ready (rs := [15]) (by kernel_rfl) (by simp) ?_
    refine AllReadyH.cons (o := { dst := some 20, op := Op.call { callee := Callee.value (Operand.func 30), args := #[Operand.tmp 19, Operand.const (Value.int IntKind.i64 2)], argTypes := #[3, 3] }, type := 9, pos := "siloref11.go:140", after := #[{ on := 14, ground := Ground.data }, { on := 10, ground := Ground.chain }], guard := none }) rfl (fun KK hK => ?_) AllReadyH.nil
    rw [if_pos (by rfl)]
    go_simp
    refine (high_any ((t.size : Nat) : Int) 2 V3 (by omega) (by omega) (by omega)).mono ?_
    rintro e V4 ⟨rfl, hbe⟩
    rw [H4.out]
    have hcum := hcum.trans (hbe.mono hcum.size)
    refine hK.out _ _ hcum (fun _ => ?_)
    clear hK hbe
    try simp only [Act.put, List.setIfInBounds_toArray, List.set_cons_zero, List.set_cons_succ]
    refine wpAnyH_take (i := 16) (oi := { dst := some 21, op := Op.binOp BinOp.add 9 (Operand.tmp 16) (Operand.tmp 20) 9, type := 9, pos := "siloref11.go:140", after := #[{ on := 11, ground := Ground.data }, { on := 15, ground := Ground.data }], guard := none }) (v := ?_) rfl (by kernel_rfl) (by kernel_rfl) (by kernel_rfl) (fun _ _ _ h => h) (Or.inl ⟨by rfl, fun W' hW' => ?_⟩) hcum ?_
    rotate_left 1
    · go_simp
      try rfl
    try simp only [Act.put, List.setIfInBounds_toArray, List.set_cons_zero, List.set_cons_succ]
    refine wpAnyH_take (i := 19) (oi := { dst := some 24, op := Op.binOp BinOp.add 9 (Operand.tmp 21) (Operand.tmp 23) 9, type := 9, pos := "siloref11.go:140", after := #[{ on := 16, ground := Ground.data }, { on := 18, ground := Ground.data }], guard := none }) (v := ?_) rfl (by kernel_rfl) (by kernel_rfl) (by kernel_rfl) (fun _ _ _ h => h) (Or.inl ⟨by rfl, fun W' hW' => ?_⟩) hcum ?_
    rotate_left 1
    · go_simp
      try rfl
    try simp only [Act.put, List.setIfInBounds_toArray, List.set_cons_zero, List.set_cons_succ]
    refine wpAnyH_take (i := 20) (oi := { dst := some 3, op := Op.assign (Operand.tmp 24), type := 9, pos := "siloref11.go:140", after := #[{ on := 19, ground := Ground.data }, { on := 15, ground := Ground.chain }, { on := 0, ground := Ground.phase }, { on := 1, ground := Ground.phase }, { on := 2, ground := Ground.phase }, { on := 3, ground := Ground.phase }, { on := 4, ground := Ground.phase }, { on := 5, ground := Ground.phase }, { on := 6, ground := Ground.phase }, { on := 7, ground := Ground.phase }, { on := 8, ground := Ground.phase }, { on := 9, ground := Ground.phase }, { on := 10, ground := Ground.phase }, { on := 11, ground := Ground.phase }, { on := 12, ground := Ground.phase }, { on := 13, ground := Ground.phase }, { on := 14, ground := Ground.phase }, { on := 15, ground := Ground.phase }, { on := 16, ground := Ground.phase }, { on := 17, ground := Ground.phase }, { on := 18, ground := Ground.phase }, { on := 19, ground := Ground.phase }], guard := none }) (v := ?_) rfl (by kernel_rfl) (by kernel_rfl) (by kernel_rfl) (fun _ _ _ h => h) (Or.inl ⟨by rfl, fun W' hW' => ?_⟩) hcum ?_
    rotate_left 1
    · go_simp
      try rfl
    try simp only [Act.put, List.setIfInBounds_toArray, List.set_cons_zero, List.set_cons_succ]
    refine wpAnyH_done (by kernel_rfl) ?_ _
    go_wp2_with fail
    go_meet
    exact ⟨congrArg Value.string HT1.out, Lib.hid hcum⟩
  case rest =>
    obtain ⟨rfl, HC1⟩ := hcut
    go_upto_region 3 with ((go_at_call 31; refine (refSum_any T _ (by rw [HTsz.out]; unfold maxLen; omega)).mono ?_; rintro e V2 ⟨rfl, hb2⟩; rw [HS8.out]))
    rw [HT2.out]
    have HC2 := Lib.hid (HC1.out.trans (hb2.mono HC1.out.size))
    clear hb2
    obtain ⟨x0, x1, x2, x3⟩ := HX.out _ HC2.out
    have hcv := convert_bytes (P := Tryd.prog) (w := V2.alloc (.cells (cellsOf8 (List.replicate z 0)) 5)) (b := V2.heap.size) (off := 0) (cap := z) (ns := List.replicate z 0) Tryd.underlying37 Tryd.underlying5 Tryd.underlying9 (cells8_cell (heap_alloc_new V2 _))
    rw [List.length_replicate] at hcv
    have hbz := (Below.refl V2.heap.size V2).alloc (Nat.le_refl _) (.cells (cellsOf8 (List.replicate z 0)) 5)
    have HC3 := Lib.hid (HC2.out.trans (hbz.mono HC2.out.size))
    have HC4 := Lib.hid (HB0.out.trans (HC3.out.mono (by have := HB0.out.size; have := HBw.out; omega)))
    clear hbz
    go_wp2_with ((go_at_call 18; refine (refSectors_any t.size _ (by omega)).mono ?_; rintro e V3 ⟨rfl, rfl⟩; rw [← HSEC.out]))
    rw [HT3.out]
    clear hcv x0 x1 x2 x3 hmk wq2
    generalize V2.alloc (.cells (cellsOf8 (List.replicate z 0)) 5) = W5 at *
    have HFs : Hid ((strOf8 F).size = 64 * m) := by rw [Hid, strOf8_size, HFl.out]
    go_loopw [3, 4] (fun tv lv wr => ∃ (i : Nat) (u : ByteArray), tv = .string u ∧ i ≤ m ∧ Hid (u.size = 64 * (m - i)) ∧ Hid (u = strOf8 (F.drop (64 * i))) ∧ wr.ownsRow B 9 1 lv i ((L.take i).map Value.string) ∧ Below B w wr) (fun tv _ _ => strSz tv)
    case atStart => exact ⟨0, strOf8 F, rfl, by omega, by rw [Hid, HFs.out]; omega, by rw [Hid, Nat.mul_zero, List.drop_zero], World.ownsRow_nil _ _ _ _, HC4.out⟩
    case round =>
      obtain ⟨i, u, rfl, hil, HUS, HU, hown, hwr⟩ := hrel
      by_cases hlt : i < m
      · have hd : decide ((0 : Int) < ((u.size : Nat) : Int)) = true := decide_eq_true (by have := HUS.out; omega)
        have h64 : 64 ≤ u.size := by have := HUS.out; omega
        have HT : Hid (L.take (i + 1) = L.take i ++ [u.extract 0 64]) := by
          rw [Hid, HLi.out i hlt, HU.out, strOf8_part, List.drop_zero, Nat.sub_zero]
        have HUS2 : Hid ((u.extract 64 u.size).size = 64 * (m - (i + 1))) := by have := HUS.out; rw [Hid, ByteArray.size_extract]; omega
        have HU2 : Hid (u.extract 64 u.size = strOf8 (F.drop (64 * (i + 1)))) := by
          rw [Hid, HU.out, strOf8_size, strOf8_part, List.drop_drop, List.take_of_length_le (by rw [List.length_drop]; simp only [List.length_drop]; omega)]
          rfl
        go_wp2_with (first | (at_builtin; refine wpList_append_own _ rfl _ _ 23 rfl B 9 i0 (.string ByteArray.empty) 1 16 Tryd.underlying23 hi hz0 hz1 hz2 rfl (by decide) _ _ _ rfl (hown.alloc _) ⟨wr.heap.size, 0, none⟩ 1 1 [.string (u.extract 0 64)] rfl rfl ?c1 ?c2 ?c3 ?c4 ?c5 ?_) | go_in)
        case c1 => exact cell_one_new' _ _ _
        case c2 => intro u hu; simp at hu; subst hu; rfl
        case c3 => unfold maxLen; omega
        case c4 => omega
        case c5 => have := hwr.size; have := HBw.out; simp; omega
        all_goals
          intro v' w1 hown' hgrow _
          have hbx : Below B w w1 := by have hq := HBw.out; subst hq; exact append_below hwr hown hgrow
          clear hown hgrow hwr
          go_wp2_with fail
          go_roundw
          case rel => exact ⟨i + 1, _, rfl, hlt, HUS2, HU2, by rw [HT.out, List.map_append, List.map_take]; exact hown', hbx⟩
          case measure => have := HUS.out; simp [strSz]; omega
      · have hie : i = m := by omega
        have hu0 : u.size = 0 := by have := HUS.out; omega
        have hd : decide ((0 : Int) < ((u.size : Nat) : Int)) = false := decide_eq_false (by omega)
        have hit : L.take i = L := List.take_of_length_le (by rw [HLn.out]; omega)
        rw [hit, hie, ← HLn.out] at hown
        have HO := Lib.hid hown
        have HWR := Lib.hid hwr
        clear hie hit hown hwr
        go_wp2_with fail
        all_goals
          go_ret
          exact ⟨_, rfl, by rw [← HBw.out]; exact HO.out, by rw [← HBw.out]; exact HWR.out⟩
end Go.Proofs.YtiminahobifomaaDoor
