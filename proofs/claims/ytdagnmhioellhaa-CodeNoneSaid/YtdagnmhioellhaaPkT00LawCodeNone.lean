/- CodeNone: the law's walk. -/
import Derived.Test.YtdagnmhioellhaaPkA32
import Derived.Test.YtdagnmhioellhaaPkB01
namespace Go.Proofs.Ytdagnmhioellhaa
open Go.ChangeShapes Go.WideShapes Go.ChangeAt Go.RowKit Go.Joins Go.Shelf
set_option linter.unusedVariables false
set_option linter.unusedSimpArgs false

set_option maxRecDepth 100000 in
set_option maxHeartbeats 1000000 in
theorem codeNone_walk (c0 c1 c2 : Value) (S : List T3) (L : List ByteArray) (bs : List Bool) (w : World) (hS : ThreesIn w c0 S) (hL : TextsIn w c1 L) (hB : BoolsIn w c2 bs) (hS2 : S.length ≤ 9223372036854775807) :
    Calls Try.prog 8 #[.agg #[c0, c1, c2]] w fun e w' => e = .returned (.bool true) ∧ Below w.heap.size w w' := by
  have tA := Three.new w c0 c1 c2 26
  have hbe := (Below.refl w.heap.size w).alloc (Nat.le_refl _) (.cells #[c0, c1, c2] 26)
  have TA := Lib.hid tA
  have HBE := Lib.hid hbe
  have HS := Lib.hid (hS.below hbe)
  have HL := Lib.hid (hL.belowO hbe)
  have HB := Lib.hid (hB.below hbe)
  obtain ⟨x, hx⟩ : ∃ x, withinI (L.length : Int) 8 = x := ⟨_, rfl⟩
  have hxb := within_bd (L.length : Int) 8 (by omega) (by omega)
  rw [hx] at hxb
  have HX := Lib.hid hx
  have wx : IntKind.i64.wrap (1 + x) = 1 + x := IntWalk.i64_in _ (by omega)
  clear hx
  obtain ⟨A, c, rfl⟩ := hS.len
  obtain ⟨pL, kL, rfl⟩ := hL.row.shape
  obtain ⟨pb, cb, rfl, _⟩ := hB
  obtain ⟨a0, a1, a2, _, _, _⟩ := tA
  clear hbe hS hL
  go_enter Try.func8, Try.ntmps8
  go_upto_region 1 with fail
  clear a0 a1 a2
  generalize w.alloc (.cells #[.slice A S.length c, .slice pL L.length kL, .slice pb bs.length cb] 26) = W0 at *
  refine wp_region_held (S := fun W' => Below W0.heap.size W0 W') (by kernel_rfl) ?_
  change wpAnyH _ _ _ _ _ 9 _ _ W0.drew
  have hcum := (Below.refl W0.heap.size W0).drew
  generalize W0.drew = V0 at *
  refine wpAnyH_take (i := 0) (oi := { dst := some 3, op := Op.load 26 (Operand.tmp 1), type := 26, pos := "more.go:24", after := #[], guard := none }) (v := ?_) rfl (by kernel_rfl) (by kernel_rfl) (by kernel_rfl) (fun _ _ _ h => h) (Or.inl ⟨by rfl, fun W' hW' => ?_⟩) hcum ?_
  rotate_left 1
  · (obtain ⟨a0, a1, a2, _, _, _⟩ := TA.out.below hW'; go_simp)
    try rfl
  try simp only [Act.put, List.setIfInBounds_toArray, List.set_cons_zero, List.set_cons_succ]
  refine wpAnyH_take (i := 1) (oi := { dst := some 4, op := Op.fieldAddr 26 (Operand.tmp 1) 1, type := 0, pos := "more.go:24", after := #[], guard := none }) (v := ?_) rfl (by kernel_rfl) (by kernel_rfl) (by kernel_rfl) (fun _ _ _ h => h) (Or.inl ⟨by rfl, fun W' hW' => ?_⟩) hcum ?_
  rotate_left 1
  · go_simp
    try rfl
  try simp only [Act.put, List.setIfInBounds_toArray, List.set_cons_zero, List.set_cons_succ]
  refine wpAnyH_take (i := 2) (oi := { dst := some 5, op := Op.load 23 (Operand.tmp 4), type := 23, pos := "more.go:24", after := #[{ on := 1, ground := Ground.data }], guard := none }) (v := ?_) rfl (by kernel_rfl) (by kernel_rfl) (by kernel_rfl) (fun _ _ _ h => h) (Or.inl ⟨by rfl, fun W' hW' => ?_⟩) hcum ?_
  rotate_left 1
  · (obtain ⟨a0, a1, a2, _, _, _⟩ := TA.out.below hW'; go_simp)
    try rfl
  try simp only [Act.put, List.setIfInBounds_toArray, List.set_cons_zero, List.set_cons_succ]
  refine wpAnyH_take (i := 3) (oi := { dst := some 6, op := Op.call { callee := Callee.builtin Builtin.len, args := #[Operand.tmp 5], argTypes := #[23] }, type := 3, pos := "more.go:24", after := #[{ on := 2, ground := Ground.data }], guard := none }) (v := ?_) rfl (by kernel_rfl) (by kernel_rfl) (by kernel_rfl) (fun _ _ _ h => h) (Or.inl ⟨by rfl, fun W' hW' => ?_⟩) hcum ?_
  rotate_left 1
  · go_simp
    try rfl
  try simp only [Act.put, List.setIfInBounds_toArray, List.set_cons_zero, List.set_cons_succ]
  refine wpAnyH_ready (rs := [4]) (by kernel_rfl) (by simp) ?_
  refine AllReadyH.cons (o := { dst := some 7, op := Op.call { callee := Callee.value (Operand.func 25), args := #[Operand.tmp 6, Operand.const (Value.int IntKind.i64 8)], argTypes := #[3, 3] }, type := 3, pos := "more.go:24", after := #[{ on := 3, ground := Ground.data }], guard := none }) rfl (fun KK hK => ?_) AllReadyH.nil
  rw [if_pos (by rfl)]
  go_simp
  refine (within_any (L.length : Int) 8 V0 (by omega) (by omega)).mono ?_
  rintro e V1 ⟨rfl, hVV⟩
  have hbe : Below V0.heap.size V0 V1 := hVV ▸ Below.refl _ _
  clear hVV
  rw [HX.out]
  have hcum := hcum.trans (hbe.mono hcum.size)
  refine hK.out _ _ hcum (fun _ => ?_)
  clear hK hbe
  try simp only [Act.put, List.setIfInBounds_toArray, List.set_cons_zero, List.set_cons_succ]
  refine wpAnyH_take (i := 5) (oi := { dst := some 8, op := Op.binOp BinOp.add 3 (Operand.const (Value.int IntKind.i64 1)) (Operand.tmp 7) 3, type := 3, pos := "more.go:24", after := #[{ on := 4, ground := Ground.data }], guard := none }) (v := ?_) rfl (by kernel_rfl) (by kernel_rfl) (by kernel_rfl) (fun _ _ _ h => h) (Or.inl ⟨by rfl, fun W' hW' => ?_⟩) hcum ?_
  rotate_left 1
  · go_simp
    try rfl
  try simp only [Act.put, List.setIfInBounds_toArray, List.set_cons_zero, List.set_cons_succ]
  refine wpAnyH_take (i := 6) (oi := { dst := some 9, op := Op.build 29 #[(0, Operand.tmp 8), (2, Operand.const (Value.int IntKind.i64 4))], type := 29, pos := "more.go:24", after := #[{ on := 5, ground := Ground.data }], guard := none }) (v := ?_) rfl (by kernel_rfl) (by kernel_rfl) (by kernel_rfl) (fun _ _ _ h => h) (Or.inl ⟨by rfl, fun W' hW' => ?_⟩) hcum ?_
  rotate_left 1
  · go_simp
    try rfl
  try simp only [Act.put, List.setIfInBounds_toArray, List.set_cons_zero, List.set_cons_succ]
  refine wpAnyH_ready (rs := [7]) (by kernel_rfl) (by simp) ?_
  refine AllReadyH.cons (o := { dst := some 10, op := Op.call { callee := Callee.value (Operand.func 32), args := #[Operand.tmp 3, Operand.tmp 9], argTypes := #[26, 29] }, type := 4, pos := "more.go:24", after := #[{ on := 0, ground := Ground.data }, { on := 6, ground := Ground.data }, { on := 4, ground := Ground.chain }], guard := none }) rfl (fun KK hK => ?_) AllReadyH.nil
  rw [if_pos (by rfl)]
  go_simp
  refine (of_any _ _ _ S L bs (1 + x) 0 4 V1 (HS.out.below hcum) (HL.out.belowO hcum) (HB.out.below hcum) (fun W' d0 d1 d2 h0 h1 h2 => codeRebuilds_walk d0 d1 d2 [((1 + x), 0, 4)] L bs W' h0 h1 h2 (by simp))).mono ?_
  rintro e V2 ⟨rfl, hbe⟩
  have hcum := hcum.trans (hbe.mono hcum.size)
  refine hK.out _ _ hcum (fun _ => ?_)
  clear hK hbe
  try simp only [Act.put, List.setIfInBounds_toArray, List.set_cons_zero, List.set_cons_succ]
  refine wpAnyH_take (i := 8) (oi := { dst := some 2, op := Op.assign (Operand.tmp 10), type := 4, pos := "more.go:24", after := #[{ on := 7, ground := Ground.data }, { on := 7, ground := Ground.chain }, { on := 0, ground := Ground.phase }, { on := 1, ground := Ground.phase }, { on := 2, ground := Ground.phase }, { on := 3, ground := Ground.phase }, { on := 4, ground := Ground.phase }, { on := 5, ground := Ground.phase }, { on := 6, ground := Ground.phase }, { on := 7, ground := Ground.phase }], guard := none }) (v := ?_) rfl (by kernel_rfl) (by kernel_rfl) (by kernel_rfl) (fun _ _ _ h => h) (Or.inl ⟨by rfl, fun W' hW' => ?_⟩) hcum ?_
  rotate_left 1
  · go_simp
    try rfl
  try simp only [Act.put, List.setIfInBounds_toArray, List.set_cons_zero, List.set_cons_succ]
  refine wpAnyH_done (by kernel_rfl) ?_ _
  have hfin := HBE.out.trans (hcum.mono HBE.out.size)
  clear hcum
  go_wp2_with fail
  go_ret
  exact ⟨rfl, hfin⟩
end Go.Proofs.Ytdagnmhioellhaa
