/- siloref1.Invert, walked. -/
import Derived.Test.YtijcmdcjjcemfaaPkA12
import Derived.Test.YtijcmdcjjcemfaaPkA14
namespace Go.Proofs.Ytijcmdcjjcemfaa
open Go.ChangeShapes Go.WideShapes Go.ChangeAt Go.RowKit Go.Joins Go.Shelf
set_option linter.unusedVariables false
set_option linter.unusedSimpArgs false

theorem three_apart {w : World} {b g : Nat} {x y z : Value} {l : List Nat} (h : BytesBlk w g l) (hne : b ≠ g) : BytesBlk (((w.setCell ⟨b, 0, none⟩ x).setCell ⟨b, 1, none⟩ y).setCell ⟨b, 2, none⟩ z) g l :=
  blk_cell (blk_cell (blk_cell h hne) hne) hne

set_option maxRecDepth 100000 in
set_option maxHeartbeats 4000000 in
theorem refInvert_any (n : Nat) (vm : Value) (ns : List Nat) (w : World) (h : BytesV w vm ns) (hl : ns.length = n * n) (r1 : 1 ≤ n) (r16 : n ≤ 16) :
    Calls Try.prog 35 #[matV (n : Int) (n : Int) vm] w fun e w' => ∃ vl, e = .returned (.tuple #[matV (n : Int) (n : Int) vl, .bool ((rankL n n ns : Int) == (n : Int))]) ∧ BytesV w' vl (invO n ns) ∧ Below w.heap.size w w' := by
  obtain ⟨A, k, rfl⟩ := h.shape
  obtain ⟨oA, hoA⟩ : ∃ x, x = (Obj.cells #[.int .i64 (n : Int), .int .i64 (n : Int), .slice A ns.length k] 55) := ⟨_, rfl⟩
  obtain ⟨oR, hoR⟩ : ∃ x, x = (Obj.cells #[.int .i64 0, .int .i64 0, .slice none 0 0] 55) := ⟨_, rfl⟩
  have tA := Three.new w (.int .i64 (n : Int)) (.int .i64 (n : Int)) (.slice A ns.length k) 55
  rw [← hoA] at tA
  have tR := Three.new (w.alloc oA) (.int .i64 0) (.int .i64 0) (.slice none 0 0) 55
  rw [World.size_alloc, ← hoR] at tR
  have hbe : Below w.heap.size w ((w.alloc oA).alloc oR) := ((Below.refl w.heap.size w).alloc (Nat.le_refl _) oA).alloc (by simp) oR
  have hsz : ((w.alloc oA).alloc oR).heap.size = w.heap.size + 1 + 1 := by simp
  have TA := Lib.hid (tA.alloc oR)
  have TR := Lib.hid tR
  have HBE := Lib.hid hbe
  have HSZ := Lib.hid hsz
  have H := Lib.hid (h.below hbe)
  have HL := Lib.hid hl
  have ho := oneL_length n n
  clear tA tR hbe h hl hsz
  unfold matV
  go_enter Try.func35, Try.ntmps35
  go_upto_region 1 with (fail)
  rw [← hoA, ← hoR]
  generalize (w.alloc oA).alloc oR = W0 at *
  clear hoA hoR
  obtain ⟨a0, a1, a2, _, _, _⟩ := TA.out
  have n0 := World.new_ne W0 _ a0
  have HK : Hid (∀ W', Below W0.heap.size W0 W' → W'.cell? ⟨w.heap.size, 0, none⟩ = some (.int .i64 (n : Int)) ∧ W'.cell? ⟨w.heap.size, 1, none⟩ = some (.int .i64 (n : Int)) ∧ W'.cell? ⟨w.heap.size, 2, none⟩ = some (.slice A ns.length k)) := fun W' h => ⟨below_celllt a0 (cell_block a0) h, below_celllt a1 (cell_block a1) h, below_celllt a2 (cell_block a2) h⟩
  have HO := Lib.hid ho
  clear ho
  go_cut [4, 5] from 7 to 4 (fun r q wx => r = .int .i64 ((rankL n n ns : Nat) : Int) ∧ ∃ b5 g kk, q = .pointer (some ⟨b5, 0, none⟩) ∧ Three wx b5 (.int .i64 (n : Int)) (.int .i64 (n : Int)) (.slice (some ⟨g, 0, none⟩) (n * n) kk) ∧ BytesBlk wx g (invO n ns) ∧ g < wx.heap.size ∧ W0.heap.size ≤ g ∧ W0.heap.size ≤ b5 ∧ Below W0.heap.size W0 wx)
  case first =>
    go_region_held3 (fun W' => W'.cell? ⟨w.heap.size, 0, none⟩ = some (.int .i64 (n : Int)) ∧ W'.cell? ⟨w.heap.size, 1, none⟩ = some (.int .i64 (n : Int)) ∧ W'.cell? ⟨w.heap.size, 2, none⟩ = some (.slice A ns.length k)) (first | exact HK.out _ hcum | exact HK.out _ (Below.drew hcum) | go_keep)
      (first
        | (go_at_call 50; refine (refOne_any n r1 r16 _).mono ?_; rintro e w2 ⟨v2, rfl, hmm, hb2⟩; obtain ⟨v2s, rfl, hv2⟩ := hmm.bytes; have HX2 := Lib.hid hv2; have hcum : Below W0.heap.size W0 w2 := (by first | exact below_of_drewG hb2 | exact cum2 ((Below.refl W0.heap.size W0).alloc (Nat.le_refl _) _) (below_of_drewG hb2)); (try (have hal := Lib.hid ((Three.new W0 (.int .i64 0) (.int .i64 0) (.slice none 0 0) 55).below (below_of_drewG hb2)))); have hsA := hb2.size; clear hb2 hmm; obtain ⟨y0, y1, y2⟩ := HK.out _ hcum; have nx := World.new_ne _ _ y0)
        | (go_at_call 49; refine (swept_any n n n _ v2s ns (oneL n n) _ (by first | exact H.out.below hcum | exact H.out.below (hcum.alloc hcum.size _)) (by first | exact HX2.out | exact HX2.out.below ((Below.refl _ _).alloc (Nat.le_refl _) _)) HL.out HO.out r1 r16 r1 r16 r1 r16).mono ?_; rintro e w3 ⟨g3, k3, hg31, hg32, rfl, hv3, hb3⟩; have hs2 := hcum.size; have hcum : Below W0.heap.size W0 w3 := (by first | exact cum2 hcum hb3 | exact cum2 (hcum.alloc hcum.size _) hb3); (first | (have hal := Lib.hid ((Three.new w2 (.int .i64 0) (.int .i64 0) (.slice none 0 0) 55).below hb3)) | (have hal := Lib.hid (hal.out.below hb3)) | skip); (try (obtain ⟨e0, e1, e2, e3, e4, e5⟩ := hal.out)); have HV3 := Lib.hid (show BytesBlk w3 g3 (invO n ns) from hv3); clear hv3; obtain ⟨y0, y1, y2⟩ := HK.out _ hcum; have nx := World.new_ne _ _ y0; rw [HO.out]; unfold matV))
    all_goals
      have hRk := Lib.hid (rankL_of n n n ns (oneL n n))
      have q3 := hcum.size
      (try simp only [World.size_alloc] at hg31)
      (try (have hsB := (show (W0.alloc (.cells #[.int .i64 0, .int .i64 0, .slice none 0 0] 55)).heap.size ≤ w2.heap.size from hsA); rw [World.size_alloc] at hsB))
      clear a0 a1 a2 y0 y1 y2
      go_wp2_with fail
      go_meet
      refine ⟨by rw [hRk.out], ?_⟩
      first
        | exact ⟨_, g3, k3, rfl, Three.new _ _ _ _ _, blk_below HV3.out hg32 ((Below.refl _ _).alloc (Nat.le_refl _) _), by simp; omega, by omega, by omega, hcum.alloc hcum.size _⟩
        | exact ⟨_, g3, k3, rfl, three_put hal.out _ _ _, three_apart HV3.out (by omega), by simp only [World.size_setCell]; exact hg32, by omega, by omega, ((hcum.setCell (by first | exact Nat.le_refl _ | (dsimp only; omega)) _).setCell (by first | exact Nat.le_refl _ | (dsimp only; omega)) _).setCell (by first | exact Nat.le_refl _ | (dsimp only; omega)) _⟩
  case rest =>
    obtain ⟨rfl, b5, g, kk, rfl, h5, hg, hgs, hg0, hb0, hcum⟩ := hcut
    have hz := HSZ.out
    have HR := Lib.hid (TR.out.below hcum)
    have HFin := Lib.hid (HBE.out.trans (hcum.mono HBE.out.size))
    have HG := Lib.hid hg
    obtain ⟨r0, r1', r2, r3, r4, r5⟩ := HR.out
    obtain ⟨x0, x1, x2, _, _, _⟩ := h5
    clear a0 a1 a2
    obtain ⟨a0, a1, a2⟩ := HK.out _ hcum
    obtain ⟨rr, hrr⟩ : ∃ rr, rr = rankL n n ns := ⟨_, rfl⟩
    rw [← hrr]
    have HRR := Lib.hid hrr
    clear hrr hcum hg
    go_wp2_with fail
    go_region
    go_wp2_with fail
    obtain ⟨t0, t1, t2, _, _, _⟩ := three_put HR.out (.int .i64 (n : Int)) (.int .i64 (n : Int)) (.slice (some ⟨g, 0, none⟩) (n * n) kk)
    refine bodyPost_ret (v := .tuple #[matV (n : Int) (n : Int) (.slice (some ⟨g, 0, none⟩) (n * n) kk), .bool ((rr : Int) == (n : Int))]) (by simp [results, Try.results35, go_sem, matV, t0, t1, t2]) rfl ⟨_, by rw [HRR.out]; rfl, ?_, ?_⟩
    · have hbb := three_apart (b := w.heap.size + 1) (x := .int .i64 (n : Int)) (y := .int .i64 (n : Int)) (z := .slice (some ⟨g, 0, none⟩) (n * n) kk) HG.out (by omega)
      have := BytesV.of_blk (c := kk) hbb.drew (by show g < (World.setCell _ _ _).heap.size; simp only [World.size_setCell]; exact hgs)
      rw [invO_length] at this
      exact this
    · exact Below.drew (((HFin.out.setCell (p := ⟨w.heap.size + 1, 0, none⟩) (by simp) _).setCell (p := ⟨w.heap.size + 1, 1, none⟩) (by simp) _).setCell (p := ⟨w.heap.size + 1, 2, none⟩) (by simp) _)
end Go.Proofs.Ytijcmdcjjcemfaa

/- siloref1.Pick, walked. -/

namespace Go.Proofs.Ytijcmdcjjcemfaa
open Go.ChangeShapes Go.WideShapes Go.ChangeAt Go.RowKit Go.Joins
set_option linter.unusedVariables false
set_option linter.unusedSimpArgs false

set_option maxRecDepth 100000 in
set_option maxHeartbeats 4000000 in
theorem refPick_any (ra ca b o kc : Nat) (ms : List Nat) (vN : Value) (zs : List Int) (w : World) (hA : BytesV w (.slice (some ⟨b, o, none⟩) ms.length kc) ms) (hN : NumsIn w vN zs) (hla : ms.length = ra * ca)
    (r1 : 1 ≤ ra) (r16 : ra ≤ 16) (c1 : 1 ≤ ca) (c16 : ca ≤ 16) (hkc : ms.length ≤ kc) (hkc2 : kc ≤ 9223372036854775807) (z1 : 1 ≤ zs.length) (z16 : zs.length ≤ 16) (hz : ∀ z ∈ zs, 0 ≤ z ∧ z < (ra : Int)) :
    Calls Try.prog 36 #[matV (ra : Int) (ca : Int) (.slice (some ⟨b, o, none⟩) ms.length kc), vN] w fun e w' =>
      ∃ r, e = .returned (matV (zs.length : Int) (ca : Int) r) ∧ w'.ownsRow w.heap.size 5 1 r (zs.length * ca) (u8s (pickL ms ca zs)) ∧ Below w.heap.size w w' := by
  obtain ⟨i0, hi, hz0, hz1, hz2⟩ := info_parts infoU8
  obtain ⟨p, cap, rfl, hS⟩ := numsIn_slice hN
  obtain ⟨o1, ho1⟩ : ∃ o', o' = (Obj.cells #[.int .i64 (ra : Int), .int .i64 (ca : Int), .slice (some ⟨b, o, none⟩) ms.length kc] 55) := ⟨_, rfl⟩
  obtain ⟨o2, ho2⟩ : ∃ o', o' = (Obj.cells #[.int .i64 0, .int .i64 0, .slice none 0 0] 55) := ⟨_, rfl⟩
  obtain ⟨o3, ho3⟩ : ∃ o', o' = (Obj.cells #[.int .i64 (zs.length : Int), .int .i64 (ca : Int), .slice none 0 0] 55) := ⟨_, rfl⟩
  have tA := Three.new w (.int .i64 (ra : Int)) (.int .i64 (ca : Int)) (.slice (some ⟨b, o, none⟩) ms.length kc) 55
  rw [← ho1] at tA
  have tR := Three.new (w.alloc o1) (.int .i64 0) (.int .i64 0) (.slice none 0 0) 55
  rw [World.size_alloc, ← ho2] at tR
  have t7 := Three.new ((w.alloc o1).alloc o2) (.int .i64 (zs.length : Int)) (.int .i64 (ca : Int)) (.slice none 0 0) 55
  rw [World.size_alloc, World.size_alloc, ← ho3] at t7
  have hbe : Below w.heap.size w ((w.alloc o1).alloc o2) := ((Below.refl w.heap.size w).alloc (Nat.le_refl _) o1).alloc (by simp) o2
  have hb8 := (Below.refl ((w.alloc o1).alloc o2).heap.size ((w.alloc o1).alloc o2)).alloc (Nat.le_refl _) o3
  have HTA := Lib.hid (tA.alloc o2)
  have HTR := Lib.hid tR
  have HT8 := Lib.hid t7
  have HBE := Lib.hid hbe
  have HB8 := Lib.hid hb8
  have HA := Lib.hid (hA.below hbe)
  have HLA := Lib.hid hla
  have HZ := Lib.hid hz
  have HS0 := Lib.hid (hS.below hbe)
  have HBD := Lib.hid hN.1
  obtain ⟨b7, hb7e⟩ : ∃ b7, b7 = w.heap.size + 1 + 1 := ⟨_, rfl⟩
  have hb70 : b7 < (((w.alloc o1).alloc o2).alloc o3).heap.size := by simp; omega
  have hW17 : ((w.alloc o1).alloc o2).heap.size ≤ b7 := by simp; omega
  have hwb : w.heap.size + 1 < b7 := by omega
  rw [← hb7e] at HT8
  obtain ⟨a0, a1, a2, _, _, _⟩ := tA.alloc o2
  rw [ho1, ho2] at a0 a1 a2
  have HBX := Lib.hid hb7e
  clear hla hz hbe hA hN hS tA tR t7 hb8 hb7e
  unfold matV
  go_enter Try.func36, Try.ntmps36
  go_wp2_with fail
  rw [← ho1, ← ho2, ← ho3, ← HBX.out]
  clear a0 a1 a2 ho1 ho2 ho3 HBX
  generalize ((w.alloc o1).alloc o2).alloc o3 = W8 at *
  generalize (w.alloc o1).alloc o2 = W0 at *
  go_loopw [6] (fun ii wr => ∃ (k : Nat) (xv : Value), ii = .int .i64 k ∧ k ≤ zs.length ∧ Hid (Three wr b7 (.int .i64 (zs.length : Int)) (.int .i64 (ca : Int)) xv) ∧ wr.ownsRow (b7 + 1) 5 1 xv (k * ca) (u8s (pickL ms ca (zs.take k))) ∧ Hid (Below W0.heap.size W0 wr) ∧ b7 < wr.heap.size) (fun ii _ => zs.length - (intOf ii).toNat)
  case atStart => exact ⟨0, _, rfl, by omega, HT8, by rw [Nat.zero_mul]; exact World.ownsRow_nil _ _ _ _, HB8, hb70⟩
  case round =>
    clear HT8 HB8 hb70
    obtain ⟨k, xv, rfl, hk, HT7, hown, HB, hb7⟩ := hrel
    by_cases hlt : k < zs.length
    · obtain ⟨bz, oz, x, rfl, hx, HX, hcell0⟩ := num_at HS0.out HBD.out hlt
      have hxz := HZ.out x (by rw [HX.out, ← List.getElem_eq_getD (h := hlt)]; exact List.getElem_mem _)
      obtain ⟨zi, hzi⟩ : ∃ zi : Nat, x = (zi : Int) := ⟨x.toNat, by omega⟩
      subst hzi
      have hzr : zi < ra := by omega
      have hrow : (zi + 1) * ca ≤ ms.length := by rw [HLA.out]; exact Nat.mul_le_mul_right ca hzr
      have i0' : (0 : Int) ≤ (k : Int) := by omega
      have i1' : (k : Int) < (zs.length : Int) := by omega
      have HRL := Lib.hid (rowN_length hrow)
      have hkca : k * ca ≤ 16 * 16 := Nat.mul_le_mul (by omega) c16
      have HTK : Hid ((k + 1) * ca = k * ca + ca) := Nat.succ_mul k ca
      have HPK : Hid (u8s (pickL ms ca (zs.take k)) ++ u8s (rowN ms ca zi) = u8s (pickL ms ca (zs.take (k + 1)))) := by
        rw [Hid, pickL_snoc hlt, ← HX.out, u8s_app]; rfl
      have HZC : Hid (∀ W', Below W0.heap.size W0 W' → W'.cell? ⟨bz, oz + k, none⟩ = some (.int .i64 (zi : Int))) := fun W' h => below_celllt hcell0 (cell_block hcell0) h
      obtain ⟨q1, hq1⟩ : ∃ q1, q1 = zi * ca := ⟨_, rfl⟩
      obtain ⟨q2, hq2⟩ : ∃ q2, q2 = (zi + 1) * ca := ⟨_, rfl⟩
      have hq12 : q2 = q1 + ca := by rw [hq2, hq1, Nat.add_mul, Nat.one_mul]
      have p1 : (zi : Int) * (ca : Int) = (q1 : Int) := by rw [hq1]; simp
      have p2 : ((zi : Int) + 1) * (ca : Int) = (q2 : Int) := by rw [hq2]; simp
      have hq16 : q2 ≤ ms.length := by rw [hq2]; exact hrow
      have HQ1 : Hid (zi * ca = q1) := hq1.symm
      have HQ12 : Hid (q2 - q1 = ca) := by rw [Hid]; omega
      have h4 : (0 : Int) ≤ (q1 : Int) := by omega
      have h5 : (q1 : Int) ≤ (q2 : Int) := by omega
      have h6 : (q2 : Int) ≤ (kc : Int) := by omega
      have h7 : ¬ kc = q1 := by omega
      have w1 : IntKind.i64.wrap (q1 : Int) = (q1 : Int) := IntWalk.i64_in _ (by omega)
      have w2 : IntKind.i64.wrap (q2 : Int) = (q2 : Int) := IntWalk.i64_in _ (by omega)
      have w3 : IntKind.i64.wrap ((zi : Int) + 1) = (zi : Int) + 1 := IntWalk.i64_in _ (by omega)
      clear hq1 hq2 hq12
      go_upto_region 5 with (fail)
      clear hcell0
      refine wp_region_held (S := fun W' => Below W0.heap.size W0 W') (by kernel_rfl) ?_
      change wpAnyH _ _ _ _ _ 23 _ _ wr.drew
      have hcum := HB.out.drew
      have T7 := HT7.out.below (Below.refl wr.heap.size wr).drew
      have hown := own_below hown (Below.refl wr.heap.size wr).drew
      have hb7 : b7 < wr.drew.heap.size := hb7
      obtain ⟨x0, x1, x2, x3, x4, x5⟩ := id T7
      generalize wr.drew = V0 at *
      refine wpAnyH_take (i := 0) (oi := { dst := some 18, op := Op.fieldAddr 55 (Operand.tmp 5) 2, type := 0, pos := "siloref1.go:126", after := #[], guard := none }) (v := ?_) rfl (by kernel_rfl) (by kernel_rfl) (by kernel_rfl) (fun _ _ _ h => h) (Or.inl ⟨by rfl, fun W' hW' => ?_⟩) hcum ?_
      rotate_left 1
      · go_simp
        try rfl
      try simp only [Act.put, List.setIfInBounds_toArray, List.set_cons_zero, List.set_cons_succ]
      refine wpAnyH_take (i := 2) (oi := { dst := some 20, op := Op.fieldAddr 55 (Operand.tmp 2) 2, type := 0, pos := "siloref1.go:126", after := #[], guard := none }) (v := ?_) rfl (by kernel_rfl) (by kernel_rfl) (by kernel_rfl) (fun _ _ _ h => h) (Or.inl ⟨by rfl, fun W' hW' => ?_⟩) hcum ?_
      rotate_left 1
      · go_simp
        try rfl
      try simp only [Act.put, List.setIfInBounds_toArray, List.set_cons_zero, List.set_cons_succ]
      refine wpAnyH_take (i := 3) (oi := { dst := some 21, op := Op.load 35 (Operand.tmp 20), type := 35, pos := "siloref1.go:126", after := #[{ on := 2, ground := Ground.data }], guard := none }) (v := ?_) rfl (by kernel_rfl) (by kernel_rfl) (by kernel_rfl) (fun _ _ _ h => h) (Or.inl ⟨by rfl, fun W' hW' => ?_⟩) hcum ?_
      rotate_left 1
      · (obtain ⟨a0, a1, a2, _, _, _⟩ := HTA.out.below hW'; have hzc := HZC.out W' hW'; go_simp)
        try rfl
      try simp only [Act.put, List.setIfInBounds_toArray, List.set_cons_zero, List.set_cons_succ]
      refine wpAnyH_take (i := 4) (oi := { dst := some 22, op := Op.move (Operand.tmp 1), type := 34, pos := "siloref1.go:126", after := #[], guard := none }) (v := ?_) rfl (by kernel_rfl) (by kernel_rfl) (by kernel_rfl) (fun _ _ _ h => h) (Or.inl ⟨by rfl, fun W' hW' => ?_⟩) hcum ?_
      rotate_left 1
      · go_simp
        try rfl
      try simp only [Act.put, List.setIfInBounds_toArray, List.set_cons_zero, List.set_cons_succ]
      refine wpAnyH_take (i := 5) (oi := { dst := some 23, op := Op.move (Operand.tmp 6), type := 3, pos := "siloref1.go:126", after := #[], guard := none }) (v := ?_) rfl (by kernel_rfl) (by kernel_rfl) (by kernel_rfl) (fun _ _ _ h => h) (Or.inl ⟨by rfl, fun W' hW' => ?_⟩) hcum ?_
      rotate_left 1
      · go_simp
        try rfl
      try simp only [Act.put, List.setIfInBounds_toArray, List.set_cons_zero, List.set_cons_succ]
      refine wpAnyH_take (i := 6) (oi := { dst := some 24, op := Op.indexAddr 34 (Operand.tmp 22) (Operand.tmp 23), type := 0, pos := "siloref1.go:126", after := #[{ on := 4, ground := Ground.data }, { on := 5, ground := Ground.data }], guard := none }) (v := ?_) rfl (by kernel_rfl) (by kernel_rfl) (by kernel_rfl) (fun _ _ _ h => h) (Or.inl ⟨by rfl, fun W' hW' => ?_⟩) hcum ?_
      rotate_left 1
      · go_simp
        try rfl
      try simp only [Act.put, List.setIfInBounds_toArray, List.set_cons_zero, List.set_cons_succ]
      refine wpAnyH_take (i := 7) (oi := { dst := some 25, op := Op.load 3 (Operand.tmp 24), type := 3, pos := "siloref1.go:126", after := #[{ on := 6, ground := Ground.data }], guard := none }) (v := ?_) rfl (by kernel_rfl) (by kernel_rfl) (by kernel_rfl) (fun _ _ _ h => h) (Or.inl ⟨by rfl, fun W' hW' => ?_⟩) hcum ?_
      rotate_left 1
      · (obtain ⟨a0, a1, a2, _, _, _⟩ := HTA.out.below hW'; have hzc := HZC.out W' hW'; go_simp)
        try rfl
      try simp only [Act.put, List.setIfInBounds_toArray, List.set_cons_zero, List.set_cons_succ]
      refine wpAnyH_take (i := 8) (oi := { dst := some 26, op := Op.fieldAddr 55 (Operand.tmp 2) 1, type := 0, pos := "siloref1.go:126", after := #[], guard := none }) (v := ?_) rfl (by kernel_rfl) (by kernel_rfl) (by kernel_rfl) (fun _ _ _ h => h) (Or.inl ⟨by rfl, fun W' hW' => ?_⟩) hcum ?_
      rotate_left 1
      · go_simp
        try rfl
      try simp only [Act.put, List.setIfInBounds_toArray, List.set_cons_zero, List.set_cons_succ]
      refine wpAnyH_take (i := 9) (oi := { dst := some 27, op := Op.load 3 (Operand.tmp 26), type := 3, pos := "siloref1.go:126", after := #[{ on := 8, ground := Ground.data }], guard := none }) (v := ?_) rfl (by kernel_rfl) (by kernel_rfl) (by kernel_rfl) (fun _ _ _ h => h) (Or.inl ⟨by rfl, fun W' hW' => ?_⟩) hcum ?_
      rotate_left 1
      · (obtain ⟨a0, a1, a2, _, _, _⟩ := HTA.out.below hW'; have hzc := HZC.out W' hW'; go_simp)
        try rfl
      try simp only [Act.put, List.setIfInBounds_toArray, List.set_cons_zero, List.set_cons_succ]
      refine wpAnyH_take (i := 10) (oi := { dst := some 28, op := Op.binOp BinOp.mul 3 (Operand.tmp 25) (Operand.tmp 27) 3, type := 3, pos := "siloref1.go:126", after := #[{ on := 7, ground := Ground.data }, { on := 9, ground := Ground.data }], guard := none }) (v := ?_) rfl (by kernel_rfl) (by kernel_rfl) (by kernel_rfl) (fun _ _ _ h => h) (Or.inl ⟨by rfl, fun W' hW' => ?_⟩) hcum ?_
      rotate_left 1
      · go_simp
        try rfl
      try simp only [Act.put, List.setIfInBounds_toArray, List.set_cons_zero, List.set_cons_succ]
      refine wpAnyH_take (i := 11) (oi := { dst := some 29, op := Op.move (Operand.tmp 1), type := 34, pos := "siloref1.go:126", after := #[], guard := none }) (v := ?_) rfl (by kernel_rfl) (by kernel_rfl) (by kernel_rfl) (fun _ _ _ h => h) (Or.inl ⟨by rfl, fun W' hW' => ?_⟩) hcum ?_
      rotate_left 1
      · go_simp
        try rfl
      try simp only [Act.put, List.setIfInBounds_toArray, List.set_cons_zero, List.set_cons_succ]
      refine wpAnyH_take (i := 12) (oi := { dst := some 30, op := Op.move (Operand.tmp 6), type := 3, pos := "siloref1.go:126", after := #[], guard := none }) (v := ?_) rfl (by kernel_rfl) (by kernel_rfl) (by kernel_rfl) (fun _ _ _ h => h) (Or.inl ⟨by rfl, fun W' hW' => ?_⟩) hcum ?_
      rotate_left 1
      · go_simp
        try rfl
      try simp only [Act.put, List.setIfInBounds_toArray, List.set_cons_zero, List.set_cons_succ]
      refine wpAnyH_take (i := 13) (oi := { dst := some 31, op := Op.indexAddr 34 (Operand.tmp 29) (Operand.tmp 30), type := 0, pos := "siloref1.go:126", after := #[{ on := 11, ground := Ground.data }, { on := 12, ground := Ground.data }], guard := none }) (v := ?_) rfl (by kernel_rfl) (by kernel_rfl) (by kernel_rfl) (fun _ _ _ h => h) (Or.inl ⟨by rfl, fun W' hW' => ?_⟩) hcum ?_
      rotate_left 1
      · go_simp
        try rfl
      try simp only [Act.put, List.setIfInBounds_toArray, List.set_cons_zero, List.set_cons_succ]
      refine wpAnyH_take (i := 14) (oi := { dst := some 32, op := Op.load 3 (Operand.tmp 31), type := 3, pos := "siloref1.go:126", after := #[{ on := 13, ground := Ground.data }], guard := none }) (v := ?_) rfl (by kernel_rfl) (by kernel_rfl) (by kernel_rfl) (fun _ _ _ h => h) (Or.inl ⟨by rfl, fun W' hW' => ?_⟩) hcum ?_
      rotate_left 1
      · (obtain ⟨a0, a1, a2, _, _, _⟩ := HTA.out.below hW'; have hzc := HZC.out W' hW'; go_simp)
        try rfl
      try simp only [Act.put, List.setIfInBounds_toArray, List.set_cons_zero, List.set_cons_succ]
      refine wpAnyH_take (i := 15) (oi := { dst := some 33, op := Op.binOp BinOp.add 3 (Operand.tmp 32) (Operand.const (Value.int IntKind.i64 1)) 3, type := 3, pos := "siloref1.go:126", after := #[{ on := 14, ground := Ground.data }], guard := none }) (v := ?_) rfl (by kernel_rfl) (by kernel_rfl) (by kernel_rfl) (fun _ _ _ h => h) (Or.inl ⟨by rfl, fun W' hW' => ?_⟩) hcum ?_
      rotate_left 1
      · go_simp
        try rfl
      try simp only [Act.put, List.setIfInBounds_toArray, List.set_cons_zero, List.set_cons_succ]
      refine wpAnyH_take (i := 16) (oi := { dst := some 34, op := Op.fieldAddr 55 (Operand.tmp 2) 1, type := 0, pos := "siloref1.go:126", after := #[], guard := none }) (v := ?_) rfl (by kernel_rfl) (by kernel_rfl) (by kernel_rfl) (fun _ _ _ h => h) (Or.inl ⟨by rfl, fun W' hW' => ?_⟩) hcum ?_
      rotate_left 1
      · go_simp
        try rfl
      try simp only [Act.put, List.setIfInBounds_toArray, List.set_cons_zero, List.set_cons_succ]
      refine wpAnyH_take (i := 17) (oi := { dst := some 35, op := Op.load 3 (Operand.tmp 34), type := 3, pos := "siloref1.go:126", after := #[{ on := 16, ground := Ground.data }], guard := none }) (v := ?_) rfl (by kernel_rfl) (by kernel_rfl) (by kernel_rfl) (fun _ _ _ h => h) (Or.inl ⟨by rfl, fun W' hW' => ?_⟩) hcum ?_
      rotate_left 1
      · (obtain ⟨a0, a1, a2, _, _, _⟩ := HTA.out.below hW'; have hzc := HZC.out W' hW'; go_simp)
        try rfl
      try simp only [Act.put, List.setIfInBounds_toArray, List.set_cons_zero, List.set_cons_succ]
      refine wpAnyH_take (i := 18) (oi := { dst := some 36, op := Op.binOp BinOp.mul 3 (Operand.tmp 33) (Operand.tmp 35) 3, type := 3, pos := "siloref1.go:126", after := #[{ on := 15, ground := Ground.data }, { on := 17, ground := Ground.data }], guard := none }) (v := ?_) rfl (by kernel_rfl) (by kernel_rfl) (by kernel_rfl) (fun _ _ _ h => h) (Or.inl ⟨by rfl, fun W' hW' => ?_⟩) hcum ?_
      rotate_left 1
      · go_simp
        try rfl
      try simp only [Act.put, List.setIfInBounds_toArray, List.set_cons_zero, List.set_cons_succ]
      refine wpAnyH_take (i := 19) (oi := { dst := some 37, op := Op.slice 35 (Operand.tmp 21) (some (Operand.tmp 28)) (some (Operand.tmp 36)) none, type := 35, pos := "siloref1.go:126", after := #[{ on := 3, ground := Ground.data }, { on := 10, ground := Ground.data }, { on := 18, ground := Ground.data }], guard := none }) (v := ?_) rfl (by kernel_rfl) (by kernel_rfl) (by kernel_rfl) (fun _ _ _ h => h) (Or.inl ⟨by rfl, fun W' hW' => ?_⟩) hcum ?_
      rotate_left 1
      · go_simp
        try rfl
      try simp only [Act.put, List.setIfInBounds_toArray, List.set_cons_zero, List.set_cons_succ]
      refine wpAnyH_ready (rs := [1]) (by kernel_rfl) (by simp) ?_
      refine AllReadyH.cons (o := { dst := some 19, op := Op.load 35 (Operand.tmp 18), type := 35, pos := "siloref1.go:126", after := #[{ on := 0, ground := Ground.data }], guard := none }) rfl (fun K hK => ?_) AllReadyH.nil
      rw [if_pos (by rfl)]
      go_simp
      refine hK.out _ _ hcum (fun _ => ?_)
      clear hK
      obtain ⟨V1, rfl⟩ : ∃ V, V = V0 := ⟨_, rfl⟩
      try simp only [Act.put, List.setIfInBounds_toArray, List.set_cons_zero, List.set_cons_succ]
      refine wpAnyH_ready (rs := [20]) (by kernel_rfl) (by simp) ?_
      refine AllReadyH.cons (o := { dst := some 38, op := Op.call { callee := Callee.builtin Builtin.append, args := #[Operand.tmp 19, Operand.tmp 37], argTypes := #[35, 35] }, type := 35, pos := "siloref1.go:126", after := #[{ on := 1, ground := Ground.data }, { on := 19, ground := Ground.data }], guard := none }) rfl (fun K hK => ?_) AllReadyH.nil
      refine step_append_lies _ (by rfl) _ _ _ (by rfl) (b7 + 1) 5 i0 _ 1 1 Try.underlying35 hi hz0 hz1 hz2 rfl (by decide) _ _ _ (by rfl) hown ⟨b, o + q1, none⟩ ca (kc - q1) (u8s (rowN ms ca zi)) (by simp [Act.eval, HQ12.out]) (by rw [u8s_length, HRL.out, Nat.mul_one]) (HQ1.out ▸ row_cells (HA.out.below hcum) hrow) (u8s_one _) (by omega) (by unfold maxLen; omega) (by omega) (by omega) V1.heap.size rfl ?_
      intro gg cap V2 hown' hgrow hat hltg
      have hbg : Below (b7 + 1) V1 V2 := (Below.refl (b7 + 1) V1).grown hgrow (by omega) (fun k hk => (hown.lt k hk).1)
      have T7 := T7.belowB hbg (by omega)
      have hsz := hbg.size
      have hb7 := Nat.lt_of_lt_of_le hb7 hbg.size
      have hcum := hcum.trans (hbg.mono (by omega))
      clear hown hgrow hat hltg x0 x1 x2 x3 x4 x5
      obtain ⟨x0, x1, x2, x3, x4, x5⟩ := id T7
      refine hK.out _ _ hcum (fun _ => ?_)
      clear hK hbg
      try simp only [Act.put, List.setIfInBounds_toArray, List.set_cons_zero, List.set_cons_succ]
      refine wpAnyH_take (i := 21) (oi := { dst := some 39, op := Op.fieldAddr 55 (Operand.tmp 5) 2, type := 0, pos := "siloref1.go:126", after := #[{ on := 0, ground := Ground.phase }, { on := 1, ground := Ground.phase }, { on := 2, ground := Ground.phase }, { on := 3, ground := Ground.phase }, { on := 4, ground := Ground.phase }, { on := 5, ground := Ground.phase }, { on := 6, ground := Ground.phase }, { on := 7, ground := Ground.phase }, { on := 8, ground := Ground.phase }, { on := 9, ground := Ground.phase }, { on := 10, ground := Ground.phase }, { on := 11, ground := Ground.phase }, { on := 12, ground := Ground.phase }, { on := 13, ground := Ground.phase }, { on := 14, ground := Ground.phase }, { on := 15, ground := Ground.phase }, { on := 16, ground := Ground.phase }, { on := 17, ground := Ground.phase }, { on := 18, ground := Ground.phase }, { on := 19, ground := Ground.phase }, { on := 20, ground := Ground.phase }], guard := none }) (v := ?_) rfl (by kernel_rfl) (by kernel_rfl) (by kernel_rfl) (fun _ _ _ h => h) (Or.inl ⟨by rfl, fun W' hW' => ?_⟩) hcum ?_
      rotate_left 1
      · go_simp
        try rfl
      try simp only [Act.put, List.setIfInBounds_toArray, List.set_cons_zero, List.set_cons_succ]
      refine wpAnyH_ready (rs := [22]) (by kernel_rfl) (by simp) ?_
      refine AllReadyH.cons (o := { dst := none, op := Op.store 35 (Operand.tmp 39) (Operand.tmp 38), type := 0, pos := "siloref1.go:126", after := #[{ on := 21, ground := Ground.data }, { on := 20, ground := Ground.data }, { on := 20, ground := Ground.chain }, { on := 0, ground := Ground.phase }, { on := 1, ground := Ground.phase }, { on := 2, ground := Ground.phase }, { on := 3, ground := Ground.phase }, { on := 4, ground := Ground.phase }, { on := 5, ground := Ground.phase }, { on := 6, ground := Ground.phase }, { on := 7, ground := Ground.phase }, { on := 8, ground := Ground.phase }, { on := 9, ground := Ground.phase }, { on := 10, ground := Ground.phase }, { on := 11, ground := Ground.phase }, { on := 12, ground := Ground.phase }, { on := 13, ground := Ground.phase }, { on := 14, ground := Ground.phase }, { on := 15, ground := Ground.phase }, { on := 16, ground := Ground.phase }, { on := 17, ground := Ground.phase }, { on := 18, ground := Ground.phase }, { on := 19, ground := Ground.phase }, { on := 20, ground := Ground.phase }], guard := none }) rfl (fun K hK => ?_) AllReadyH.nil
      rw [if_pos (by rfl)]
      go_simp
      clear x0 x1 x2 x3 x4 x5
      have T7 := three_put2 T7 (.slice (some ⟨gg, 0, none⟩) (k * ca + ca) cap)
      have hown := own_cell hown' (d := ⟨b7, 2, none⟩) (u := .slice (some ⟨gg, 0, none⟩) (k * ca + ca) cap) (by dsimp only; omega)
      have hcum := hcum.setCell (p := ⟨b7, 2, none⟩) (by dsimp only; omega) (.slice (some ⟨gg, 0, none⟩) (k * ca + ca) cap)
      have hb7 : b7 < (V2.setCell ⟨b7, 2, none⟩ (.slice (some ⟨gg, 0, none⟩) (k * ca + ca) cap)).heap.size := by rw [World.size_setCell]; exact hb7
      refine hK.out _ _ hcum (fun _ => ?_)
      clear hK hown'
      generalize V2.setCell ⟨b7, 2, none⟩ (.slice (some ⟨gg, 0, none⟩) (k * ca + ca) cap) = V3 at *
      try simp only [Act.put, List.setIfInBounds_toArray, List.set_cons_zero, List.set_cons_succ]
      refine wpAnyH_done (by kernel_rfl) ?_ _
      go_wp2_with fail
      go_roundw
      case rel => exact ⟨k + 1, _, by go_num, by omega, Lib.hid T7, by rw [HTK.out, ← HPK.out]; exact hown, Lib.hid hcum, hb7⟩
      case measure => simp [intOf]; omega
    · have hke : k = zs.length := by omega
      rw [hke, List.take_length] at hown
      have hT7 := HT7.out
      have hfr := three_put ((HTR.out.below HB.out)) (.int .i64 (zs.length : Int)) (.int .i64 (ca : Int)) xv
      have HO := Lib.hid (own_cell (own_cell (own_cell hown (d := ⟨w.heap.size + 1, 0, none⟩) (u := .int .i64 (zs.length : Int)) (by dsimp only; omega)) (d := ⟨w.heap.size + 1, 1, none⟩) (u := .int .i64 (ca : Int)) (by dsimp only; omega)) (d := ⟨w.heap.size + 1, 2, none⟩) (u := xv) (by dsimp only; omega))
      obtain ⟨Ax, cx, rfl⟩ := own_shape hown
      obtain ⟨x0, x1, x2, _, _, _⟩ := hT7
      obtain ⟨r0, r1', r2, r3, r4, r5⟩ := HTR.out.below HB.out
      have HBF := Lib.hid (HBE.out.trans (HB.out.mono HBE.out.size))
      have hkd : decide ((k : Int) < (zs.length : Int)) = false := by simp; omega
      clear hke hown
      go_wp2_with fail
      obtain ⟨t0, t1, t2, _, _, _⟩ := hfr
      refine bodyPost_ret (v := matV (zs.length : Int) (ca : Int) (.slice Ax (zs.length * ca) cx)) (by simp [results, Try.results36, go_sem, matV, t0, t1, t2]) rfl ⟨_, rfl, ?_, ?_⟩
      · exact own_base HO.out (by omega)
      · exact ((HBF.out.setCell (p := ⟨w.heap.size + 1, 0, none⟩) (by dsimp only; omega) _).setCell (p := ⟨w.heap.size + 1, 1, none⟩) (by dsimp only; omega) _).setCell (p := ⟨w.heap.size + 1, 2, none⟩) (by dsimp only; omega) _
end Go.Proofs.Ytijcmdcjjcemfaa
