/- code.Gen, walked. -/
import Derived.Test.YtijcmdcjjcemfaaPkA16
import Derived.Test.YtijcmdcjjcemfaaPkA15
import Derived.Test.YtijcmdcjjcemfaaPkA12
import Derived.Test.YtijcmdcjjcemfaaPkA06
import Derived.OrdersHeld
import Derived.Deep.RegionHeld
import Derived.Deep.RegionHeld3
import Derived.Deep.CutBlock
namespace Go.Proofs.Ytijcmdcjjcemfaa
open Go.ChangeShapes Go.WideShapes Go.ChangeAt Go.RowKit Go.Joins
set_option linter.unusedVariables false
set_option linter.unusedSimpArgs false

theorem pickFirst_any (n K B nk : Nat) (rf : Value) (w : World) (hA : BytesV w (.slice (some ⟨B, 0, none⟩) nk nk) (vandL n K)) (hN : NumsIn w rf (firstL K)) (k1 : 1 ≤ K) (k8 : K ≤ 8) (hK : K ≤ n) (hn : n ≤ 14) (hnk : nk = n * K) :
    Calls Try.prog 54 #[matV (n : Int) (K : Int) (.slice (some ⟨B, 0, none⟩) nk nk), rf] w fun e w' => ∃ r, e = .returned (.tuple #[matV (K : Int) (K : Int) r, .int .i64 0]) ∧ BytesV w' r (topL n K) ∧ Below w.heap.size w w' := by
  have hle : nk ≤ 14 * 8 := by rw [hnk]; exact Nat.mul_le_mul hn k8
  have e : (vandL n K).length = nk := by rw [vandL_len, hnk]
  have hA' : BytesV w (.slice (some ⟨B, 0, none⟩) (vandL n K).length nk) (vandL n K) := by rw [e]; exact hA
  have HC := pick_yes n K B 0 nk (vandL n K) rf (firstL K) w hA' hN (vandL_len n K) (by omega) (by omega) k1 (by omega) (by omega) (by omega) (by rw [firstL_len]; exact k1) (by rw [firstL_len]; omega) (fun z hz => (firstOk hK).lt z hz)
  rw [firstL_len, e] at HC
  refine HC.mono ?_
  rintro e w' ⟨r, rfl, hown, hbe⟩
  obtain ⟨X, hX, _⟩ := own_of_row (ns := topL n K) (by rw [topL_len hK]; exact hown) (topL_lt n K)
  exact ⟨r, rfl, hX.1, hbe⟩

set_option maxRecDepth 100000 in
set_option maxHeartbeats 4000000 in
theorem gen_any (K M : Nat) (z : Int) (w : World) (k1 : 1 ≤ K) (k8 : K ≤ 8) (m6 : M ≤ 6) :
    Calls Try.prog 45 #[.agg #[.int .i64 (K : Int), .int .i64 (M : Int), .int .i64 z]] w fun e w' =>
      ∃ v, e = .returned v ∧ MadeM w w' v (K + M) K (genL (K + M) K) ∧ Below w.heap.size w w' := by
  obtain ⟨n, hn⟩ : ∃ n, n = K + M := ⟨_, rfl⟩
  obtain ⟨nk, hnk⟩ : ∃ nk, nk = n * K := ⟨_, rfl⟩
  have hKn : K ≤ n := by omega
  have hn14 : n ≤ 14 := by omega
  have hle : nk ≤ 14 * 8 := by rw [hnk]; exact Nat.mul_le_mul hn14 k8
  rw [← hn]
  obtain ⟨o1, ho1⟩ : ∃ o, o = (Obj.cells #[.int .i64 (K : Int), .int .i64 (M : Int), .int .i64 z] 29) := ⟨_, rfl⟩
  obtain ⟨o2, ho2⟩ : ∃ o, o = (Obj.cells #[.int .i64 0, .int .i64 0, .slice none 0 0] 55) := ⟨_, rfl⟩
  have t1 := Three.new w (.int .i64 (K : Int)) (.int .i64 (M : Int)) (.int .i64 z) 29
  rw [← ho1] at t1
  have t1 := t1.alloc o2
  have t2 := Three.new (w.alloc o1) (.int .i64 0) (.int .i64 0) (.slice none 0 0) 55
  rw [World.size_alloc, ← ho2] at t2
  have hbe : Below w.heap.size w ((w.alloc o1).alloc o2) := ((Below.refl w.heap.size w).alloc (Nat.le_refl _) o1).alloc (by simp) o2
  have hs2 : w.heap.size + 1 < ((w.alloc o1).alloc o2).heap.size := by simp
  have w1 : IntKind.i64.wrap ((K : Int) + (M : Int)) = (n : Int) := by rw [IntWalk.i64_in _ (by omega)]; omega
  have HT1 := Lib.hid t1
  have HT2 := Lib.hid t2
  have HBE := Lib.hid hbe
  have HNK := Lib.hid hnk
  have HNN := Lib.hid hn
  obtain ⟨a0, a1, _, _, _, _⟩ := t1
  rw [ho1, ho2] at a0 a1
  clear t2 hbe hnk hn
  go_enter Try.func45, Try.ntmps45
  go_wp2_with fail
  rw [← ho1, ← ho2]
  clear a0 a1 ho1 ho2
  generalize (w.alloc o1).alloc o2 = W0 at *
  have HC := empty_any n K W0 (by omega) (by omega)
  rw [← HNK.out] at HC
  unfold matV at HC
  with_reducible refine HC.mono ?_
  rintro e V1 ⟨B, hB1, hB2, rfl, hbk, hb1⟩
  obtain ⟨o3, ho3⟩ : ∃ o, o = (Obj.cells #[.int .i64 (n : Int), .int .i64 (K : Int), .slice (some ⟨B, 0, none⟩) nk nk] 55) := ⟨_, rfl⟩
  have t3 := Three.new V1 (.int .i64 (n : Int)) (.int .i64 (K : Int)) (.slice (some ⟨B, 0, none⟩) nk nk) 55
  rw [← ho3] at t3
  have hal := (Below.refl V1.heap.size V1).alloc (Nat.le_refl _) o3
  have hb3 := cum2 hb1 hal
  have HT1 := Lib.hid (HT1.out.below hb3)
  have HT2 := Lib.hid (HT2.out.below hb3)
  have HT3 := Lib.hid t3
  have HBE3 := Lib.hid (HBE.out.trans (hb3.mono HBE.out.size))
  have HFL0 : Hid ((vandL n K).length = nk) := by rw [Hid, vandL_len, HNK.out]
  have HD0 : Hid (BytesBlk (V1.alloc o3) B (fillL (vandL n K) (0 * K))) := by
    rw [Hid, Nat.zero_mul, fillL_zero, HFL0.out]
    exact blk_below hbk hB2 hal
  have hB3 : B < (V1.alloc o3).heap.size := by simp; omega
  have hne3' : V1.heap.size ≠ B := by omega
  have hw0B : w.heap.size ≠ B := by omega
  have hw1B : w.heap.size + 1 ≠ B := by omega
  have hwB : w.heap.size ≤ B := by omega
  obtain ⟨x0, x1, x2, _, _, _⟩ := t3
  rw [ho3] at x0 x1 x2
  clear hal hb3 hb1 hbk HC
  go_upto_block 0 with fail
  rw [← ho3]
  clear x0 x1 x2 ho3
  generalize V1.alloc o3 = W3 at *
  generalize V1.heap.size = b3 at *
  go_wp2_with fail
  go_loopw [22] (fun ii wr => ∃ i : Nat, ii = .int .i64 i ∧ i ≤ n ∧ Hid (BytesBlk wr B (fillL (vandL n K) (i * K))) ∧ Hid (Kept (fun j => j = B) W3 wr)) (fun ii _ => n - (intOf ii).toNat)
  case atStart => exact ⟨0, rfl, by omega, HD0, Lib.hid (Kept.refl _ _)⟩
  case round =>
    clear HD0
    obtain ⟨i, rfl, hi, HD, HK⟩ := hrel
    have hBr := Nat.lt_of_lt_of_le hB3 HK.out.size
    have HT3r := Lib.hid (HT3.out.below' HK.out hne3')
    obtain ⟨x0, x1, x2, _, _, _⟩ := HT3r.out
    by_cases hin0 : i < n
    · have hid1 : decide ((i : Int) < (n : Int)) = true := by simp; omega
      obtain ⟨y, hy⟩ : ∃ y, y = i * K := ⟨_, rfl⟩
      have hyK : y + K ≤ nk := by rw [hy, HNK.out]; exact row_fits hin0
      have HY : Hid ((i + 1) * K = y + K) := by rw [Hid, Nat.succ_mul, hy]
      have hm1 : (i : Int) * (K : Int) = (y : Int) := by rw [hy]; simp
      have w2 : IntKind.i64.wrap (y : Int) = (y : Int) := IntWalk.i64_in _ (by omega)
      have HVA : Hid (∀ k, k < K → (vandL n K).getD (y + k) 0 = Gf.pow (Gf.pow 2 i) k) := fun k hk => by rw [hy]; exact vandL_at hin0 hk
      rw [← hy] at HD
      clear hy
      go_wp2_with fail
      go_loopw [27] (fun kk wq => ∃ k : Nat, kk = .int .i64 k ∧ k ≤ K ∧ Hid (BytesBlk wq B (fillL (vandL n K) (y + k))) ∧ Hid (Kept (fun j => j = B) W3 wq)) (fun kk _ => K - (intOf kk).toNat)
      case atStart => exact ⟨0, rfl, by omega, HD, HK⟩
      case round =>
        clear HD HK HT3r x0 x1 x2
        obtain ⟨wq, rfl⟩ : ∃ wq : World, wq = wr := ⟨_, rfl⟩
        obtain ⟨k, rfl, hk, HDq, HKq⟩ := hrel
        by_cases hlt : k < K
        · have hkd : decide ((k : Int) < (K : Int)) = true := by simp; omega
          have hBq := Nat.lt_of_lt_of_le hB3 HKq.out.size
          have hne3 := hne3'
          have HT3q := Lib.hid (HT3.out.below' HKq.out hne3')
          have hin : y + k < nk := by omega
          have HFL : Hid ((fillL (vandL n K) (y + k)).length = nk) := by rw [Hid, fillL_len (by rw [HFL0.out]; omega), HFL0.out]
          have HFS : Hid ((fillL (vandL n K) (y + k)).set (y + k) (Gf.pow (Gf.pow 2 i) k) = fillL (vandL n K) (y + (k + 1))) := by
            rw [Hid, ← HVA.out k hlt, fillL_set (by rw [HFL0.out]; exact hin)]
            rfl
          have i0 : (0 : Int) ≤ (y : Int) + (k : Int) := by omega
          have i1 : (y : Int) + (k : Int) < (nk : Int) := by omega
          have e1 : ((y : Int) + (k : Int)).toNat = y + k := by omega
          have w3 : IntKind.i64.wrap ((y : Int) + (k : Int)) = (y : Int) + (k : Int) := IntWalk.i64_in _ (by omega)
          go_upto_region 9 with (first | (go_at_call 61; refine (exp_any i _ (by omega)).mono ?_; rintro e wn ⟨rfl, rfl⟩))
          refine wp_region_held (S := fun W' => Kept (fun j => j = B) wq W') (by kernel_rfl) ?_
          change wpAnyH _ _ _ _ _ 16 _ _ wq.drew
          have hcum := (Kept.refl (fun j => j = B) wq).drew
          have hbk := blk_below HDq.out hBq (Below.refl wq.heap.size wq).drew
          have hBs : B < wq.drew.heap.size := hBq
          obtain ⟨c1, c2, c3⟩ := hbk (y + k) (by rw [HFL.out]; exact hin)
          generalize wq.drew = V0 at *
          refine wpAnyH_take (i := 0) (oi := { dst := some 36, op := Op.fieldAddr 55 (Operand.tmp 3) 2, type := 0, pos := "code.go:39", after := #[], guard := none }) (v := ?_) rfl (by kernel_rfl) (by kernel_rfl) (by kernel_rfl) (fun _ _ _ h => h) (Or.inl ⟨by rfl, fun W' hW' => ?_⟩) hcum ?_
          rotate_left 1
          · go_simp
            try rfl
          try simp only [Act.put, List.setIfInBounds_toArray, List.set_cons_zero, List.set_cons_succ]
          refine wpAnyH_take (i := 1) (oi := { dst := some 37, op := Op.load 35 (Operand.tmp 36), type := 35, pos := "code.go:39", after := #[{ on := 0, ground := Ground.data }], guard := none }) (v := ?_) rfl (by kernel_rfl) (by kernel_rfl) (by kernel_rfl) (fun _ _ _ h => h) (Or.inl ⟨by rfl, fun W' hW' => ?_⟩) hcum ?_
          rotate_left 1
          · (obtain ⟨x0, x1, x2, _, _, _⟩ := HT3q.out.below' hW' hne3; go_simp)
            try rfl
          try simp only [Act.put, List.setIfInBounds_toArray, List.set_cons_zero, List.set_cons_succ]
          refine wpAnyH_take (i := 2) (oi := { dst := some 38, op := Op.move (Operand.tmp 4), type := 3, pos := "code.go:39", after := #[], guard := none }) (v := ?_) rfl (by kernel_rfl) (by kernel_rfl) (by kernel_rfl) (fun _ _ _ h => h) (Or.inl ⟨by rfl, fun W' hW' => ?_⟩) hcum ?_
          rotate_left 1
          · go_simp
            try rfl
          try simp only [Act.put, List.setIfInBounds_toArray, List.set_cons_zero, List.set_cons_succ]
          refine wpAnyH_take (i := 3) (oi := { dst := some 39, op := Op.fieldAddr 55 (Operand.tmp 3) 1, type := 0, pos := "code.go:39", after := #[], guard := none }) (v := ?_) rfl (by kernel_rfl) (by kernel_rfl) (by kernel_rfl) (fun _ _ _ h => h) (Or.inl ⟨by rfl, fun W' hW' => ?_⟩) hcum ?_
          rotate_left 1
          · go_simp
            try rfl
          try simp only [Act.put, List.setIfInBounds_toArray, List.set_cons_zero, List.set_cons_succ]
          refine wpAnyH_take (i := 4) (oi := { dst := some 40, op := Op.load 3 (Operand.tmp 39), type := 3, pos := "code.go:39", after := #[{ on := 3, ground := Ground.data }], guard := none }) (v := ?_) rfl (by kernel_rfl) (by kernel_rfl) (by kernel_rfl) (fun _ _ _ h => h) (Or.inl ⟨by rfl, fun W' hW' => ?_⟩) hcum ?_
          rotate_left 1
          · (obtain ⟨x0, x1, x2, _, _, _⟩ := HT3q.out.below' hW' hne3; go_simp)
            try rfl
          try simp only [Act.put, List.setIfInBounds_toArray, List.set_cons_zero, List.set_cons_succ]
          refine wpAnyH_take (i := 5) (oi := { dst := some 41, op := Op.binOp BinOp.mul 3 (Operand.tmp 38) (Operand.tmp 40) 3, type := 3, pos := "code.go:39", after := #[{ on := 2, ground := Ground.data }, { on := 4, ground := Ground.data }], guard := none }) (v := ?_) rfl (by kernel_rfl) (by kernel_rfl) (by kernel_rfl) (fun _ _ _ h => h) (Or.inl ⟨by rfl, fun W' hW' => ?_⟩) hcum ?_
          rotate_left 1
          · go_simp
            try rfl
          try simp only [Act.put, List.setIfInBounds_toArray, List.set_cons_zero, List.set_cons_succ]
          refine wpAnyH_take (i := 6) (oi := { dst := some 42, op := Op.move (Operand.tmp 5), type := 3, pos := "code.go:39", after := #[], guard := none }) (v := ?_) rfl (by kernel_rfl) (by kernel_rfl) (by kernel_rfl) (fun _ _ _ h => h) (Or.inl ⟨by rfl, fun W' hW' => ?_⟩) hcum ?_
          rotate_left 1
          · go_simp
            try rfl
          try simp only [Act.put, List.setIfInBounds_toArray, List.set_cons_zero, List.set_cons_succ]
          refine wpAnyH_take (i := 7) (oi := { dst := some 43, op := Op.binOp BinOp.add 3 (Operand.tmp 41) (Operand.tmp 42) 3, type := 3, pos := "code.go:39", after := #[{ on := 5, ground := Ground.data }, { on := 6, ground := Ground.data }], guard := none }) (v := ?_) rfl (by kernel_rfl) (by kernel_rfl) (by kernel_rfl) (fun _ _ _ h => h) (Or.inl ⟨by rfl, fun W' hW' => ?_⟩) hcum ?_
          rotate_left 1
          · go_simp
            try rfl
          try simp only [Act.put, List.setIfInBounds_toArray, List.set_cons_zero, List.set_cons_succ]
          refine wpAnyH_take (i := 8) (oi := { dst := some 44, op := Op.move (Operand.tmp 6), type := 5, pos := "code.go:39", after := #[], guard := none }) (v := ?_) rfl (by kernel_rfl) (by kernel_rfl) (by kernel_rfl) (fun _ _ _ h => h) (Or.inl ⟨by rfl, fun W' hW' => ?_⟩) hcum ?_
          rotate_left 1
          · go_simp
            try rfl
          try simp only [Act.put, List.setIfInBounds_toArray, List.set_cons_zero, List.set_cons_succ]
          refine wpAnyH_take (i := 9) (oi := { dst := some 45, op := Op.move (Operand.tmp 5), type := 3, pos := "code.go:39", after := #[], guard := none }) (v := ?_) rfl (by kernel_rfl) (by kernel_rfl) (by kernel_rfl) (fun _ _ _ h => h) (Or.inl ⟨by rfl, fun W' hW' => ?_⟩) hcum ?_
          rotate_left 1
          · go_simp
            try rfl
          try simp only [Act.put, List.setIfInBounds_toArray, List.set_cons_zero, List.set_cons_succ]
          refine wpAnyH_ready (rs := [10]) (by kernel_rfl) (by simp) ?_
          refine AllReadyH.cons (o := { dst := some 46, op := Op.call { callee := Callee.value (Operand.func 62), args := #[Operand.tmp 44, Operand.tmp 45], argTypes := #[5, 3] }, type := 94, pos := "code.go:39", after := #[{ on := 8, ground := Ground.data }, { on := 9, ground := Ground.data }], guard := none }) rfl (fun KK hK => ?_) AllReadyH.nil
          rw [if_pos (by rfl)]
          go_simp
          refine (fieldPow_any (Gf.pow 2 i) k V0 (Gf.pow_lt 2 i) (by omega)).mono ?_
          rintro e V1 ⟨rfl, hVV⟩
          have hbe : Below V0.heap.size V0 V1 := hVV ▸ Below.refl _ _
          clear hVV
          have hbk := blk_below hbk hBs hbe
          have hBs := Nat.lt_of_lt_of_le hBs hbe.size
          clear c1 c2 c3
          obtain ⟨c1, c2, c3⟩ := hbk (y + k) (by rw [HFL.out]; exact hin)
          have hcum := hcum.trans (Kept.of_below hbe)
          refine hK.out _ _ hcum (fun _ => ?_)
          clear hK hbe
          try simp only [Act.put, List.setIfInBounds_toArray, List.set_cons_zero, List.set_cons_succ]
          refine wpAnyH_take (i := 11) (oi := { dst := some 35, op := Op.move (Operand.tmp 46), type := 94, pos := "code.go:39", after := #[{ on := 10, ground := Ground.data }], guard := none }) (v := ?_) rfl (by kernel_rfl) (by kernel_rfl) (by kernel_rfl) (fun _ _ _ h => h) (Or.inl ⟨by rfl, fun W' hW' => ?_⟩) hcum ?_
          rotate_left 1
          · go_simp
            try rfl
          try simp only [Act.put, List.setIfInBounds_toArray, List.set_cons_zero, List.set_cons_succ]
          refine wpAnyH_take (i := 12) (oi := { dst := some 47, op := Op.extract (Operand.tmp 35) 0, type := 5, pos := "code.go:39", after := #[{ on := 11, ground := Ground.data }], guard := none }) (v := ?_) rfl (by kernel_rfl) (by kernel_rfl) (by kernel_rfl) (fun _ _ _ h => h) (Or.inl ⟨by rfl, fun W' hW' => ?_⟩) hcum ?_
          rotate_left 1
          · go_simp
            try rfl
          try simp only [Act.put, List.setIfInBounds_toArray, List.set_cons_zero, List.set_cons_succ]
          refine wpAnyH_take (i := 13) (oi := { dst := some 48, op := Op.extract (Operand.tmp 35) 1, type := 36, pos := "code.go:39", after := #[{ on := 11, ground := Ground.data }, { on := 15, ground := Ground.gcOnly Departure.lateStores }], guard := none }) (v := ?_) rfl (by kernel_rfl) (by kernel_rfl) (by kernel_rfl) (fun _ _ _ h => h) (Or.inl ⟨by rfl, fun W' hW' => ?_⟩) hcum ?_
          rotate_left 1
          · go_simp
            try rfl
          try simp only [Act.put, List.setIfInBounds_toArray, List.set_cons_zero, List.set_cons_succ]
          refine wpAnyH_take (i := 14) (oi := { dst := some 49, op := Op.indexAddr 35 (Operand.tmp 37) (Operand.tmp 43), type := 0, pos := "code.go:39", after := #[{ on := 1, ground := Ground.data }, { on := 7, ground := Ground.data }, { on := 0, ground := Ground.phase }, { on := 1, ground := Ground.phase }, { on := 2, ground := Ground.phase }, { on := 3, ground := Ground.phase }, { on := 4, ground := Ground.phase }, { on := 5, ground := Ground.phase }, { on := 6, ground := Ground.phase }, { on := 7, ground := Ground.phase }, { on := 8, ground := Ground.phase }, { on := 9, ground := Ground.phase }, { on := 10, ground := Ground.phase }, { on := 11, ground := Ground.phase }, { on := 12, ground := Ground.phase }, { on := 13, ground := Ground.textOnly Departure.lateStores }], guard := none }) (v := ?_) rfl (by kernel_rfl) (by kernel_rfl) (by kernel_rfl) (fun _ _ _ h => h) (Or.inl ⟨by rfl, fun W' hW' => ?_⟩) hcum ?_
          rotate_left 1
          · go_simp
            try rfl
          try simp only [Act.put, List.setIfInBounds_toArray, List.set_cons_zero, List.set_cons_succ]
          refine wpAnyH_ready (rs := [15]) (by kernel_rfl) (by simp) ?_
          refine AllReadyH.cons (o := { dst := none, op := Op.store 5 (Operand.tmp 49) (Operand.tmp 47), type := 0, pos := "code.go:39", after := #[{ on := 14, ground := Ground.data }, { on := 12, ground := Ground.data }, { on := 10, ground := Ground.chain }, { on := 0, ground := Ground.phase }, { on := 1, ground := Ground.phase }, { on := 2, ground := Ground.phase }, { on := 3, ground := Ground.phase }, { on := 4, ground := Ground.phase }, { on := 5, ground := Ground.phase }, { on := 6, ground := Ground.phase }, { on := 7, ground := Ground.phase }, { on := 8, ground := Ground.phase }, { on := 9, ground := Ground.phase }, { on := 10, ground := Ground.phase }, { on := 11, ground := Ground.phase }, { on := 12, ground := Ground.phase }, { on := 13, ground := Ground.textOnly Departure.lateStores }], guard := none }) rfl (fun KK hK => ?_) AllReadyH.nil
          rw [if_pos (by rfl)]
          go_simp
          clear c1 c2 c3
          have hbk := hbk.next (k := y + k) (v := Gf.pow (Gf.pow 2 i) k) (Gf.pow_lt _ _)
          rw [HFS.out] at hbk
          have hcum := hcum.setCell (d := ⟨B, y + k, none⟩) (fun _ => rfl) (.int .u8 ((Gf.pow (Gf.pow 2 i) k : Nat) : Int))
          refine hK.out _ _ hcum (fun _ => ?_)
          clear hK
          generalize V1.setCell ⟨B, y + k, none⟩ (.int .u8 ((Gf.pow (Gf.pow 2 i) k : Nat) : Int)) = V2 at *
          try simp only [Act.put, List.setIfInBounds_toArray, List.set_cons_zero, List.set_cons_succ]
          refine wpAnyH_done (by kernel_rfl) ?_ _
          have HDn := Lib.hid hbk
          have HKn := Lib.hid (HKq.out.trans hcum)
          clear hbk hcum hBs
          go_wp2_with fail
          go_roundw
          case rel => exact ⟨k + 1, by go_num, by omega, HDn, HKn⟩
          case measure => simp [intOf]; omega
        · have hke : k = K := by omega
          have HD1 : Hid (BytesBlk wq B (fillL (vandL n K) ((i + 1) * K))) := by
            have h := HDq.out
            rw [hke] at h
            rw [Hid, HY.out]; exact h
          have hkd : decide ((k : Int) < (K : Int)) = false := by simp; omega
          clear hke HDq
          go_wp2_with fail
          go_roundw
          case rel => exact ⟨i + 1, by go_num, by omega, HD1, HKq⟩
          case measure => simp [intOf]; omega
    · have hie : i = n := by omega
      have hid1 : decide ((i : Int) < (n : Int)) = false := by simp; omega
      have hblk : BytesBlk wr B (vandL n K) := by
        have h := HD.out
        rw [hie, ← HNK.out, ← HFL0.out, fillL_all] at h
        exact h
      have hbv := BytesV.of_blk (c := nk) hblk hBr
      rw [HFL0.out] at hbv
      have HVV := Lib.hid hbv
      have HT1r := Lib.hid (HT1.out.below' HK.out hw0B)
      have HT2r := Lib.hid (HT2.out.below' HK.out hw1B)
      have HBr := Lib.hid (HBE3.out.trans (HK.out.below (B := w.heap.size) HBE3.out.size (fun j hj e => by omega)))
      obtain ⟨kk2, hkk2⟩ : ∃ q, q = K * K := ⟨_, rfl⟩
      have hq64 : kk2 ≤ 8 * 8 := by rw [hkk2]; exact Nat.mul_le_mul k8 k8
      have HTL : Hid ((topL n K).length = kk2) := by rw [Hid, topL_len hKn, hkk2]
      have HKK := Lib.hid hkk2
      clear hie HD hblk hbv hkk2
      go_upto_region 12 with fail
      clear x0 x1 x2
      go_cut [8, 9] from 52 to 59 (fun p8 e9 wx => e9 = .int .i64 0 ∧ ∃ b8 At kt, p8 = .pointer (some ⟨b8, 0, none⟩) ∧ Three wx b8 (.int .i64 (K : Int)) (.int .i64 (K : Int)) (.slice At kk2 kt) ∧ BytesV wx (.slice At kk2 kt) (topL n K) ∧ wr.heap.size ≤ b8 ∧ Hid (Below wr.heap.size wr wx))
      case first =>
        refine wp_region_held (S := fun W' => Below wr.heap.size wr W') (by kernel_rfl) ?_
        change wpAnyH _ _ _ _ _ 11 _ _ wr.drew
        have hcum := (Below.refl wr.heap.size wr).drew
        generalize wr.drew = V0 at *
        refine wpAnyH_take (i := 0) (oi := { dst := some 53, op := Op.load 55 (Operand.tmp 3), type := 55, pos := "code.go:42", after := #[], guard := none }) (v := ?_) rfl (by kernel_rfl) (by kernel_rfl) (by kernel_rfl) (fun _ _ _ h => h) (Or.inl ⟨by rfl, fun W' hW' => ?_⟩) hcum ?_
        rotate_left 1
        · (obtain ⟨x0, x1, x2, _, _, _⟩ := HT3r.out.below hW'; obtain ⟨a0, a1, _, _, _, _⟩ := HT1r.out.below hW'; go_simp)
          try rfl
        try simp only [Act.put, List.setIfInBounds_toArray, List.set_cons_zero, List.set_cons_succ]
        refine wpAnyH_take (i := 1) (oi := { dst := some 54, op := Op.fieldAddr 29 (Operand.tmp 1) 0, type := 0, pos := "code.go:42", after := #[], guard := none }) (v := ?_) rfl (by kernel_rfl) (by kernel_rfl) (by kernel_rfl) (fun _ _ _ h => h) (Or.inl ⟨by rfl, fun W' hW' => ?_⟩) hcum ?_
        rotate_left 1
        · go_simp
          try rfl
        try simp only [Act.put, List.setIfInBounds_toArray, List.set_cons_zero, List.set_cons_succ]
        refine wpAnyH_take (i := 2) (oi := { dst := some 55, op := Op.load 3 (Operand.tmp 54), type := 3, pos := "code.go:42", after := #[{ on := 1, ground := Ground.data }], guard := none }) (v := ?_) rfl (by kernel_rfl) (by kernel_rfl) (by kernel_rfl) (fun _ _ _ h => h) (Or.inl ⟨by rfl, fun W' hW' => ?_⟩) hcum ?_
        rotate_left 1
        · (obtain ⟨x0, x1, x2, _, _, _⟩ := HT3r.out.below hW'; obtain ⟨a0, a1, _, _, _, _⟩ := HT1r.out.below hW'; go_simp)
          try rfl
        try simp only [Act.put, List.setIfInBounds_toArray, List.set_cons_zero, List.set_cons_succ]
        refine wpAnyH_ready (rs := [3, 8]) (by kernel_rfl) (by simp) ?_
        refine AllReadyH.cons (o := { dst := some 56, op := Op.call { callee := Callee.value (Operand.func 63), args := #[Operand.tmp 55], argTypes := #[3] }, type := 34, pos := "code.go:42", after := #[{ on := 2, ground := Ground.data }], guard := none }) rfl (fun KK hK => ?_) (AllReadyH.cons (o := { dst := some 8, op := Op.alloc 55, type := 0, pos := "code.go:42", after := #[], guard := none }) rfl (fun KK hK => ?_) AllReadyH.nil)
        · rw [if_pos (by rfl)]
          go_simp
          refine (first_any K V0 (by omega)).mono ?_
          rintro e V1 ⟨rf, rfl, hof, hbe⟩
          have hnum := numsIn_own (l := firstL K) (by rw [firstL_len]; exact hof) (fun z hz => by have := firstL_mem hz; omega) (by rw [firstL_len]; omega)
          clear hof
          try (have t8 := t8.below hbe; clear u0 u1 u2 u3 u4 u5; obtain ⟨u0, u1, u2, u3, u4, u5⟩ := id t8)
          have hcum := hcum.trans (hbe.mono hcum.size)
          refine hK.out _ _ hcum (fun _ => ?_)
          clear hK hbe
          try simp only [Act.put, List.setIfInBounds_toArray, List.set_cons_zero, List.set_cons_succ]
          refine wpAnyH_ready (rs := [4, 8]) (by kernel_rfl) (by simp) ?_
          refine AllReadyH.cons (o := { dst := some 57, op := Op.call { callee := Callee.value (Operand.func 54), args := #[Operand.tmp 53, Operand.tmp 56], argTypes := #[55, 34] }, type := 86, pos := "code.go:42", after := #[{ on := 0, ground := Ground.data }, { on := 3, ground := Ground.data }, { on := 3, ground := Ground.chain }], guard := none }) rfl (fun KK hK => ?_) (AllReadyH.cons (o := { dst := some 8, op := Op.alloc 55, type := 0, pos := "code.go:42", after := #[], guard := none }) rfl (fun KK hK => ?_) AllReadyH.nil)
          · rw [if_pos (by rfl)]
            go_simp
            have HC := pickFirst_any n K B nk rf V1 (HVV.out.below hcum) hnum k1 k8 hKn hn14 HNK.out
            unfold matV at HC
            with_reducible refine HC.mono ?_
            rintro e V2 ⟨vt, rfl, hbv, hbe⟩
            obtain ⟨At, kt, rfl⟩ := hbv.shape
            rw [HTL.out] at hbv
            rw [HTL.out]
            clear HC hnum
            try (have t8 := t8.below hbe; clear u0 u1 u2 u3 u4 u5; obtain ⟨u0, u1, u2, u3, u4, u5⟩ := id t8)
            have hcum := hcum.trans (hbe.mono hcum.size)
            refine hK.out _ _ hcum (fun _ => ?_)
            clear hK hbe
            try simp only [Act.put, List.setIfInBounds_toArray, List.set_cons_zero, List.set_cons_succ]
            refine wpAnyH_take (i := 5) (oi := { dst := some 52, op := Op.move (Operand.tmp 57), type := 86, pos := "code.go:42", after := #[{ on := 4, ground := Ground.data }], guard := none }) (v := ?_) rfl (by kernel_rfl) (by kernel_rfl) (by kernel_rfl) (fun _ _ _ h => h) (Or.inl ⟨by rfl, fun W' hW' => ?_⟩) hcum ?_
            rotate_left 1
            · go_simp
              try rfl
            try simp only [Act.put, List.setIfInBounds_toArray, List.set_cons_zero, List.set_cons_succ]
            refine wpAnyH_take (i := 6) (oi := { dst := some 58, op := Op.extract (Operand.tmp 52) 0, type := 55, pos := "code.go:42", after := #[{ on := 5, ground := Ground.data }], guard := none }) (v := ?_) rfl (by kernel_rfl) (by kernel_rfl) (by kernel_rfl) (fun _ _ _ h => h) (Or.inl ⟨by rfl, fun W' hW' => ?_⟩) hcum ?_
            rotate_left 1
            · go_simp
              try rfl
            try simp only [Act.put, List.setIfInBounds_toArray, List.set_cons_zero, List.set_cons_succ]
            refine wpAnyH_take (i := 7) (oi := { dst := some 59, op := Op.extract (Operand.tmp 52) 1, type := 36, pos := "code.go:42", after := #[{ on := 5, ground := Ground.data }, { on := 9, ground := Ground.gcOnly Departure.lateStores }], guard := none }) (v := ?_) rfl (by kernel_rfl) (by kernel_rfl) (by kernel_rfl) (fun _ _ _ h => h) (Or.inl ⟨by rfl, fun W' hW' => ?_⟩) hcum ?_
            rotate_left 1
            · go_simp
              try rfl
            try simp only [Act.put, List.setIfInBounds_toArray, List.set_cons_zero, List.set_cons_succ]
            refine wpAnyH_ready (rs := [8]) (by kernel_rfl) (by simp) ?_
            refine AllReadyH.cons (o := { dst := some 8, op := Op.alloc 55, type := 0, pos := "code.go:42", after := #[], guard := none }) rfl (fun KK hK => ?_) AllReadyH.nil
            rw [if_pos (by rfl)]
            go_simp
            have t8 := Three.new V2 (.int .i64 0) (.int .i64 0) (.slice none 0 0) 55
            have hbe := (Below.refl V2.heap.size V2).alloc (Nat.le_refl _) (.cells #[.int .i64 0, .int .i64 0, .slice none 0 0] 55)
            have h8 := hcum.size
            have hcum := hcum.trans (hbe.mono hcum.size)
            try (have hnum := numsIn_belowP hnum hbe)
            try (have hbv := hbv.below hbe)
            refine hK.out _ _ hcum (fun _ => ?_)
            clear hK hbe
            generalize V2.alloc (.cells #[.int .i64 0, .int .i64 0, .slice none 0 0] 55) = V3 at *
            generalize V2.heap.size = b8 at *
            obtain ⟨u0, u1, u2, u3, u4, u5⟩ := id t8
            try simp only [Act.put, List.setIfInBounds_toArray, List.set_cons_zero, List.set_cons_succ]
            refine wpAnyH_ready (rs := [9]) (by kernel_rfl) (by simp) ?_
            refine AllReadyH.cons (o := { dst := none, op := Op.store 55 (Operand.tmp 8) (Operand.tmp 58), type := 0, pos := "code.go:42", after := #[{ on := 8, ground := Ground.data }, { on := 6, ground := Ground.data }, { on := 4, ground := Ground.chain }, { on := 0, ground := Ground.phase }, { on := 1, ground := Ground.phase }, { on := 2, ground := Ground.phase }, { on := 3, ground := Ground.phase }, { on := 4, ground := Ground.phase }, { on := 5, ground := Ground.phase }, { on := 6, ground := Ground.phase }, { on := 7, ground := Ground.textOnly Departure.lateStores }, { on := 8, ground := Ground.phase }], guard := none }) rfl (fun KK hK => ?_) AllReadyH.nil
            rw [if_pos (by rfl)]
            go_simp
            clear u0 u1 u2 u3 u4 u5
            have hbv := bytesV_three hbv t8 (.int .i64 (K : Int)) (.int .i64 (K : Int)) (.slice At kk2 kt)
            have t8 := three_put t8 (.int .i64 (K : Int)) (.int .i64 (K : Int)) (.slice At kk2 kt)
            have hcum := ((hcum.setCell (p := ⟨b8, 0, none⟩) h8 (.int .i64 (K : Int))).setCell (p := ⟨b8, 1, none⟩) h8 (.int .i64 (K : Int))).setCell (p := ⟨b8, 2, none⟩) h8 (.slice At kk2 kt)
            refine hK.out _ _ hcum (fun _ => ?_)
            clear hK
            generalize (((V3.setCell ⟨b8, 0, none⟩ (.int .i64 (K : Int))).setCell ⟨b8, 1, none⟩ (.int .i64 (K : Int))).setCell ⟨b8, 2, none⟩ (.slice At kk2 kt)) = V4 at *
            try simp only [Act.put, List.setIfInBounds_toArray, List.set_cons_zero, List.set_cons_succ]
            refine wpAnyH_take (i := 10) (oi := { dst := some 9, op := Op.assign (Operand.tmp 59), type := 36, pos := "code.go:42", after := #[{ on := 7, ground := Ground.data }, { on := 9, ground := Ground.chain }, { on := 0, ground := Ground.phase }, { on := 1, ground := Ground.phase }, { on := 2, ground := Ground.phase }, { on := 3, ground := Ground.phase }, { on := 4, ground := Ground.phase }, { on := 5, ground := Ground.phase }, { on := 6, ground := Ground.phase }, { on := 7, ground := Ground.phase }, { on := 8, ground := Ground.phase }, { on := 9, ground := Ground.phase }], guard := none }) (v := ?_) rfl (by kernel_rfl) (by kernel_rfl) (by kernel_rfl) (fun _ _ _ h => h) (Or.inl ⟨by rfl, fun W' hW' => ?_⟩) hcum ?_
            rotate_left 1
            · go_simp
              try rfl
            try simp only [Act.put, List.setIfInBounds_toArray, List.set_cons_zero, List.set_cons_succ]
            refine wpAnyH_done (by kernel_rfl) ?_ _
            go_wp2_with fail
            go_meet
            exact ⟨rfl, b8, At, kt, rfl, t8, hbv, h8, Lib.hid hcum⟩
          · rw [if_pos (by rfl)]
            go_simp
            have t8 := Three.new V1 (.int .i64 0) (.int .i64 0) (.slice none 0 0) 55
            have hbe := (Below.refl V1.heap.size V1).alloc (Nat.le_refl _) (.cells #[.int .i64 0, .int .i64 0, .slice none 0 0] 55)
            have h8 := hcum.size
            have hcum := hcum.trans (hbe.mono hcum.size)
            try (have hnum := numsIn_belowP hnum hbe)
            try (have hbv := hbv.below hbe)
            refine hK.out _ _ hcum (fun _ => ?_)
            clear hK hbe
            generalize V1.alloc (.cells #[.int .i64 0, .int .i64 0, .slice none 0 0] 55) = V2 at *
            generalize V1.heap.size = b8 at *
            obtain ⟨u0, u1, u2, u3, u4, u5⟩ := id t8
            try simp only [Act.put, List.setIfInBounds_toArray, List.set_cons_zero, List.set_cons_succ]
            refine wpAnyH_ready (rs := [4]) (by kernel_rfl) (by simp) ?_
            refine AllReadyH.cons (o := { dst := some 57, op := Op.call { callee := Callee.value (Operand.func 54), args := #[Operand.tmp 53, Operand.tmp 56], argTypes := #[55, 34] }, type := 86, pos := "code.go:42", after := #[{ on := 0, ground := Ground.data }, { on := 3, ground := Ground.data }, { on := 3, ground := Ground.chain }], guard := none }) rfl (fun KK hK => ?_) AllReadyH.nil
            rw [if_pos (by rfl)]
            go_simp
            have HC := pickFirst_any n K B nk rf V2 (HVV.out.below hcum) hnum k1 k8 hKn hn14 HNK.out
            unfold matV at HC
            with_reducible refine HC.mono ?_
            rintro e V3 ⟨vt, rfl, hbv, hbe⟩
            obtain ⟨At, kt, rfl⟩ := hbv.shape
            rw [HTL.out] at hbv
            rw [HTL.out]
            clear HC hnum
            try (have t8 := t8.below hbe; clear u0 u1 u2 u3 u4 u5; obtain ⟨u0, u1, u2, u3, u4, u5⟩ := id t8)
            have hcum := hcum.trans (hbe.mono hcum.size)
            refine hK.out _ _ hcum (fun _ => ?_)
            clear hK hbe
            try simp only [Act.put, List.setIfInBounds_toArray, List.set_cons_zero, List.set_cons_succ]
            refine wpAnyH_take (i := 5) (oi := { dst := some 52, op := Op.move (Operand.tmp 57), type := 86, pos := "code.go:42", after := #[{ on := 4, ground := Ground.data }], guard := none }) (v := ?_) rfl (by kernel_rfl) (by kernel_rfl) (by kernel_rfl) (fun _ _ _ h => h) (Or.inl ⟨by rfl, fun W' hW' => ?_⟩) hcum ?_
            rotate_left 1
            · go_simp
              try rfl
            try simp only [Act.put, List.setIfInBounds_toArray, List.set_cons_zero, List.set_cons_succ]
            refine wpAnyH_take (i := 6) (oi := { dst := some 58, op := Op.extract (Operand.tmp 52) 0, type := 55, pos := "code.go:42", after := #[{ on := 5, ground := Ground.data }], guard := none }) (v := ?_) rfl (by kernel_rfl) (by kernel_rfl) (by kernel_rfl) (fun _ _ _ h => h) (Or.inl ⟨by rfl, fun W' hW' => ?_⟩) hcum ?_
            rotate_left 1
            · go_simp
              try rfl
            try simp only [Act.put, List.setIfInBounds_toArray, List.set_cons_zero, List.set_cons_succ]
            refine wpAnyH_take (i := 7) (oi := { dst := some 59, op := Op.extract (Operand.tmp 52) 1, type := 36, pos := "code.go:42", after := #[{ on := 5, ground := Ground.data }, { on := 9, ground := Ground.gcOnly Departure.lateStores }], guard := none }) (v := ?_) rfl (by kernel_rfl) (by kernel_rfl) (by kernel_rfl) (fun _ _ _ h => h) (Or.inl ⟨by rfl, fun W' hW' => ?_⟩) hcum ?_
            rotate_left 1
            · go_simp
              try rfl
            try simp only [Act.put, List.setIfInBounds_toArray, List.set_cons_zero, List.set_cons_succ]
            refine wpAnyH_ready (rs := [9]) (by kernel_rfl) (by simp) ?_
            refine AllReadyH.cons (o := { dst := none, op := Op.store 55 (Operand.tmp 8) (Operand.tmp 58), type := 0, pos := "code.go:42", after := #[{ on := 8, ground := Ground.data }, { on := 6, ground := Ground.data }, { on := 4, ground := Ground.chain }, { on := 0, ground := Ground.phase }, { on := 1, ground := Ground.phase }, { on := 2, ground := Ground.phase }, { on := 3, ground := Ground.phase }, { on := 4, ground := Ground.phase }, { on := 5, ground := Ground.phase }, { on := 6, ground := Ground.phase }, { on := 7, ground := Ground.textOnly Departure.lateStores }, { on := 8, ground := Ground.phase }], guard := none }) rfl (fun KK hK => ?_) AllReadyH.nil
            rw [if_pos (by rfl)]
            go_simp
            clear u0 u1 u2 u3 u4 u5
            have hbv := bytesV_three hbv t8 (.int .i64 (K : Int)) (.int .i64 (K : Int)) (.slice At kk2 kt)
            have t8 := three_put t8 (.int .i64 (K : Int)) (.int .i64 (K : Int)) (.slice At kk2 kt)
            have hcum := ((hcum.setCell (p := ⟨b8, 0, none⟩) h8 (.int .i64 (K : Int))).setCell (p := ⟨b8, 1, none⟩) h8 (.int .i64 (K : Int))).setCell (p := ⟨b8, 2, none⟩) h8 (.slice At kk2 kt)
            refine hK.out _ _ hcum (fun _ => ?_)
            clear hK
            generalize (((V3.setCell ⟨b8, 0, none⟩ (.int .i64 (K : Int))).setCell ⟨b8, 1, none⟩ (.int .i64 (K : Int))).setCell ⟨b8, 2, none⟩ (.slice At kk2 kt)) = V4 at *
            try simp only [Act.put, List.setIfInBounds_toArray, List.set_cons_zero, List.set_cons_succ]
            refine wpAnyH_take (i := 10) (oi := { dst := some 9, op := Op.assign (Operand.tmp 59), type := 36, pos := "code.go:42", after := #[{ on := 7, ground := Ground.data }, { on := 9, ground := Ground.chain }, { on := 0, ground := Ground.phase }, { on := 1, ground := Ground.phase }, { on := 2, ground := Ground.phase }, { on := 3, ground := Ground.phase }, { on := 4, ground := Ground.phase }, { on := 5, ground := Ground.phase }, { on := 6, ground := Ground.phase }, { on := 7, ground := Ground.phase }, { on := 8, ground := Ground.phase }, { on := 9, ground := Ground.phase }], guard := none }) (v := ?_) rfl (by kernel_rfl) (by kernel_rfl) (by kernel_rfl) (fun _ _ _ h => h) (Or.inl ⟨by rfl, fun W' hW' => ?_⟩) hcum ?_
            rotate_left 1
            · go_simp
              try rfl
            try simp only [Act.put, List.setIfInBounds_toArray, List.set_cons_zero, List.set_cons_succ]
            refine wpAnyH_done (by kernel_rfl) ?_ _
            go_wp2_with fail
            go_meet
            exact ⟨rfl, b8, At, kt, rfl, t8, hbv, h8, Lib.hid hcum⟩
        · rw [if_pos (by rfl)]
          go_simp
          have t8 := Three.new V0 (.int .i64 0) (.int .i64 0) (.slice none 0 0) 55
          have hbe := (Below.refl V0.heap.size V0).alloc (Nat.le_refl _) (.cells #[.int .i64 0, .int .i64 0, .slice none 0 0] 55)
          have h8 := hcum.size
          have hcum := hcum.trans (hbe.mono hcum.size)
          try (have hnum := numsIn_belowP hnum hbe)
          try (have hbv := hbv.below hbe)
          refine hK.out _ _ hcum (fun _ => ?_)
          clear hK hbe
          generalize V0.alloc (.cells #[.int .i64 0, .int .i64 0, .slice none 0 0] 55) = V1 at *
          generalize V0.heap.size = b8 at *
          obtain ⟨u0, u1, u2, u3, u4, u5⟩ := id t8
          try simp only [Act.put, List.setIfInBounds_toArray, List.set_cons_zero, List.set_cons_succ]
          refine wpAnyH_ready (rs := [3]) (by kernel_rfl) (by simp) ?_
          refine AllReadyH.cons (o := { dst := some 56, op := Op.call { callee := Callee.value (Operand.func 63), args := #[Operand.tmp 55], argTypes := #[3] }, type := 34, pos := "code.go:42", after := #[{ on := 2, ground := Ground.data }], guard := none }) rfl (fun KK hK => ?_) AllReadyH.nil
          rw [if_pos (by rfl)]
          go_simp
          refine (first_any K V1 (by omega)).mono ?_
          rintro e V2 ⟨rf, rfl, hof, hbe⟩
          have hnum := numsIn_own (l := firstL K) (by rw [firstL_len]; exact hof) (fun z hz => by have := firstL_mem hz; omega) (by rw [firstL_len]; omega)
          clear hof
          try (have t8 := t8.below hbe; clear u0 u1 u2 u3 u4 u5; obtain ⟨u0, u1, u2, u3, u4, u5⟩ := id t8)
          have hcum := hcum.trans (hbe.mono hcum.size)
          refine hK.out _ _ hcum (fun _ => ?_)
          clear hK hbe
          try simp only [Act.put, List.setIfInBounds_toArray, List.set_cons_zero, List.set_cons_succ]
          refine wpAnyH_ready (rs := [4]) (by kernel_rfl) (by simp) ?_
          refine AllReadyH.cons (o := { dst := some 57, op := Op.call { callee := Callee.value (Operand.func 54), args := #[Operand.tmp 53, Operand.tmp 56], argTypes := #[55, 34] }, type := 86, pos := "code.go:42", after := #[{ on := 0, ground := Ground.data }, { on := 3, ground := Ground.data }, { on := 3, ground := Ground.chain }], guard := none }) rfl (fun KK hK => ?_) AllReadyH.nil
          rw [if_pos (by rfl)]
          go_simp
          have HC := pickFirst_any n K B nk rf V2 (HVV.out.below hcum) hnum k1 k8 hKn hn14 HNK.out
          unfold matV at HC
          with_reducible refine HC.mono ?_
          rintro e V3 ⟨vt, rfl, hbv, hbe⟩
          obtain ⟨At, kt, rfl⟩ := hbv.shape
          rw [HTL.out] at hbv
          rw [HTL.out]
          clear HC hnum
          try (have t8 := t8.below hbe; clear u0 u1 u2 u3 u4 u5; obtain ⟨u0, u1, u2, u3, u4, u5⟩ := id t8)
          have hcum := hcum.trans (hbe.mono hcum.size)
          refine hK.out _ _ hcum (fun _ => ?_)
          clear hK hbe
          try simp only [Act.put, List.setIfInBounds_toArray, List.set_cons_zero, List.set_cons_succ]
          refine wpAnyH_take (i := 5) (oi := { dst := some 52, op := Op.move (Operand.tmp 57), type := 86, pos := "code.go:42", after := #[{ on := 4, ground := Ground.data }], guard := none }) (v := ?_) rfl (by kernel_rfl) (by kernel_rfl) (by kernel_rfl) (fun _ _ _ h => h) (Or.inl ⟨by rfl, fun W' hW' => ?_⟩) hcum ?_
          rotate_left 1
          · go_simp
            try rfl
          try simp only [Act.put, List.setIfInBounds_toArray, List.set_cons_zero, List.set_cons_succ]
          refine wpAnyH_take (i := 6) (oi := { dst := some 58, op := Op.extract (Operand.tmp 52) 0, type := 55, pos := "code.go:42", after := #[{ on := 5, ground := Ground.data }], guard := none }) (v := ?_) rfl (by kernel_rfl) (by kernel_rfl) (by kernel_rfl) (fun _ _ _ h => h) (Or.inl ⟨by rfl, fun W' hW' => ?_⟩) hcum ?_
          rotate_left 1
          · go_simp
            try rfl
          try simp only [Act.put, List.setIfInBounds_toArray, List.set_cons_zero, List.set_cons_succ]
          refine wpAnyH_take (i := 7) (oi := { dst := some 59, op := Op.extract (Operand.tmp 52) 1, type := 36, pos := "code.go:42", after := #[{ on := 5, ground := Ground.data }, { on := 9, ground := Ground.gcOnly Departure.lateStores }], guard := none }) (v := ?_) rfl (by kernel_rfl) (by kernel_rfl) (by kernel_rfl) (fun _ _ _ h => h) (Or.inl ⟨by rfl, fun W' hW' => ?_⟩) hcum ?_
          rotate_left 1
          · go_simp
            try rfl
          try simp only [Act.put, List.setIfInBounds_toArray, List.set_cons_zero, List.set_cons_succ]
          refine wpAnyH_ready (rs := [9]) (by kernel_rfl) (by simp) ?_
          refine AllReadyH.cons (o := { dst := none, op := Op.store 55 (Operand.tmp 8) (Operand.tmp 58), type := 0, pos := "code.go:42", after := #[{ on := 8, ground := Ground.data }, { on := 6, ground := Ground.data }, { on := 4, ground := Ground.chain }, { on := 0, ground := Ground.phase }, { on := 1, ground := Ground.phase }, { on := 2, ground := Ground.phase }, { on := 3, ground := Ground.phase }, { on := 4, ground := Ground.phase }, { on := 5, ground := Ground.phase }, { on := 6, ground := Ground.phase }, { on := 7, ground := Ground.textOnly Departure.lateStores }, { on := 8, ground := Ground.phase }], guard := none }) rfl (fun KK hK => ?_) AllReadyH.nil
          rw [if_pos (by rfl)]
          go_simp
          clear u0 u1 u2 u3 u4 u5
          have hbv := bytesV_three hbv t8 (.int .i64 (K : Int)) (.int .i64 (K : Int)) (.slice At kk2 kt)
          have t8 := three_put t8 (.int .i64 (K : Int)) (.int .i64 (K : Int)) (.slice At kk2 kt)
          have hcum := ((hcum.setCell (p := ⟨b8, 0, none⟩) h8 (.int .i64 (K : Int))).setCell (p := ⟨b8, 1, none⟩) h8 (.int .i64 (K : Int))).setCell (p := ⟨b8, 2, none⟩) h8 (.slice At kk2 kt)
          refine hK.out _ _ hcum (fun _ => ?_)
          clear hK
          generalize (((V3.setCell ⟨b8, 0, none⟩ (.int .i64 (K : Int))).setCell ⟨b8, 1, none⟩ (.int .i64 (K : Int))).setCell ⟨b8, 2, none⟩ (.slice At kk2 kt)) = V4 at *
          try simp only [Act.put, List.setIfInBounds_toArray, List.set_cons_zero, List.set_cons_succ]
          refine wpAnyH_take (i := 10) (oi := { dst := some 9, op := Op.assign (Operand.tmp 59), type := 36, pos := "code.go:42", after := #[{ on := 7, ground := Ground.data }, { on := 9, ground := Ground.chain }, { on := 0, ground := Ground.phase }, { on := 1, ground := Ground.phase }, { on := 2, ground := Ground.phase }, { on := 3, ground := Ground.phase }, { on := 4, ground := Ground.phase }, { on := 5, ground := Ground.phase }, { on := 6, ground := Ground.phase }, { on := 7, ground := Ground.phase }, { on := 8, ground := Ground.phase }, { on := 9, ground := Ground.phase }], guard := none }) (v := ?_) rfl (by kernel_rfl) (by kernel_rfl) (by kernel_rfl) (fun _ _ _ h => h) (Or.inl ⟨by rfl, fun W' hW' => ?_⟩) hcum ?_
          rotate_left 1
          · go_simp
            try rfl
          try simp only [Act.put, List.setIfInBounds_toArray, List.set_cons_zero, List.set_cons_succ]
          refine wpAnyH_done (by kernel_rfl) ?_ _
          go_wp2_with fail
          go_meet
          exact ⟨rfl, b8, At, kt, rfl, t8, hbv, h8, Lib.hid hcum⟩
      case rest =>
        obtain ⟨wx, rfl⟩ : ∃ wx : World, wx = wc := ⟨_, rfl⟩
        obtain ⟨rfl, b8, At, kt, rfl, t8, hbv, h8, HBX⟩ := hcut
        have HT3x := Lib.hid (HT3r.out.below HBX.out)
        have HT2x := Lib.hid (HT2r.out.below HBX.out)
        have HVx := Lib.hid (HVV.out.below HBX.out)
        have HBw := Lib.hid (HBr.out.trans (HBX.out.mono HBr.out.size))
        obtain ⟨bt, ot, rfl, hbt, _⟩ := hbv.at_ (k := 0) (by rw [HTL.out, HKK.out]; exact Nat.mul_pos k1 k1)
        have HBV := Lib.hid hbv
        obtain ⟨x0, x1, x2, _, _, _⟩ := t8
        clear hbv HT1r HT2r HT3r HVV HBr HBX
        go_wp2_with fail
        have HC := invert_yes K bt ot kt (topL n K) wx (by rw [HTL.out]; exact HBV.out) (topL_len hKn) k1 (by omega)
        rw [HTL.out] at HC
        unfold matV at HC
        with_reducible refine HC.mono ?_
        rintro e V2 ⟨vo, rfl, him, hb2⟩
        have hmd : MadeM wx V2 vo K K (invO K (topL n K)) := by
          rcases him with ⟨h, _⟩ | ⟨_, h⟩
          · rw [topL_rank hKn (by omega)] at h
            omega
          · exact h
        have e0 : invE K (topL n K) = 0 := by rw [invE, topL_rank hKn (by omega), if_neg (by omega)]
        rw [e0]
        obtain ⟨B2, hB2a, hB2b, rfl, hbk2, hl2⟩ := hmd
        rw [← HKK.out]
        obtain ⟨o10, ho10⟩ : ∃ o, o = (Obj.cells #[.int .i64 (K : Int), .int .i64 (K : Int), .slice (some ⟨B2, 0, none⟩) kk2 kk2] 55) := ⟨_, rfl⟩
        have t10 := Three.new V2 (.int .i64 (K : Int)) (.int .i64 (K : Int)) (.slice (some ⟨B2, 0, none⟩) kk2 kk2) 55
        rw [← ho10] at t10
        have hal := (Below.refl V2.heap.size V2).alloc (Nat.le_refl _) o10
        have hb10 := cum2 hb2 hal
        have HT3y := Lib.hid (HT3x.out.below hb10)
        have HT2y := Lib.hid (HT2x.out.below hb10)
        have HVy := Lib.hid (HVx.out.below hb10)
        have HBy := Lib.hid (HBw.out.trans (hb10.mono HBw.out.size))
        have HT10 := Lib.hid t10
        have hbv2 := BytesV.of_blk (c := kk2) (blk_below hbk2 hB2b hal) (Nat.lt_of_lt_of_le hB2b hal.size)
        rw [hl2, ← HKK.out] at hbv2
        have HV2 := Lib.hid hbv2
        have HL2 := Lib.hid hl2
        obtain ⟨y0, y1, y2, _, _, _⟩ := t10
        rw [ho10] at y0 y1 y2
        clear hal hb10 hb2 hbv2 hbk2 hl2 him HC x0 x1 x2 HT3x HT2x HVx HBw
        unfold matV
        go_upto_region 14 with fail
        rw [← ho10]
        clear y0 y1 y2 ho10
        generalize V2.alloc o10 = W10 at *
        generalize V2.heap.size = b10 at *
        obtain ⟨x0, x1, x2, _, _, _⟩ := HT3y.out
        obtain ⟨y0, y1, y2, _, _, _⟩ := HT10.out
        go_wp2_with fail
        have HC := times_any n K K B 0 nk nk B2 0 kk2 kk2 (vandL n K) (invO K (topL n K)) W10 HVy.out HV2.out (vandL_len n K) HL2.out (by omega) (by omega) k1 (by omega) k1 (by omega) (by omega) (by omega) (by omega) (by omega)
        unfold matV at HC
        with_reducible refine HC.mono ?_
        rintro e V3 ⟨vr, rfl, hmr, hb3'⟩
        obtain ⟨B4, h41, h42, rfl, hbk4, hl4⟩ := hmr
        have T2z := HT2y.out.below hb3'
        have HBz := Lib.hid (HBy.out.trans (hb3'.mono HBy.out.size))
        have hW10 := HBy.out.size
        have hwb4 : w.heap.size + 1 < W10.heap.size := cell_block HT2y.out.c0
        rw [← HNK.out]
        have HB4 := Lib.hid hbk4
        have HT2z := Lib.hid T2z
        obtain ⟨r0, r1, r2, r3, r4, r5⟩ := T2z
        clear HC hb3' hbk4 hl4 x0 x1 x2 y0 y1 y2
        unfold matV
        go_wp2_with fail
        obtain ⟨t0, t1, t2, _, _, _⟩ := three_put HT2z.out (.int .i64 (n : Int)) (.int .i64 (K : Int)) (.slice (some ⟨B4, 0, none⟩) nk nk)
        refine bodyPost_ret (v := matV (n : Int) (K : Int) (.slice (some ⟨B4, 0, none⟩) nk nk)) (by simp [results, Try.results45, go_sem, matV, t0, t1, t2]) rfl ⟨_, rfl, ⟨B4, by omega, by simp only [World.size_setCell]; exact h42, by rw [← HNK.out], ?_, genL_len n K⟩, ?_⟩
        · exact blk_cell (blk_cell (blk_cell HB4.out (by dsimp only; omega)) (by dsimp only; omega)) (by dsimp only; omega)
        · exact ((HBz.out.setCell (p := ⟨w.heap.size + 1, 0, none⟩) (by simp) _).setCell (p := ⟨w.heap.size + 1, 1, none⟩) (by simp) _).setCell (p := ⟨w.heap.size + 1, 2, none⟩) (by simp) _
end Go.Proofs.Ytijcmdcjjcemfaa
