/- siloref4.Matrix, walked. -/
import Derived.Test.YtijcmdcjjcemfaaPkA17
import Derived.Test.YtijcmdcjjcemfaaPkA18
namespace Go.Proofs.Ytijcmdcjjcemfaa
open Go.ChangeShapes Go.WideShapes Go.ChangeAt Go.RowKit Go.Joins
set_option linter.unusedVariables false
set_option linter.unusedSimpArgs false

theorem refPow_nat (a n : Nat) (w : World) (ha : a < 256) (hn : n ≤ 9223372036854775807) :
    Calls Try.prog 34 #[.int .u8 (a : Int), .int .i64 (n : Int)] w fun e w' => e = .returned (.int .u8 ((Gf.pow a n : Nat) : Int)) ∧ w = w' := by
  have h := refPow_any (a : Int) (n : Int) w (by omega) (by omega) (by omega) (by omega)
  rw [gp_nat] at h
  exact h
theorem own_apart {w : World} {B B' k k' n n' : Nat} {e e' : TypeId} {v v' : Value} {xs xs' : List Value} (hne : e ≠ e') (h : w.ownsRow B e k v n xs) (h' : w.ownsRow B' e' k' v' n' xs') : v.ownBlock = none ∨ v.ownBlock ≠ v'.ownBlock := by
  rcases h.2 with ⟨rfl, _⟩ | ⟨g, cap, cur, rfl, hb, hg, _⟩
  · exact Or.inl rfl
  · right
    rcases h'.2 with ⟨rfl, _⟩ | ⟨g', cap', cur', rfl, hb', hg', _⟩
    · simp [Value.ownBlock]
    · intro e0
      simp [Value.ownBlock] at e0
      subst e0
      rw [hg] at hg'
      simp at hg'
      exact hne hg'.2
theorem one_lies {w : World} {b : Nat} {x : Value} (h : w.cell? ⟨b, 0, none⟩ = some x) : ∀ j u, [x][j]? = some u → w.cell? ((⟨b, 0, none⟩ : Addr).add j) = some u := by
  intro j u hu
  cases j with
  | zero => simp at hu; subst hu; exact h
  | succ j => simp at hu
theorem own_room {w : World} {B k n : Nat} {e : TypeId} {v : Value} {xs : List Value} (h : w.ownsRow B e k v n xs) (hn : 0 < n) : ∃ g cap, v = .slice (some ⟨g, 0, none⟩) n cap ∧ B ≤ g ∧ g < w.heap.size ∧ n ≤ cap ∧ cap ≤ 9223372036854775807 := by
  rcases h.2 with ⟨_, h0⟩ | ⟨g, cap, cur, rfl, hb, hg, h1, h2, _⟩
  · omega
  · exact ⟨g, cap, rfl, hb, (Array.getElem?_eq_some_iff.1 hg).1, h1, h2⟩
theorem take_snocN {L : List Nat} {p : Nat} (h : p < L.length) : L.take (p + 1) = L.take p ++ [L.getD p 0] := by
  rw [List.take_succ_eq_append_getElem h, List.getElem_eq_getD (fallback := 0)]

set_option maxRecDepth 100000 in
set_option maxHeartbeats 4000000 in
theorem refGen_any (K M : Nat) (z : Int) (w : World) (k1 : 1 ≤ K) (k8 : K ≤ 8) (m6 : M ≤ 6) :
    Calls Try.prog 24 #[.agg #[.int .i64 (K : Int), .int .i64 (M : Int), .int .i64 z]] w fun e w' =>
      ∃ v, e = .returned v ∧ MadeM w w' v (K + M) K (genL (K + M) K) ∧ Below w.heap.size w w' := by
  obtain ⟨i0, hi, hz0, hz1, hz2⟩ := info_parts infoU8
  obtain ⟨j0, hj, hy0, hy1, hy2⟩ := info_parts infoI64
  obtain ⟨n, hn⟩ : ∃ n, n = K + M := ⟨_, rfl⟩
  have hKn : K ≤ n := by omega
  have hn14 : n ≤ 14 := by omega
  rw [← hn]
  obtain ⟨o1, ho1⟩ : ∃ o, o = (Obj.cells #[.int .i64 (K : Int), .int .i64 (M : Int), .int .i64 z] 29) := ⟨_, rfl⟩
  obtain ⟨o2, ho2⟩ : ∃ o, o = (Obj.cells #[.int .i64 0, .int .i64 0, .slice none 0 0] 55) := ⟨_, rfl⟩
  obtain ⟨o3, ho3⟩ : ∃ o, o = (Obj.cells #[.int .i64 (n : Int), .int .i64 (K : Int), .slice none 0 0] 55) := ⟨_, rfl⟩
  have t1 := Three.new w (.int .i64 (K : Int)) (.int .i64 (M : Int)) (.int .i64 z) 29
  rw [← ho1] at t1
  have t1 := t1.alloc o2
  have t2 := Three.new (w.alloc o1) (.int .i64 0) (.int .i64 0) (.slice none 0 0) 55
  rw [World.size_alloc, ← ho2] at t2
  have t3 := Three.new ((w.alloc o1).alloc o2) (.int .i64 (n : Int)) (.int .i64 (K : Int)) (.slice none 0 0) 55
  rw [World.size_alloc, World.size_alloc, ← ho3] at t3
  have hbe : Below w.heap.size w ((w.alloc o1).alloc o2) := ((Below.refl w.heap.size w).alloc (Nat.le_refl _) o1).alloc (by simp) o2
  have hb8 := (Below.refl ((w.alloc o1).alloc o2).heap.size ((w.alloc o1).alloc o2)).alloc (Nat.le_refl _) o3
  have w1 : IntKind.i64.wrap ((K : Int) + (M : Int)) = (n : Int) := by rw [IntWalk.i64_in _ (by omega)]; omega
  obtain ⟨b3, hb3e⟩ : ∃ b3, b3 = w.heap.size + 1 + 1 := ⟨_, rfl⟩
  have hb30 : b3 < (((w.alloc o1).alloc o2).alloc o3).heap.size := by simp; omega
  have hW03 : ((w.alloc o1).alloc o2).heap.size ≤ b3 := by simp; omega
  have hwb : w.heap.size + 1 < b3 := by omega
  rw [← hb3e] at t3
  have HT1 := Lib.hid t1
  have HT2 := Lib.hid t2
  have HT3 := Lib.hid t3
  have HBE := Lib.hid hbe
  have HB8 := Lib.hid hb8
  have HNN := Lib.hid hn
  have HBX := Lib.hid hb3e
  obtain ⟨a0, a1, _, _, _, _⟩ := t1
  rw [ho1, ho2] at a0 a1
  clear t2 t3 hbe hb8 hn hb3e
  go_enter Try.func24, Try.ntmps24
  go_upto_block 0 with fail
  rw [← ho1, ← ho2, ← ho3, ← HBX.out]
  clear a0 a1 ho1 ho2 ho3 HBX
  generalize ((w.alloc o1).alloc o2).alloc o3 = W3 at *
  generalize (w.alloc o1).alloc o2 = W0 at *
  go_wp2_with fail
  go_loopw [4, 5] (fun fv ii wr => ∃ (i : Nat) (xv fw : Value), fw = fv ∧ ii = .int .i64 i ∧ i ≤ n ∧ Hid (Three wr b3 (.int .i64 (n : Int)) (.int .i64 (K : Int)) xv) ∧ Hid (wr.ownsRow (b3 + 1) 5 1 xv (i * K) (u8s ((vandL n K).take (i * K)))) ∧ Hid (wr.ownsRow (b3 + 1) 3 1 fw (min i K) (i64s (firstL (min i K)))) ∧ Hid (Below W0.heap.size W0 wr) ∧ b3 < wr.heap.size) (fun _ ii _ => n - (intOf ii).toNat)
  case atStart => exact ⟨0, _, _, rfl, rfl, by omega, HT3, by rw [Nat.zero_mul]; exact World.ownsRow_nil _ _ _ _, by rw [Nat.zero_min]; exact World.ownsRow_nil _ _ _ _, HB8, hb30⟩
  case round =>
    clear HT3 HB8 hb30
    obtain ⟨i, xv, fw, rfl, rfl, hi0, HT7, hown, hof, HB, hb7⟩ := hrel
    have HT1r := Lib.hid (HT1.out.below HB.out)
    obtain ⟨x0, x1, x2, x3, x4, x5⟩ := HT7.out
    obtain ⟨a0, a1, _, _, _, _⟩ := HT1r.out
    by_cases hin0 : i < n
    · have hid1 : decide ((i : Int) < (n : Int)) = true := by simp; omega
      obtain ⟨y, hy⟩ : ∃ y, y = i * K := ⟨_, rfl⟩
      have hyK : y + K ≤ n * K := by rw [hy]; exact row_fits hin0
      have hnK : n * K ≤ 14 * 8 := Nat.mul_le_mul hn14 k8
      have hy112 : y + K ≤ 112 := by omega
      have HYL : Hid (∀ k, k < K → y + k < (vandL n K).length) := fun k hk => by rw [vandL_len]; omega
      have HY : Hid ((i + 1) * K = y + K) := by rw [Hid, Nat.succ_mul, hy]
      have HVA : Hid (∀ k, k < K → (vandL n K).getD (y + k) 0 = Gf.pow (Gf.pow 2 i) k) := fun k hk => by rw [hy]; exact vandL_at hin0 hk
      rw [← hy] at hown
      clear hy hyK hnK
      clear x3 x4 x5
      go_upto_block 2 with fail
      go_cut [6] from 23 to 37 (fun v6 wx => ∃ xv', Hid (Three wx b3 (.int .i64 (n : Int)) (.int .i64 (K : Int)) xv') ∧ Hid (wx.ownsRow (b3 + 1) 5 1 xv' ((i + 1) * K) (u8s ((vandL n K).take ((i + 1) * K)))) ∧ Hid (wx.ownsRow (b3 + 1) 3 1 fw (min i K) (i64s (firstL (min i K)))) ∧ Hid (Below W0.heap.size W0 wx) ∧ b3 < wx.heap.size)
      case first =>
        go_wp2_with fail
        go_loopw [6] (fun kk wr => ∃ (k : Nat) (xv : Value), kk = .int .i64 k ∧ k ≤ K ∧ Hid (Three wr b3 (.int .i64 (n : Int)) (.int .i64 (K : Int)) xv) ∧ Hid (wr.ownsRow (b3 + 1) 5 1 xv (y + k) (u8s ((vandL n K).take (y + k)))) ∧ Hid (wr.ownsRow (b3 + 1) 3 1 fw (min i K) (i64s (firstL (min i K)))) ∧ Hid (Below W0.heap.size W0 wr) ∧ b3 < wr.heap.size) (fun kk _ => K - (intOf kk).toNat)
        case atStart => exact ⟨0, xv, rfl, by omega, HT7, hown, hof, HB, hb7⟩
        case round =>
          clear HT7 hown hof HB hb7 x0 x1 x2 a0 a1 HT1r
          obtain ⟨wq, rfl⟩ : ∃ wq : World, wq = wr := ⟨_, rfl⟩
          obtain ⟨k, xv, rfl, hk, HT7, hownq, hofq, HBq, hb7q⟩ := hrel
          obtain ⟨a0, a1, _, _, _, _⟩ := HT1.out.below HBq.out
          by_cases hlt : k < K
          · have hkd : decide ((k : Int) < (K : Int)) = true := by simp; omega
            have HTK : Hid (u8s ((vandL n K).take (y + (k + 1))) = u8s ((vandL n K).take (y + k)) ++ [.int .u8 ((Gf.pow (Gf.pow 2 i) k : Nat) : Int)]) := by
              rw [Hid, ← Nat.add_assoc, take_snocN (HYL.out k hlt), HVA.out k hlt, u8s_app]
              rfl
            go_upto_region 9 with fail
            clear a0 a1
            refine wp_region_held (S := fun W' => Below W0.heap.size W0 W') (by kernel_rfl) ?_
            change wpAnyH _ _ _ _ _ 10 _ _ wq.drew
            have hcum := HBq.out.drew
            have T7 := HT7.out.below (Below.refl wq.heap.size wq).drew
            have hown := hownq.out.drew
            have hof := hofq.out.drew
            have hb7 : b3 < wq.drew.heap.size := hb7q
            obtain ⟨x0, x1, x2, x3, x4, x5⟩ := id T7
            generalize wq.drew = V0 at *
            refine wpAnyH_take (i := 0) (oi := { dst := some 29, op := Op.fieldAddr 55 (Operand.tmp 3) 2, type := 0, pos := "siloref4.go:21", after := #[], guard := none }) (v := ?_) rfl (by kernel_rfl) (by kernel_rfl) (by kernel_rfl) (fun _ _ _ h => h) (Or.inl ⟨by rfl, fun W' hW' => ?_⟩) hcum ?_
            rotate_left 1
            · go_simp
              try rfl
            try simp only [Act.put, List.setIfInBounds_toArray, List.set_cons_zero, List.set_cons_succ]
            refine wpAnyH_take (i := 2) (oi := { dst := some 31, op := Op.move (Operand.tmp 5), type := 3, pos := "siloref4.go:21", after := #[], guard := none }) (v := ?_) rfl (by kernel_rfl) (by kernel_rfl) (by kernel_rfl) (fun _ _ _ h => h) (Or.inl ⟨by rfl, fun W' hW' => ?_⟩) hcum ?_
            rotate_left 1
            · go_simp
              try rfl
            try simp only [Act.put, List.setIfInBounds_toArray, List.set_cons_zero, List.set_cons_succ]
            refine wpAnyH_take (i := 4) (oi := { dst := some 33, op := Op.move (Operand.tmp 6), type := 3, pos := "siloref4.go:21", after := #[], guard := none }) (v := ?_) rfl (by kernel_rfl) (by kernel_rfl) (by kernel_rfl) (fun _ _ _ h => h) (Or.inl ⟨by rfl, fun W' hW' => ?_⟩) hcum ?_
            rotate_left 1
            · go_simp
              try rfl
            try simp only [Act.put, List.setIfInBounds_toArray, List.set_cons_zero, List.set_cons_succ]
            refine wpAnyH_ready (rs := [1, 3]) (by kernel_rfl) (by simp) ?_
            refine AllReadyH.cons (o := { dst := some 30, op := Op.load 35 (Operand.tmp 29), type := 35, pos := "siloref4.go:21", after := #[{ on := 0, ground := Ground.data }], guard := none }) rfl (fun KK hK => ?_) (AllReadyH.cons (o := { dst := some 32, op := Op.call { callee := Callee.value (Operand.func 34), args := #[Operand.const (Value.int IntKind.u8 2), Operand.tmp 31], argTypes := #[5, 3] }, type := 5, pos := "siloref4.go:21", after := #[{ on := 2, ground := Ground.data }], guard := none }) rfl (fun KK hK => ?_) AllReadyH.nil)
            · rw [if_pos (by rfl)]
              go_simp
              refine hK.out _ _ hcum (fun _ => ?_)
              clear hK
              obtain ⟨V1, rfl⟩ : ∃ V, V = V0 := ⟨_, rfl⟩
              try simp only [Act.put, List.setIfInBounds_toArray, List.set_cons_zero, List.set_cons_succ]
              refine wpAnyH_ready (rs := [3]) (by kernel_rfl) (by simp) ?_
              refine AllReadyH.cons (o := { dst := some 32, op := Op.call { callee := Callee.value (Operand.func 34), args := #[Operand.const (Value.int IntKind.u8 2), Operand.tmp 31], argTypes := #[5, 3] }, type := 5, pos := "siloref4.go:21", after := #[{ on := 2, ground := Ground.data }], guard := none }) rfl (fun KK hK => ?_) AllReadyH.nil
              rw [if_pos (by rfl)]
              go_simp
              refine (refPow_nat 2 i V1 (by omega) (by omega)).mono ?_
              rintro e VV ⟨rfl, rfl⟩
              obtain ⟨V2, rfl⟩ : ∃ V, V = V1 := ⟨_, rfl⟩
              have hbe := Below.refl V2.heap.size V2
              have hcum := hcum.trans (hbe.mono hcum.size)
              refine hK.out _ _ hcum (fun _ => ?_)
              clear hK hbe
              try simp only [Act.put, List.setIfInBounds_toArray, List.set_cons_zero, List.set_cons_succ]
              refine wpAnyH_ready (rs := [5]) (by kernel_rfl) (by simp) ?_
              refine AllReadyH.cons (o := { dst := some 34, op := Op.call { callee := Callee.value (Operand.func 34), args := #[Operand.tmp 32, Operand.tmp 33], argTypes := #[5, 3] }, type := 5, pos := "siloref4.go:21", after := #[{ on := 3, ground := Ground.data }, { on := 4, ground := Ground.data }, { on := 3, ground := Ground.chain }], guard := none }) rfl (fun KK hK => ?_) AllReadyH.nil
              rw [if_pos (by rfl)]
              go_simp
              refine (refPow_nat (Gf.pow 2 i) k V2 (Gf.pow_lt 2 i) (by omega)).mono ?_
              rintro e VV ⟨rfl, rfl⟩
              obtain ⟨V3, rfl⟩ : ∃ V, V = V2 := ⟨_, rfl⟩
              have hbe := Below.refl V3.heap.size V3
              have hcum := hcum.trans (hbe.mono hcum.size)
              refine hK.out _ _ hcum (fun _ => ?_)
              clear hK hbe
              try simp only [Act.put, List.setIfInBounds_toArray, List.set_cons_zero, List.set_cons_succ]
              refine wpAnyH_ready (rs := [6]) (by kernel_rfl) (by simp) ?_
              refine AllReadyH.cons (o := { dst := some 35, op := Op.buildSlice 35 1 #[(0, Operand.tmp 34)], type := 35, pos := "siloref4.go:21", after := #[{ on := 5, ground := Ground.data }], guard := none }) rfl (fun KK hK => ?_) AllReadyH.nil
              rw [if_pos (by rfl)]
              go_simp
              have hbe := (Below.refl V3.heap.size V3).alloc (Nat.le_refl _) (.cells #[.int .u8 ((Gf.pow (Gf.pow 2 i) k : Nat) : Int)] 5)
              have hl1 := cell_one_new' V3 (.int .u8 ((Gf.pow (Gf.pow 2 i) k : Nat) : Int)) 5
              replace T7 := T7.alloc (.cells #[.int .u8 ((Gf.pow (Gf.pow 2 i) k : Nat) : Int)] 5)
              replace hown := hown.alloc (.cells #[.int .u8 ((Gf.pow (Gf.pow 2 i) k : Nat) : Int)] 5)
              replace hof := hof.alloc (.cells #[.int .u8 ((Gf.pow (Gf.pow 2 i) k : Nat) : Int)] 5)
              replace hb7 : b3 < (V3.alloc (.cells #[.int .u8 ((Gf.pow (Gf.pow 2 i) k : Nat) : Int)] 5)).heap.size := Nat.lt_of_lt_of_le hb7 hbe.size
              replace hcum := hcum.trans (hbe.mono hcum.size)
              clear x0 x1 x2 x3 x4 x5
              obtain ⟨x0, x1, x2, x3, x4, x5⟩ := id T7
              refine hK.out _ _ hcum (fun _ => ?_)
              clear hK hbe
              generalize V3.alloc (.cells #[.int .u8 ((Gf.pow (Gf.pow 2 i) k : Nat) : Int)] 5) = V4 at *
              generalize V3.heap.size = bl at *
              try simp only [Act.put, List.setIfInBounds_toArray, List.set_cons_zero, List.set_cons_succ]
              refine wpAnyH_ready (rs := [7]) (by kernel_rfl) (by simp) ?_
              refine AllReadyH.cons (o := { dst := some 36, op := Op.call { callee := Callee.builtin Builtin.append, args := #[Operand.tmp 30, Operand.tmp 35], argTypes := #[35, 35] }, type := 35, pos := "siloref4.go:21", after := #[{ on := 1, ground := Ground.data }, { on := 6, ground := Ground.data }, { on := 5, ground := Ground.chain }], guard := none }) rfl (fun KK hK => ?_) AllReadyH.nil
              refine step_append_lies _ (by rfl) _ _ _ (by rfl) (b3 + 1) 5 i0 _ 1 1 Try.underlying35 hi hz0 hz1 hz2 rfl (by decide) _ _ _ (by rfl) hown ⟨bl, 0, none⟩ 1 1 [.int .u8 ((Gf.pow (Gf.pow 2 i) k : Nat) : Int)] (by simp [Act.eval]) (by rfl) hl1 (by intro u hu; simp at hu; subst hu; rfl) (by omega) (by unfold maxLen; omega) (by omega) (by omega) V4.heap.size rfl ?_
              intro gg cap V5 hown' hgrow hat hltg
              have hbg : Below (b3 + 1) V4 V5 := (Below.refl (b3 + 1) V4).grown hgrow (by omega) (fun k hk => (hown.lt k hk).1)
              have T7 := T7.belowB hbg (by omega)
              have hof := hof.kept hgrow (own_apart (by decide) hof hown)
              have hsz := hbg.size
              have hb7 := Nat.lt_of_lt_of_le hb7 hbg.size
              have hcum := hcum.trans (hbg.mono (by omega))
              clear hown hgrow hat hltg x0 x1 x2 x3 x4 x5
              obtain ⟨x0, x1, x2, x3, x4, x5⟩ := id T7
              refine hK.out _ _ hcum (fun _ => ?_)
              clear hK hbg
              try simp only [Act.put, List.setIfInBounds_toArray, List.set_cons_zero, List.set_cons_succ]
              refine wpAnyH_take (i := 8) (oi := { dst := some 37, op := Op.fieldAddr 55 (Operand.tmp 3) 2, type := 0, pos := "siloref4.go:21", after := #[{ on := 0, ground := Ground.phase }, { on := 1, ground := Ground.phase }, { on := 2, ground := Ground.phase }, { on := 3, ground := Ground.phase }, { on := 4, ground := Ground.phase }, { on := 5, ground := Ground.phase }, { on := 6, ground := Ground.phase }, { on := 7, ground := Ground.phase }], guard := none }) (v := ?_) rfl (by kernel_rfl) (by kernel_rfl) (by kernel_rfl) (fun _ _ _ h => h) (Or.inl ⟨by rfl, fun W' hW' => ?_⟩) hcum ?_
              rotate_left 1
              · go_simp
                try rfl
              try simp only [Act.put, List.setIfInBounds_toArray, List.set_cons_zero, List.set_cons_succ]
              refine wpAnyH_ready (rs := [9]) (by kernel_rfl) (by simp) ?_
              refine AllReadyH.cons (o := { dst := none, op := Op.store 35 (Operand.tmp 37) (Operand.tmp 36), type := 0, pos := "siloref4.go:21", after := #[{ on := 8, ground := Ground.data }, { on := 7, ground := Ground.data }, { on := 7, ground := Ground.chain }, { on := 0, ground := Ground.phase }, { on := 1, ground := Ground.phase }, { on := 2, ground := Ground.phase }, { on := 3, ground := Ground.phase }, { on := 4, ground := Ground.phase }, { on := 5, ground := Ground.phase }, { on := 6, ground := Ground.phase }, { on := 7, ground := Ground.phase }], guard := none }) rfl (fun KK hK => ?_) AllReadyH.nil
              rw [if_pos (by rfl)]
              go_simp
              clear x0 x1 x2 x3 x4 x5
              have T7 := three_put2 T7 (.slice (some ⟨gg, 0, none⟩) (y + k + 1) cap)
              have hown := own_cell hown' (d := ⟨b3, 2, none⟩) (u := (.slice (some ⟨gg, 0, none⟩) (y + k + 1) cap)) (by dsimp only; omega)
              have hof := own_cell hof (d := ⟨b3, 2, none⟩) (u := (.slice (some ⟨gg, 0, none⟩) (y + k + 1) cap)) (by dsimp only; omega)
              have hcum := hcum.setCell (p := ⟨b3, 2, none⟩) (by dsimp only; omega) (.slice (some ⟨gg, 0, none⟩) (y + k + 1) cap)
              have hb7 : b3 < (V5.setCell ⟨b3, 2, none⟩ (.slice (some ⟨gg, 0, none⟩) (y + k + 1) cap)).heap.size := by rw [World.size_setCell]; exact hb7
              refine hK.out _ _ hcum (fun _ => ?_)
              clear hK hown'
              generalize V5.setCell ⟨b3, 2, none⟩ (.slice (some ⟨gg, 0, none⟩) (y + k + 1) cap) = V6 at *
              try simp only [Act.put, List.setIfInBounds_toArray, List.set_cons_zero, List.set_cons_succ]
              refine wpAnyH_done (by kernel_rfl) ?_ _
              go_wp2_with fail
              go_roundw
              case rel => exact ⟨k + 1, _, by go_num, by omega, Lib.hid T7, Lib.hid (by rw [HTK.out]; exact hown), Lib.hid hof, Lib.hid hcum, hb7⟩
              case measure => simp [intOf]; omega
            · rw [if_pos (by rfl)]
              go_simp
              refine (refPow_nat 2 i V0 (by omega) (by omega)).mono ?_
              rintro e VV ⟨rfl, rfl⟩
              obtain ⟨V1, rfl⟩ : ∃ V, V = V0 := ⟨_, rfl⟩
              have hbe := Below.refl V1.heap.size V1
              have hcum := hcum.trans (hbe.mono hcum.size)
              refine hK.out _ _ hcum (fun _ => ?_)
              clear hK hbe
              try simp only [Act.put, List.setIfInBounds_toArray, List.set_cons_zero, List.set_cons_succ]
              refine wpAnyH_ready (rs := [1, 5]) (by kernel_rfl) (by simp) ?_
              refine AllReadyH.cons (o := { dst := some 30, op := Op.load 35 (Operand.tmp 29), type := 35, pos := "siloref4.go:21", after := #[{ on := 0, ground := Ground.data }], guard := none }) rfl (fun KK hK => ?_) (AllReadyH.cons (o := { dst := some 34, op := Op.call { callee := Callee.value (Operand.func 34), args := #[Operand.tmp 32, Operand.tmp 33], argTypes := #[5, 3] }, type := 5, pos := "siloref4.go:21", after := #[{ on := 3, ground := Ground.data }, { on := 4, ground := Ground.data }, { on := 3, ground := Ground.chain }], guard := none }) rfl (fun KK hK => ?_) AllReadyH.nil)
              · rw [if_pos (by rfl)]
                go_simp
                refine hK.out _ _ hcum (fun _ => ?_)
                clear hK
                obtain ⟨V2, rfl⟩ : ∃ V, V = V1 := ⟨_, rfl⟩
                try simp only [Act.put, List.setIfInBounds_toArray, List.set_cons_zero, List.set_cons_succ]
                refine wpAnyH_ready (rs := [5]) (by kernel_rfl) (by simp) ?_
                refine AllReadyH.cons (o := { dst := some 34, op := Op.call { callee := Callee.value (Operand.func 34), args := #[Operand.tmp 32, Operand.tmp 33], argTypes := #[5, 3] }, type := 5, pos := "siloref4.go:21", after := #[{ on := 3, ground := Ground.data }, { on := 4, ground := Ground.data }, { on := 3, ground := Ground.chain }], guard := none }) rfl (fun KK hK => ?_) AllReadyH.nil
                rw [if_pos (by rfl)]
                go_simp
                refine (refPow_nat (Gf.pow 2 i) k V2 (Gf.pow_lt 2 i) (by omega)).mono ?_
                rintro e VV ⟨rfl, rfl⟩
                obtain ⟨V3, rfl⟩ : ∃ V, V = V2 := ⟨_, rfl⟩
                have hbe := Below.refl V3.heap.size V3
                have hcum := hcum.trans (hbe.mono hcum.size)
                refine hK.out _ _ hcum (fun _ => ?_)
                clear hK hbe
                try simp only [Act.put, List.setIfInBounds_toArray, List.set_cons_zero, List.set_cons_succ]
                refine wpAnyH_ready (rs := [6]) (by kernel_rfl) (by simp) ?_
                refine AllReadyH.cons (o := { dst := some 35, op := Op.buildSlice 35 1 #[(0, Operand.tmp 34)], type := 35, pos := "siloref4.go:21", after := #[{ on := 5, ground := Ground.data }], guard := none }) rfl (fun KK hK => ?_) AllReadyH.nil
                rw [if_pos (by rfl)]
                go_simp
                have hbe := (Below.refl V3.heap.size V3).alloc (Nat.le_refl _) (.cells #[.int .u8 ((Gf.pow (Gf.pow 2 i) k : Nat) : Int)] 5)
                have hl1 := cell_one_new' V3 (.int .u8 ((Gf.pow (Gf.pow 2 i) k : Nat) : Int)) 5
                replace T7 := T7.alloc (.cells #[.int .u8 ((Gf.pow (Gf.pow 2 i) k : Nat) : Int)] 5)
                replace hown := hown.alloc (.cells #[.int .u8 ((Gf.pow (Gf.pow 2 i) k : Nat) : Int)] 5)
                replace hof := hof.alloc (.cells #[.int .u8 ((Gf.pow (Gf.pow 2 i) k : Nat) : Int)] 5)
                replace hb7 : b3 < (V3.alloc (.cells #[.int .u8 ((Gf.pow (Gf.pow 2 i) k : Nat) : Int)] 5)).heap.size := Nat.lt_of_lt_of_le hb7 hbe.size
                replace hcum := hcum.trans (hbe.mono hcum.size)
                clear x0 x1 x2 x3 x4 x5
                obtain ⟨x0, x1, x2, x3, x4, x5⟩ := id T7
                refine hK.out _ _ hcum (fun _ => ?_)
                clear hK hbe
                generalize V3.alloc (.cells #[.int .u8 ((Gf.pow (Gf.pow 2 i) k : Nat) : Int)] 5) = V4 at *
                generalize V3.heap.size = bl at *
                try simp only [Act.put, List.setIfInBounds_toArray, List.set_cons_zero, List.set_cons_succ]
                refine wpAnyH_ready (rs := [7]) (by kernel_rfl) (by simp) ?_
                refine AllReadyH.cons (o := { dst := some 36, op := Op.call { callee := Callee.builtin Builtin.append, args := #[Operand.tmp 30, Operand.tmp 35], argTypes := #[35, 35] }, type := 35, pos := "siloref4.go:21", after := #[{ on := 1, ground := Ground.data }, { on := 6, ground := Ground.data }, { on := 5, ground := Ground.chain }], guard := none }) rfl (fun KK hK => ?_) AllReadyH.nil
                refine step_append_lies _ (by rfl) _ _ _ (by rfl) (b3 + 1) 5 i0 _ 1 1 Try.underlying35 hi hz0 hz1 hz2 rfl (by decide) _ _ _ (by rfl) hown ⟨bl, 0, none⟩ 1 1 [.int .u8 ((Gf.pow (Gf.pow 2 i) k : Nat) : Int)] (by simp [Act.eval]) (by rfl) hl1 (by intro u hu; simp at hu; subst hu; rfl) (by omega) (by unfold maxLen; omega) (by omega) (by omega) V4.heap.size rfl ?_
                intro gg cap V5 hown' hgrow hat hltg
                have hbg : Below (b3 + 1) V4 V5 := (Below.refl (b3 + 1) V4).grown hgrow (by omega) (fun k hk => (hown.lt k hk).1)
                have T7 := T7.belowB hbg (by omega)
                have hof := hof.kept hgrow (own_apart (by decide) hof hown)
                have hsz := hbg.size
                have hb7 := Nat.lt_of_lt_of_le hb7 hbg.size
                have hcum := hcum.trans (hbg.mono (by omega))
                clear hown hgrow hat hltg x0 x1 x2 x3 x4 x5
                obtain ⟨x0, x1, x2, x3, x4, x5⟩ := id T7
                refine hK.out _ _ hcum (fun _ => ?_)
                clear hK hbg
                try simp only [Act.put, List.setIfInBounds_toArray, List.set_cons_zero, List.set_cons_succ]
                refine wpAnyH_take (i := 8) (oi := { dst := some 37, op := Op.fieldAddr 55 (Operand.tmp 3) 2, type := 0, pos := "siloref4.go:21", after := #[{ on := 0, ground := Ground.phase }, { on := 1, ground := Ground.phase }, { on := 2, ground := Ground.phase }, { on := 3, ground := Ground.phase }, { on := 4, ground := Ground.phase }, { on := 5, ground := Ground.phase }, { on := 6, ground := Ground.phase }, { on := 7, ground := Ground.phase }], guard := none }) (v := ?_) rfl (by kernel_rfl) (by kernel_rfl) (by kernel_rfl) (fun _ _ _ h => h) (Or.inl ⟨by rfl, fun W' hW' => ?_⟩) hcum ?_
                rotate_left 1
                · go_simp
                  try rfl
                try simp only [Act.put, List.setIfInBounds_toArray, List.set_cons_zero, List.set_cons_succ]
                refine wpAnyH_ready (rs := [9]) (by kernel_rfl) (by simp) ?_
                refine AllReadyH.cons (o := { dst := none, op := Op.store 35 (Operand.tmp 37) (Operand.tmp 36), type := 0, pos := "siloref4.go:21", after := #[{ on := 8, ground := Ground.data }, { on := 7, ground := Ground.data }, { on := 7, ground := Ground.chain }, { on := 0, ground := Ground.phase }, { on := 1, ground := Ground.phase }, { on := 2, ground := Ground.phase }, { on := 3, ground := Ground.phase }, { on := 4, ground := Ground.phase }, { on := 5, ground := Ground.phase }, { on := 6, ground := Ground.phase }, { on := 7, ground := Ground.phase }], guard := none }) rfl (fun KK hK => ?_) AllReadyH.nil
                rw [if_pos (by rfl)]
                go_simp
                clear x0 x1 x2 x3 x4 x5
                have T7 := three_put2 T7 (.slice (some ⟨gg, 0, none⟩) (y + k + 1) cap)
                have hown := own_cell hown' (d := ⟨b3, 2, none⟩) (u := (.slice (some ⟨gg, 0, none⟩) (y + k + 1) cap)) (by dsimp only; omega)
                have hof := own_cell hof (d := ⟨b3, 2, none⟩) (u := (.slice (some ⟨gg, 0, none⟩) (y + k + 1) cap)) (by dsimp only; omega)
                have hcum := hcum.setCell (p := ⟨b3, 2, none⟩) (by dsimp only; omega) (.slice (some ⟨gg, 0, none⟩) (y + k + 1) cap)
                have hb7 : b3 < (V5.setCell ⟨b3, 2, none⟩ (.slice (some ⟨gg, 0, none⟩) (y + k + 1) cap)).heap.size := by rw [World.size_setCell]; exact hb7
                refine hK.out _ _ hcum (fun _ => ?_)
                clear hK hown'
                generalize V5.setCell ⟨b3, 2, none⟩ (.slice (some ⟨gg, 0, none⟩) (y + k + 1) cap) = V6 at *
                try simp only [Act.put, List.setIfInBounds_toArray, List.set_cons_zero, List.set_cons_succ]
                refine wpAnyH_done (by kernel_rfl) ?_ _
                go_wp2_with fail
                go_roundw
                case rel => exact ⟨k + 1, _, by go_num, by omega, Lib.hid T7, Lib.hid (by rw [HTK.out]; exact hown), Lib.hid hof, Lib.hid hcum, hb7⟩
                case measure => simp [intOf]; omega
              · rw [if_pos (by rfl)]
                go_simp
                refine (refPow_nat (Gf.pow 2 i) k V1 (Gf.pow_lt 2 i) (by omega)).mono ?_
                rintro e VV ⟨rfl, rfl⟩
                obtain ⟨V2, rfl⟩ : ∃ V, V = V1 := ⟨_, rfl⟩
                have hbe := Below.refl V2.heap.size V2
                have hcum := hcum.trans (hbe.mono hcum.size)
                refine hK.out _ _ hcum (fun _ => ?_)
                clear hK hbe
                try simp only [Act.put, List.setIfInBounds_toArray, List.set_cons_zero, List.set_cons_succ]
                refine wpAnyH_ready (rs := [1, 6]) (by kernel_rfl) (by simp) ?_
                refine AllReadyH.cons (o := { dst := some 30, op := Op.load 35 (Operand.tmp 29), type := 35, pos := "siloref4.go:21", after := #[{ on := 0, ground := Ground.data }], guard := none }) rfl (fun KK hK => ?_) (AllReadyH.cons (o := { dst := some 35, op := Op.buildSlice 35 1 #[(0, Operand.tmp 34)], type := 35, pos := "siloref4.go:21", after := #[{ on := 5, ground := Ground.data }], guard := none }) rfl (fun KK hK => ?_) AllReadyH.nil)
                · rw [if_pos (by rfl)]
                  go_simp
                  refine hK.out _ _ hcum (fun _ => ?_)
                  clear hK
                  obtain ⟨V3, rfl⟩ : ∃ V, V = V2 := ⟨_, rfl⟩
                  try simp only [Act.put, List.setIfInBounds_toArray, List.set_cons_zero, List.set_cons_succ]
                  refine wpAnyH_ready (rs := [6]) (by kernel_rfl) (by simp) ?_
                  refine AllReadyH.cons (o := { dst := some 35, op := Op.buildSlice 35 1 #[(0, Operand.tmp 34)], type := 35, pos := "siloref4.go:21", after := #[{ on := 5, ground := Ground.data }], guard := none }) rfl (fun KK hK => ?_) AllReadyH.nil
                  rw [if_pos (by rfl)]
                  go_simp
                  have hbe := (Below.refl V3.heap.size V3).alloc (Nat.le_refl _) (.cells #[.int .u8 ((Gf.pow (Gf.pow 2 i) k : Nat) : Int)] 5)
                  have hl1 := cell_one_new' V3 (.int .u8 ((Gf.pow (Gf.pow 2 i) k : Nat) : Int)) 5
                  replace T7 := T7.alloc (.cells #[.int .u8 ((Gf.pow (Gf.pow 2 i) k : Nat) : Int)] 5)
                  replace hown := hown.alloc (.cells #[.int .u8 ((Gf.pow (Gf.pow 2 i) k : Nat) : Int)] 5)
                  replace hof := hof.alloc (.cells #[.int .u8 ((Gf.pow (Gf.pow 2 i) k : Nat) : Int)] 5)
                  replace hb7 : b3 < (V3.alloc (.cells #[.int .u8 ((Gf.pow (Gf.pow 2 i) k : Nat) : Int)] 5)).heap.size := Nat.lt_of_lt_of_le hb7 hbe.size
                  replace hcum := hcum.trans (hbe.mono hcum.size)
                  clear x0 x1 x2 x3 x4 x5
                  obtain ⟨x0, x1, x2, x3, x4, x5⟩ := id T7
                  refine hK.out _ _ hcum (fun _ => ?_)
                  clear hK hbe
                  generalize V3.alloc (.cells #[.int .u8 ((Gf.pow (Gf.pow 2 i) k : Nat) : Int)] 5) = V4 at *
                  generalize V3.heap.size = bl at *
                  try simp only [Act.put, List.setIfInBounds_toArray, List.set_cons_zero, List.set_cons_succ]
                  refine wpAnyH_ready (rs := [7]) (by kernel_rfl) (by simp) ?_
                  refine AllReadyH.cons (o := { dst := some 36, op := Op.call { callee := Callee.builtin Builtin.append, args := #[Operand.tmp 30, Operand.tmp 35], argTypes := #[35, 35] }, type := 35, pos := "siloref4.go:21", after := #[{ on := 1, ground := Ground.data }, { on := 6, ground := Ground.data }, { on := 5, ground := Ground.chain }], guard := none }) rfl (fun KK hK => ?_) AllReadyH.nil
                  refine step_append_lies _ (by rfl) _ _ _ (by rfl) (b3 + 1) 5 i0 _ 1 1 Try.underlying35 hi hz0 hz1 hz2 rfl (by decide) _ _ _ (by rfl) hown ⟨bl, 0, none⟩ 1 1 [.int .u8 ((Gf.pow (Gf.pow 2 i) k : Nat) : Int)] (by simp [Act.eval]) (by rfl) hl1 (by intro u hu; simp at hu; subst hu; rfl) (by omega) (by unfold maxLen; omega) (by omega) (by omega) V4.heap.size rfl ?_
                  intro gg cap V5 hown' hgrow hat hltg
                  have hbg : Below (b3 + 1) V4 V5 := (Below.refl (b3 + 1) V4).grown hgrow (by omega) (fun k hk => (hown.lt k hk).1)
                  have T7 := T7.belowB hbg (by omega)
                  have hof := hof.kept hgrow (own_apart (by decide) hof hown)
                  have hsz := hbg.size
                  have hb7 := Nat.lt_of_lt_of_le hb7 hbg.size
                  have hcum := hcum.trans (hbg.mono (by omega))
                  clear hown hgrow hat hltg x0 x1 x2 x3 x4 x5
                  obtain ⟨x0, x1, x2, x3, x4, x5⟩ := id T7
                  refine hK.out _ _ hcum (fun _ => ?_)
                  clear hK hbg
                  try simp only [Act.put, List.setIfInBounds_toArray, List.set_cons_zero, List.set_cons_succ]
                  refine wpAnyH_take (i := 8) (oi := { dst := some 37, op := Op.fieldAddr 55 (Operand.tmp 3) 2, type := 0, pos := "siloref4.go:21", after := #[{ on := 0, ground := Ground.phase }, { on := 1, ground := Ground.phase }, { on := 2, ground := Ground.phase }, { on := 3, ground := Ground.phase }, { on := 4, ground := Ground.phase }, { on := 5, ground := Ground.phase }, { on := 6, ground := Ground.phase }, { on := 7, ground := Ground.phase }], guard := none }) (v := ?_) rfl (by kernel_rfl) (by kernel_rfl) (by kernel_rfl) (fun _ _ _ h => h) (Or.inl ⟨by rfl, fun W' hW' => ?_⟩) hcum ?_
                  rotate_left 1
                  · go_simp
                    try rfl
                  try simp only [Act.put, List.setIfInBounds_toArray, List.set_cons_zero, List.set_cons_succ]
                  refine wpAnyH_ready (rs := [9]) (by kernel_rfl) (by simp) ?_
                  refine AllReadyH.cons (o := { dst := none, op := Op.store 35 (Operand.tmp 37) (Operand.tmp 36), type := 0, pos := "siloref4.go:21", after := #[{ on := 8, ground := Ground.data }, { on := 7, ground := Ground.data }, { on := 7, ground := Ground.chain }, { on := 0, ground := Ground.phase }, { on := 1, ground := Ground.phase }, { on := 2, ground := Ground.phase }, { on := 3, ground := Ground.phase }, { on := 4, ground := Ground.phase }, { on := 5, ground := Ground.phase }, { on := 6, ground := Ground.phase }, { on := 7, ground := Ground.phase }], guard := none }) rfl (fun KK hK => ?_) AllReadyH.nil
                  rw [if_pos (by rfl)]
                  go_simp
                  clear x0 x1 x2 x3 x4 x5
                  have T7 := three_put2 T7 (.slice (some ⟨gg, 0, none⟩) (y + k + 1) cap)
                  have hown := own_cell hown' (d := ⟨b3, 2, none⟩) (u := (.slice (some ⟨gg, 0, none⟩) (y + k + 1) cap)) (by dsimp only; omega)
                  have hof := own_cell hof (d := ⟨b3, 2, none⟩) (u := (.slice (some ⟨gg, 0, none⟩) (y + k + 1) cap)) (by dsimp only; omega)
                  have hcum := hcum.setCell (p := ⟨b3, 2, none⟩) (by dsimp only; omega) (.slice (some ⟨gg, 0, none⟩) (y + k + 1) cap)
                  have hb7 : b3 < (V5.setCell ⟨b3, 2, none⟩ (.slice (some ⟨gg, 0, none⟩) (y + k + 1) cap)).heap.size := by rw [World.size_setCell]; exact hb7
                  refine hK.out _ _ hcum (fun _ => ?_)
                  clear hK hown'
                  generalize V5.setCell ⟨b3, 2, none⟩ (.slice (some ⟨gg, 0, none⟩) (y + k + 1) cap) = V6 at *
                  try simp only [Act.put, List.setIfInBounds_toArray, List.set_cons_zero, List.set_cons_succ]
                  refine wpAnyH_done (by kernel_rfl) ?_ _
                  go_wp2_with fail
                  go_roundw
                  case rel => exact ⟨k + 1, _, by go_num, by omega, Lib.hid T7, Lib.hid (by rw [HTK.out]; exact hown), Lib.hid hof, Lib.hid hcum, hb7⟩
                  case measure => simp [intOf]; omega
                · rw [if_pos (by rfl)]
                  go_simp
                  have hbe := (Below.refl V2.heap.size V2).alloc (Nat.le_refl _) (.cells #[.int .u8 ((Gf.pow (Gf.pow 2 i) k : Nat) : Int)] 5)
                  have hl1 := cell_one_new' V2 (.int .u8 ((Gf.pow (Gf.pow 2 i) k : Nat) : Int)) 5
                  replace T7 := T7.alloc (.cells #[.int .u8 ((Gf.pow (Gf.pow 2 i) k : Nat) : Int)] 5)
                  replace hown := hown.alloc (.cells #[.int .u8 ((Gf.pow (Gf.pow 2 i) k : Nat) : Int)] 5)
                  replace hof := hof.alloc (.cells #[.int .u8 ((Gf.pow (Gf.pow 2 i) k : Nat) : Int)] 5)
                  replace hb7 : b3 < (V2.alloc (.cells #[.int .u8 ((Gf.pow (Gf.pow 2 i) k : Nat) : Int)] 5)).heap.size := Nat.lt_of_lt_of_le hb7 hbe.size
                  replace hcum := hcum.trans (hbe.mono hcum.size)
                  clear x0 x1 x2 x3 x4 x5
                  obtain ⟨x0, x1, x2, x3, x4, x5⟩ := id T7
                  refine hK.out _ _ hcum (fun _ => ?_)
                  clear hK hbe
                  generalize V2.alloc (.cells #[.int .u8 ((Gf.pow (Gf.pow 2 i) k : Nat) : Int)] 5) = V3 at *
                  generalize V2.heap.size = bl at *
                  try simp only [Act.put, List.setIfInBounds_toArray, List.set_cons_zero, List.set_cons_succ]
                  refine wpAnyH_ready (rs := [1]) (by kernel_rfl) (by simp) ?_
                  refine AllReadyH.cons (o := { dst := some 30, op := Op.load 35 (Operand.tmp 29), type := 35, pos := "siloref4.go:21", after := #[{ on := 0, ground := Ground.data }], guard := none }) rfl (fun KK hK => ?_) AllReadyH.nil
                  rw [if_pos (by rfl)]
                  go_simp
                  refine hK.out _ _ hcum (fun _ => ?_)
                  clear hK
                  obtain ⟨V4, rfl⟩ : ∃ V, V = V3 := ⟨_, rfl⟩
                  try simp only [Act.put, List.setIfInBounds_toArray, List.set_cons_zero, List.set_cons_succ]
                  refine wpAnyH_ready (rs := [7]) (by kernel_rfl) (by simp) ?_
                  refine AllReadyH.cons (o := { dst := some 36, op := Op.call { callee := Callee.builtin Builtin.append, args := #[Operand.tmp 30, Operand.tmp 35], argTypes := #[35, 35] }, type := 35, pos := "siloref4.go:21", after := #[{ on := 1, ground := Ground.data }, { on := 6, ground := Ground.data }, { on := 5, ground := Ground.chain }], guard := none }) rfl (fun KK hK => ?_) AllReadyH.nil
                  refine step_append_lies _ (by rfl) _ _ _ (by rfl) (b3 + 1) 5 i0 _ 1 1 Try.underlying35 hi hz0 hz1 hz2 rfl (by decide) _ _ _ (by rfl) hown ⟨bl, 0, none⟩ 1 1 [.int .u8 ((Gf.pow (Gf.pow 2 i) k : Nat) : Int)] (by simp [Act.eval]) (by rfl) hl1 (by intro u hu; simp at hu; subst hu; rfl) (by omega) (by unfold maxLen; omega) (by omega) (by omega) V4.heap.size rfl ?_
                  intro gg cap V5 hown' hgrow hat hltg
                  have hbg : Below (b3 + 1) V4 V5 := (Below.refl (b3 + 1) V4).grown hgrow (by omega) (fun k hk => (hown.lt k hk).1)
                  have T7 := T7.belowB hbg (by omega)
                  have hof := hof.kept hgrow (own_apart (by decide) hof hown)
                  have hsz := hbg.size
                  have hb7 := Nat.lt_of_lt_of_le hb7 hbg.size
                  have hcum := hcum.trans (hbg.mono (by omega))
                  clear hown hgrow hat hltg x0 x1 x2 x3 x4 x5
                  obtain ⟨x0, x1, x2, x3, x4, x5⟩ := id T7
                  refine hK.out _ _ hcum (fun _ => ?_)
                  clear hK hbg
                  try simp only [Act.put, List.setIfInBounds_toArray, List.set_cons_zero, List.set_cons_succ]
                  refine wpAnyH_take (i := 8) (oi := { dst := some 37, op := Op.fieldAddr 55 (Operand.tmp 3) 2, type := 0, pos := "siloref4.go:21", after := #[{ on := 0, ground := Ground.phase }, { on := 1, ground := Ground.phase }, { on := 2, ground := Ground.phase }, { on := 3, ground := Ground.phase }, { on := 4, ground := Ground.phase }, { on := 5, ground := Ground.phase }, { on := 6, ground := Ground.phase }, { on := 7, ground := Ground.phase }], guard := none }) (v := ?_) rfl (by kernel_rfl) (by kernel_rfl) (by kernel_rfl) (fun _ _ _ h => h) (Or.inl ⟨by rfl, fun W' hW' => ?_⟩) hcum ?_
                  rotate_left 1
                  · go_simp
                    try rfl
                  try simp only [Act.put, List.setIfInBounds_toArray, List.set_cons_zero, List.set_cons_succ]
                  refine wpAnyH_ready (rs := [9]) (by kernel_rfl) (by simp) ?_
                  refine AllReadyH.cons (o := { dst := none, op := Op.store 35 (Operand.tmp 37) (Operand.tmp 36), type := 0, pos := "siloref4.go:21", after := #[{ on := 8, ground := Ground.data }, { on := 7, ground := Ground.data }, { on := 7, ground := Ground.chain }, { on := 0, ground := Ground.phase }, { on := 1, ground := Ground.phase }, { on := 2, ground := Ground.phase }, { on := 3, ground := Ground.phase }, { on := 4, ground := Ground.phase }, { on := 5, ground := Ground.phase }, { on := 6, ground := Ground.phase }, { on := 7, ground := Ground.phase }], guard := none }) rfl (fun KK hK => ?_) AllReadyH.nil
                  rw [if_pos (by rfl)]
                  go_simp
                  clear x0 x1 x2 x3 x4 x5
                  have T7 := three_put2 T7 (.slice (some ⟨gg, 0, none⟩) (y + k + 1) cap)
                  have hown := own_cell hown' (d := ⟨b3, 2, none⟩) (u := (.slice (some ⟨gg, 0, none⟩) (y + k + 1) cap)) (by dsimp only; omega)
                  have hof := own_cell hof (d := ⟨b3, 2, none⟩) (u := (.slice (some ⟨gg, 0, none⟩) (y + k + 1) cap)) (by dsimp only; omega)
                  have hcum := hcum.setCell (p := ⟨b3, 2, none⟩) (by dsimp only; omega) (.slice (some ⟨gg, 0, none⟩) (y + k + 1) cap)
                  have hb7 : b3 < (V5.setCell ⟨b3, 2, none⟩ (.slice (some ⟨gg, 0, none⟩) (y + k + 1) cap)).heap.size := by rw [World.size_setCell]; exact hb7
                  refine hK.out _ _ hcum (fun _ => ?_)
                  clear hK hown'
                  generalize V5.setCell ⟨b3, 2, none⟩ (.slice (some ⟨gg, 0, none⟩) (y + k + 1) cap) = V6 at *
                  try simp only [Act.put, List.setIfInBounds_toArray, List.set_cons_zero, List.set_cons_succ]
                  refine wpAnyH_done (by kernel_rfl) ?_ _
                  go_wp2_with fail
                  go_roundw
                  case rel => exact ⟨k + 1, _, by go_num, by omega, Lib.hid T7, Lib.hid (by rw [HTK.out]; exact hown), Lib.hid hof, Lib.hid hcum, hb7⟩
                  case measure => simp [intOf]; omega
          · have hke : k = K := by omega
            have hkd : decide ((k : Int) < (K : Int)) = false := by simp; omega
            have HO : Hid (wq.ownsRow (b3 + 1) 5 1 xv ((i + 1) * K) (u8s ((vandL n K).take ((i + 1) * K)))) := by
              have h := hownq.out
              rw [hke] at h
              rw [Hid, HY.out]; exact h
            clear hke hownq
            go_wp2_with fail
            go_meet
            exact ⟨xv, HT7, HO, hofq, HBq, hb7q⟩
      case rest =>
        clear HT7 hown hof HB hb7 x0 x1 x2 a0 a1 HT1r xv
        obtain ⟨wd, rfl⟩ : ∃ wd : World, wd = wc := ⟨_, rfl⟩
        obtain ⟨xv, HT7, hown, hof, HB, hb7⟩ := hcut
        obtain ⟨a0, a1, _, _, _, _⟩ := HT1.out.below HB.out
        by_cases hiK : i < K
        · have hkd : decide ((i : Int) < (K : Int)) = true := by simp; omega
          have hm1 : min i K = i := by omega
          have hm2 : min (i + 1) K = i + 1 := by omega
          have HM2 := Lib.hid hm2
          rw [hm1] at hof
          have HT := Lib.hid (firstL_succ i)
          clear hm1 hm2
          go_wp2_with (first | (at_builtin; refine wpList_append_own _ rfl _ _ 34 rfl (b3 + 1) 3 j0 (.int .i64 0) 1 8 Try.underlying34 hj hy0 hy1 hy2 rfl (by decide) _ _ _ rfl (hof.out.alloc _) ⟨wd.heap.size, 0, none⟩ 1 1 [.int .i64 (i : Int)] rfl rfl ?c1 ?c2 ?c3 ?c4 ?c5 ?_) | go_in)
          case c1 => exact cell_one_new' _ _ _
          case c2 => intro u hu; simp at hu; subst hu; rfl
          case c3 => unfold maxLen; omega
          case c4 => omega
          case c5 => simp; omega
          all_goals
            intro v' w1 hown' hgrow _
            have hbg := app_belowB (B := b3 + 1) hb7 hof.out hgrow
            have T7 := Lib.hid (HT7.out.belowB hbg (by omega))
            have HO := Lib.hid ((hown.out.alloc _).kept hgrow (own_apart (by decide) hown.out hof.out))
            have HBn := Lib.hid (HB.out.trans (hbg.mono (by omega)))
            have hb7n := Nat.lt_of_lt_of_le hb7 hbg.size
            have HOF : Hid (w1.ownsRow (b3 + 1) 3 1 v' (min (i + 1) K) (i64s (firstL (min (i + 1) K)))) := by
              rw [Hid, HM2.out, HT.out, i64s_snoc]
              exact hown'
            clear hown' hgrow hbg a0 a1
            go_wp2_with fail
            go_roundw
            case rel => exact ⟨i + 1, _, _, rfl, by go_num, by omega, T7, HO, HOF, HBn, hb7n⟩
            case measure => simp [intOf]; omega
        · have hkd : decide ((i : Int) < (K : Int)) = false := by simp; omega
          have hm1 : min i K = K := by omega
          have hm2 : min (i + 1) K = K := by omega
          have HOF : Hid (wd.ownsRow (b3 + 1) 3 1 fw (min (i + 1) K) (i64s (firstL (min (i + 1) K)))) := by
            have h := hof.out
            rw [hm1] at h
            rw [Hid, hm2]
            exact h
          clear hm1 hm2 hof
          go_wp2_with fail
          go_roundw
          case rel => exact ⟨i + 1, _, _, rfl, by go_num, by omega, HT7, hown, HOF, HB, hb7⟩
          case measure => simp [intOf]; omega
    · have hie : i = n := by omega
      have hid1 : decide ((i : Int) < (n : Int)) = false := by simp; omega
      obtain ⟨nk, hnk⟩ : ∃ nk, nk = n * K := ⟨_, rfl⟩
      have hle : nk ≤ 14 * 8 := by rw [hnk]; exact Nat.mul_le_mul hn14 k8
      have h0 : 0 < nk := by rw [hnk]; exact Nat.mul_pos (by omega) (by omega)
      have ho := hown.out
      have hf := hof.out
      have hm : min n K = K := by omega
      rw [hie] at ho hf
      rw [hm] at hf
      have hall : (vandL n K).take (n * K) = vandL n K := by rw [← vandL_len n K, List.take_length]
      rw [hall, ← hnk] at ho
      obtain ⟨g, cap, rfl, hg1, hg2, hcap, hcap2⟩ := own_room ho h0
      obtain ⟨X, hX, _⟩ := own_of_row (ns := vandL n K) (by rw [vandL_len, ← hnk]; exact ho) (vandL_lt n K)
      have HVV := Lib.hid hX.1
      have HNK := Lib.hid hnk
      have HVL : Hid ((vandL n K).length = nk) := by rw [Hid, vandL_len, hnk]
      have HNU := Lib.hid (numsIn_own (l := firstL K) (by rw [firstL_len]; exact hf) (fun z hz => by have := firstL_mem hz; omega) (by rw [firstL_len]; omega))
      have HBw := Lib.hid (HBE.out.trans (HB.out.mono HBE.out.size))
      have HT2r := Lib.hid (HT2.out.below HB.out)
      obtain ⟨kk2, hkk2⟩ : ∃ q, q = K * K := ⟨_, rfl⟩
      have hq64 : kk2 ≤ 8 * 8 := by rw [hkk2]; exact Nat.mul_le_mul k8 k8
      have HTL : Hid ((topL n K).length = kk2) := by rw [Hid, topL_len hKn, hkk2]
      have HKK := Lib.hid hkk2
      clear hie hnk ho hf hm hall hX hown hof hkk2 a0 a1 x3 x4 x5
      go_wp2_with fail
      have HC := refPick_any n K g 0 cap (vandL n K) fw (firstL K) wr (by rw [HVL.out]; exact HVV.out) HNU.out (vandL_len n K) (by omega) (by omega) k1 (by omega) (by rw [HVL.out]; exact hcap) hcap2 (by rw [firstL_len]; exact k1) (by rw [firstL_len]; omega) (fun z hz => (firstOk hKn).lt z hz)
      rw [firstL_len, HVL.out] at HC
      unfold matV at HC
      with_reducible refine HC.mono ?_
      rintro e V1 ⟨rt, rfl, hot, hb1⟩
      obtain ⟨Xt, hXt, _⟩ := own_of_row (ns := topL n K) (by rw [topL_len hKn]; exact hot) (topL_lt n K)
      have HRT := Lib.hid hXt.1
      have HT7a := Lib.hid (HT7.out.below hb1)
      have HT2a := Lib.hid (HT2r.out.below hb1)
      have HVa := Lib.hid (HVV.out.below hb1)
      have HBa := Lib.hid (HBw.out.trans (hb1.mono HBw.out.size))
      clear HC hot hb1 hXt x0 x1 x2
      go_wp2_with fail
      have HC := refInvert_any K rt (topL n K) V1 HRT.out (topL_len hKn) k1 (by omega)
      unfold matV at HC
      with_reducible refine HC.mono ?_
      rintro e V2 ⟨vi, rfl, hvi, hb2⟩
      obtain ⟨Ai, ki, rfl⟩ := hvi.shape
      have HIL : Hid ((invO K (topL n K)).length = kk2) := by rw [Hid, invO_length, HKK.out]
      rw [HIL.out] at hvi
      rw [HIL.out]
      obtain ⟨o7, ho7⟩ : ∃ o, o = (Obj.cells #[.int .i64 (K : Int), .int .i64 (K : Int), .slice Ai kk2 ki] 55) := ⟨_, rfl⟩
      have t7 := Three.new V2 (.int .i64 (K : Int)) (.int .i64 (K : Int)) (.slice Ai kk2 ki) 55
      rw [← ho7] at t7
      have hal := (Below.refl V2.heap.size V2).alloc (Nat.le_refl _) o7
      have hb10 := cum2 hb2 hal
      have HT3y := Lib.hid (HT7a.out.below hb10)
      have HT2y := Lib.hid (HT2a.out.below hb10)
      have HVy := Lib.hid (HVa.out.below hb10)
      have HBy := Lib.hid (HBa.out.trans (hb10.mono HBa.out.size))
      have HT10 := Lib.hid t7
      have HV2 := Lib.hid (hvi.below hal)
      obtain ⟨y0, y1, y2, _, _, _⟩ := t7
      rw [ho7] at y0 y1 y2
      clear hal hb10 hb2 hvi HC
      go_upto_region 13 with fail
      rw [← ho7]
      clear y0 y1 y2 ho7
      generalize V2.alloc o7 = W10 at *
      generalize V2.heap.size = b10 at *
      obtain ⟨x0, x1, x2, _, _, _⟩ := HT3y.out
      obtain ⟨y0, y1, y2, _, _, _⟩ := HT10.out
      go_wp2_with fail
      have HC := refTimes_any n K K (.slice (some ⟨g, 0, none⟩) nk cap) (.slice Ai kk2 ki) (vandL n K) (invO K (topL n K)) W10 HVy.out HV2.out (vandL_len n K) (invO_length _ _) (by omega) (by omega) k1 (by omega) k1 (by omega)
      unfold matV at HC
      with_reducible refine HC.mono ?_
      rintro e V3 ⟨vr, rfl, hmr, hb3'⟩
      obtain ⟨B4, h41, h42, rfl, hbk4, hl4⟩ := hmr
      have T2z := HT2y.out.below hb3'
      have HBz := Lib.hid (HBy.out.trans (hb3'.mono HBy.out.size))
      have hwb4 : w.heap.size + 1 < W10.heap.size := cell_block HT2y.out.c0
      rw [← HNK.out]
      have HB4 := Lib.hid hbk4
      have HT2z := Lib.hid T2z
      obtain ⟨r0, r1, r2, r3, r4, r5⟩ := T2z
      clear HC hb3' hbk4 hl4 x0 x1 x2 y0 y1 y2
      unfold matV
      go_wp2_with fail
      obtain ⟨t0, t1, t2, _, _, _⟩ := three_put HT2z.out (.int .i64 (n : Int)) (.int .i64 (K : Int)) (.slice (some ⟨B4, 0, none⟩) nk nk)
      refine bodyPost_ret (v := matV (n : Int) (K : Int) (.slice (some ⟨B4, 0, none⟩) nk nk)) (by simp [results, Try.results24, go_sem, matV, t0, t1, t2]) rfl ⟨_, rfl, ⟨B4, by omega, by simp only [World.size_setCell]; exact h42, by rw [← HNK.out], ?_, genL_len n K⟩, ?_⟩
      · exact blk_cell (blk_cell (blk_cell HB4.out (by dsimp only; omega)) (by dsimp only; omega)) (by dsimp only; omega)
      · exact ((HBz.out.setCell (p := ⟨w.heap.size + 1, 0, none⟩) (by simp) _).setCell (p := ⟨w.heap.size + 1, 1, none⟩) (by simp) _).setCell (p := ⟨w.heap.size + 1, 2, none⟩) (by simp) _
end Go.Proofs.Ytijcmdcjjcemfaa
