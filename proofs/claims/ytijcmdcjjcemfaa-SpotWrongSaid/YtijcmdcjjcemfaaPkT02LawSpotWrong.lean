/- siloref4.try and siloref4.Wrong, walked: the page's own looking. -/
import Derived.Test.YtijcmdcjjcemfaaPkT00LawSpotWrong
import Derived.Test.YtijcmdcjjcemfaaPkA25
import Derived.Test.YtijcmdcjjcemfaaPkA22
import Derived.Test.YtijcmdcjjcemfaaPkA23
import Derived.Test.YtijcmdcjjcemfaaPkT01LawSpotWrong
import Derived.OrdersHeld
import Derived.Deep.RegionHeld
import Derived.Deep.RegionHeld3
import Derived.Deep.CutBlock
namespace Go.Proofs.Ytijcmdcjjcemfaa
open Go.ChangeShapes Go.WideShapes Go.ChangeAt Go.RowKit Go.Joins
set_option linter.unusedVariables false
set_option linter.unusedSimpArgs false

set_option maxRecDepth 100000 in
set_option maxHeartbeats 4000000 in
theorem try_any (K M Z n : Nat) (l : List ByteArray) (k1 : 1 ≤ K) (k8 : K ≤ 8) (m6 : M ≤ 6) (z1 : 1 ≤ Z) (z2 : Z ≤ 120) (hn : n = K + M) (hll : l.length = n) (hsz : ∀ s ∈ l, s.size = Z) (vl : Value) :
    ∀ (m : Nat) (T : List Bool) (r : Nat) (C : List Int) (vc : Value) (w : World), T.length + r = n → C = posT T T.length → C.length + m = K → Strs6 w vl l → Ints6 w vc C →
      Calls Try.prog 29 #[.agg #[.int .i64 (K : Int), .int .i64 (M : Int), .int .i64 (Z : Int)], vl, vc, .int .i64 (T.length : Int)] w fun e w' =>
        ∃ x y, e = .returned (.tuple #[x, y, .bool (tryF n K M Z l T r m).isSome]) ∧ TryR w.heap.size w' x y n l (tryF n K M Z l T r m) ∧ Below w.heap.size w w' := by
  obtain ⟨i0, hi, hz0, hz1, hz2⟩ := info_parts infoI64
  have HLL := Lib.hid hll
  have HSZ := Lib.hid hsz
  have HNN := Lib.hid hn
  have hn14 : n ≤ 14 := by omega
  have hKn : K ≤ n := by omega
  obtain ⟨m2, hm2⟩ : ∃ m2, m2 = M / 2 := ⟨_, rfl⟩
  have hq : (M : Int).tdiv 2 = (m2 : Int) := by rw [hm2, Int.tdiv_eq_ediv_of_nonneg (by omega)]; omega
  have hqw : IntKind.i64.wrap (m2 : Int) = (m2 : Int) := IntWalk.i64_in _ (by omega)
  have HM2 := Lib.hid hm2
  clear hll hsz hn hm2
  intro m
  induction m with
  | zero =>
    intro T r C vc w hTr hCe hC hl hc
    obtain ⟨A, cl, rfl⟩ := hl.shape
    obtain ⟨Ac, cc, rfl⟩ := hc.shape
    obtain ⟨o, ho⟩ : ∃ o, o = (Obj.cells #[.int .i64 (K : Int), .int .i64 (M : Int), .int .i64 (Z : Int)] 29) := ⟨_, rfl⟩
    have tA := Three.new w (.int .i64 (K : Int)) (.int .i64 (M : Int)) (.int .i64 (Z : Int)) 29
    have hbe := (Below.refl w.heap.size w).alloc (Nat.le_refl _) (.cells #[.int .i64 (K : Int), .int .i64 (M : Int), .int .i64 (Z : Int)] 29)
    rw [← ho] at tA hbe
    have HB0 := Lib.hid hbe
    have T4 := Lib.hid tA
    have HL0 := Lib.hid (hl.below hbe)
    have HC0 := Lib.hid (hc.below hbe)
    rw [HLL.out] at HL0 ⊢
    obtain ⟨x0, x1, x2, _, _, _⟩ := tA
    rw [ho] at x0 x1 x2
    clear hbe hl hc
    have HCL := Lib.hid hC
    have HFULL : Hid ((haveN (T ++ List.replicate r false) K n).length = K) := by
      rw [Hid, haveN_cnt, ← hTr, cntT_tail, ← posT_len, ← hCe]
      omega
    obtain ⟨U, hU⟩ : ∃ U, U = T ++ List.replicate r false := ⟨_, rfl⟩
    have hmu : markL n C = U := by rw [hCe, hU, ← hTr]; exact markL_posT T r
    have hUl : U.length = n := by rw [hU, List.length_append, List.length_replicate]; exact hTr
    rw [tryF_leaf, ← hU]
    rw [← hU] at HFULL
    have HMU := Lib.hid hmu
    have HUL := Lib.hid hUl
    have HCB : Hid (∀ z ∈ C, ∃ q : Nat, z = (q : Int) ∧ q < n) := fun z hz => by
      rw [hCe] at hz
      obtain ⟨q, h1, h2, _⟩ := posT_mem.1 hz
      exact ⟨q, h1, by omega⟩
    clear hC hCe hU hmu hUl hTr
    go_enter Try.func29, Try.ntmps29
    go_upto_region 1 with fail
    rw [← ho]
    clear ho x0 x1 x2
    generalize w.alloc o = W0 at *
    have hC8 : C.length ≤ 8 := by have := HCL.out; omega
    have hd0 : ((C.length : Int) == (K : Int)) = true := by have := HCL.out; simp; omega
    have hmk := hmkT (n := n) (by omega)
    obtain ⟨CT, hCT⟩ : ∃ CT, CT = Array.replicate n (Value.bool false) := ⟨_, rfl⟩
    rw [← hCT] at hmk
    have hT0 := World.ownsRow_lit (base := W0.heap.size) (e := 4) (size := 1) W0 CT n (Nat.le_refl _) (by unfold maxLen; omega) (by rw [hCT]; simp)
    have hT1 : CT.toList = (List.replicate n false).map Value.bool := by rw [hCT]; simp
    rw [hT1] at hT0
    have HT0 : Hid (SetAt n W0.heap.size (List.replicate n false) (W0.alloc (.cells CT 4))) := ⟨by simp, hT0⟩
    have HBT := Lib.hid ((Below.refl W0.heap.size W0).alloc (Nat.le_refl _) (.cells CT 4))
    clear hT0 hT1 hCT
    obtain ⟨x0, x1, x2, _, _, _⟩ := T4.out
    go_upto_block 0 with fail
    clear hmk x0 x1 x2
    generalize W0.alloc (.cells CT 4) = W1 at *
    obtain ⟨bT, hbT⟩ : ∃ b, b = W0.heap.size := ⟨_, rfl⟩
    rw [← hbT] at HT0 ⊢
    have HbT := Lib.hid hbT
    clear hbT
    go_wp2_with fail
    go_loopw [12] (fun i wr => ∃ j : Nat, i = .int .i64 j ∧ j ≤ C.length ∧ Hid (SetAt n bT (markL n (C.take j)) wr) ∧ Hid (Below W0.heap.size W0 wr)) (fun i _ => C.length - (intOf i).toNat)
    case atStart => exact ⟨0, rfl, by omega, by rw [List.take_zero, markL_nil]; exact HT0, HBT⟩
    case round =>
      clear HT0 HBT
      obtain ⟨j, rfl, hj, HTj, HBj⟩ := hrel
      by_cases hlt : j < C.length
      · have hd : decide ((j : Int) < (C.length : Int)) = true := by simp; omega
        have j0 : (0 : Int) ≤ (j : Int) := by omega
        have j1 : (j : Int) < (C.length : Int) := by omega
        obtain ⟨bc, oc, rfl, _, hcell⟩ := (HC0.out.below HBj.out).at_ hlt
        obtain ⟨q, hq, hqn⟩ := HCB.out _ (List.getElem_mem hlt)
        have HTK : Hid (C.take (j + 1) = C.take j ++ [(q : Int)]) := by rw [Hid, List.take_succ_eq_append_getElem hlt, hq]
        rw [hq] at hcell
        obtain ⟨d1, d2⟩ := HTj.out.cell hqn
        have hs := HTj.out.stored q true
        rw [← markL_snoc hqn, ← HTK.out] at hs
        have HS := Lib.hid hs
        have HBn := Lib.hid (HBj.out.setCell (p := ⟨bT, q, none⟩) (by have := HbT.out; dsimp only; omega) (.bool true))
        have q0 : (0 : Int) ≤ (q : Int) := by omega
        have q1 : (q : Int) < (n : Int) := by omega
        generalize (markL n (C.take j)).getD q false = vb at *
        clear hq hs
        have hj1c : j + 1 ≤ C.length := hlt
        have HJC := Lib.hid hj1c
        clear hj1c
        go_wp2_with fail
        go_roundw
        case rel => exact ⟨j + 1, by go_num, HJC.out, HS, HBn⟩
        case measure => have := HJC.out; simp [intOf]; omega
      · have hje : j = C.length := by omega
        have hd : decide ((j : Int) < (C.length : Int)) = false := by simp; omega
        obtain ⟨wj, rfl⟩ : ∃ wj : World, wj = wr := ⟨_, rfl⟩
        have hsu := HTj.out
        rw [hje, List.take_length, HMU.out] at hsu
        have HSU := Lib.hid hsu
        have T4j := Lib.hid (T4.out.below HBj.out)
        have HLj := Lib.hid (HL0.out.below HBj.out)
        have HB1 := Lib.hid (HB0.out.trans (HBj.out.mono HB0.out.size))
        have hbr := boolsIn_own (w := wj) (B := bT) (e := 4) (v := .slice (some ⟨bT, 0, none⟩) n n) (T := U) (by rw [HUL.out]; exact HSU.out.2) (by rw [HUL.out]; omega)
        have hszU : ∀ i, U.getD i false = true → (l.getD i ByteArray.empty).size = Z := fun i hi => by
          have hin : i < l.length := by
            rw [HLL.out, ← HUL.out]
            by_cases h : i < U.length
            · exact h
            · rw [List.getD_eq_getElem?_getD, List.getElem?_eq_none (by omega)] at hi; cases hi
          rw [List.getD_eq_getElem?_getD, List.getElem?_eq_getElem hin]
          exact HSZ.out _ (List.getElem_mem hin)
        have hrb := refRebuild_any K M Z (.slice A n cl) (.slice (some ⟨bT, 0, none⟩) n n) l U wj k1 k8 m6 z1 z2 HLj.out hbr (by rw [HLL.out, HNN.out]) (by rw [HUL.out, HNN.out]) hszU
        rw [← HNN.out] at hrb
        have HRB := Lib.hid hrb
        have HNR : Hid (nearR n K M Z l U = if (unlN (rebL n K Z U l) l n).length ≤ M / 2 then some (rebL n K Z U l) else none) := rfl
        obtain ⟨X, hX⟩ : ∃ X, X = rebL n K Z U l := ⟨_, rfl⟩
        have hXl : X.length = n := by rw [hX]; exact code_len (reb_code HFULL.out)
        rw [← hX] at HRB HNR
        rw [unlN_comm, ← HM2.out] at HNR
        have HXL := Lib.hid hXl
        obtain ⟨u, hu⟩ : ∃ u, u = (unlN l X n).length := ⟨_, rfl⟩
        have HU := Lib.hid hu
        obtain ⟨x0, x1, x2, _, _, _⟩ := T4j.out
        clear hje hsu hbr hszU hrb hX hXl hu HTj
        go_wp2_with fail
        refine HRB.out.mono ?_
        rintro e w2 ⟨rx, rfl, hox, hb2⟩
        have HRX : Hid (Strs6 w2 rx X) := RowIs.of_own hox
        have HOX := Lib.hid (World.ownsRow.mono hox HB1.out.size)
        have HL2 := Lib.hid (HLj.out.below hb2)
        have T42 := Lib.hid (T4j.out.below hb2)
        have HB2 := Lib.hid (HB1.out.trans (hb2.mono HB1.out.size))
        clear hox hb2 x0 x1 x2 HRB
        obtain ⟨x0, x1, x2, _, _, _⟩ := T42.out
        go_wp2_with fail
        refine (refUnlike_any (.slice A n cl) rx l X n w2 HL2.out HRX.out HLL.out HXL.out (by omega)).mono ?_
        rintro e w3 ⟨ru, rfl, hou, hb3⟩
        have HOX3 := Lib.hid (own_below HOX.out hb3)
        have HOU := Lib.hid (World.ownsRow.mono hou HB2.out.size)
        have T43 := Lib.hid (T42.out.below hb3)
        have HB3 := Lib.hid (HB2.out.trans (hb3.mono HB2.out.size))
        obtain ⟨Au, cu, rfl⟩ := own_shape hou
        clear hou hb3 x0 x1 x2
        rw [← HU.out]
        obtain ⟨x0, x1, x2, _, _, _⟩ := T43.out
        obtain ⟨bb, hbb⟩ : ∃ bb, bb = decide (u ≤ m2) := ⟨_, rfl⟩
        have hdd : decide ((u : Int) ≤ (m2 : Int)) = bb := by rw [hbb]; simp
        have hdn : decide (u ≤ m2) = bb := hbb.symm
        have HNB : Hid (nearR n K M Z l U = if bb = true then some X else none) := by
          rw [Hid, HNR.out, hbb, ← HU.out]
          simp
        clear hbb
        go_wp2_with fail
        go_quiet (fail)
        all_goals
          go_wp2_with fail
          go_ret3
          rw [HNB.out]
          cases bb
          · exact ⟨_, _, rfl, trivial, below_drewN HB3.out _⟩
          · exact ⟨_, _, rfl, ⟨HOX3.out, by have h := HOU.out; rw [← HU.out] at h ⊢; exact h⟩, below_drewN HB3.out _⟩
  | succ m ih =>
    intro T r C vc w hTr hCe hC hl hc
    obtain ⟨A, cl, rfl⟩ := hl.shape
    obtain ⟨Ac, cc, rfl⟩ := hc.shape
    obtain ⟨o, ho⟩ : ∃ o, o = (Obj.cells #[.int .i64 (K : Int), .int .i64 (M : Int), .int .i64 (Z : Int)] 29) := ⟨_, rfl⟩
    have tA := Three.new w (.int .i64 (K : Int)) (.int .i64 (M : Int)) (.int .i64 (Z : Int)) 29
    have hbe := (Below.refl w.heap.size w).alloc (Nat.le_refl _) (.cells #[.int .i64 (K : Int), .int .i64 (M : Int), .int .i64 (Z : Int)] 29)
    rw [← ho] at tA hbe
    have HB0 := Lib.hid hbe
    have T4 := Lib.hid tA
    have HL0 := Lib.hid (hl.below hbe)
    have HC0 := Lib.hid (hc.below hbe)
    rw [HLL.out] at HL0 ⊢
    obtain ⟨x0, x1, x2, _, _, _⟩ := tA
    rw [ho] at x0 x1 x2
    clear hbe hl hc
    go_enter Try.func29, Try.ntmps29
    go_upto_region 1 with fail
    rw [← ho]
    clear ho x0 x1 x2
    generalize w.alloc o = W0 at *
    have hd0 : ((C.length : Int) == (K : Int)) = false := by rw [beq_eq_false_iff_ne]; omega
    have hC8 : C.length ≤ 8 := by omega
    have hTn : T.length ≤ n := by omega
    obtain ⟨t0, ht0⟩ : ∃ t, t = T.length := ⟨_, rfl⟩
    rw [← ht0]
    rw [← ht0] at hTn
    have HTT := Lib.hid ht0
    have HCE := Lib.hid hCe
    have HR : Hid (r = n - t0) := by rw [Hid]; omega
    have HCK : Hid (C.length + 1 + m = K) := by rw [Hid]; omega
    have HIH := Lib.hid ih
    clear ht0 hCe hC hTr ih
    obtain ⟨x0, x1, x2, _, _, _⟩ := T4.out
    go_upto_block 2 with fail
    clear x0 x1 x2
    go_wp2_with fail
    go_loopw [16] (fun i wr => ∃ j : Nat, i = .int .i64 j ∧ t0 ≤ j ∧ j ≤ n ∧ Hid (tryF n K M Z l T r (m + 1) = tryF n K M Z l (T ++ List.replicate (j - t0) false) (n - j) (m + 1)) ∧ Hid (Below W0.heap.size W0 wr)) (fun i _ => n - (intOf i).toNat)
    case atStart => exact ⟨t0, rfl, by omega, hTn, by rw [Hid, Nat.sub_self, HR.out, List.replicate_zero, List.append_nil], Lib.hid (Below.refl _ _)⟩
    case round =>
      obtain ⟨j, rfl, hjt, hjn, HF, HBj⟩ := hrel
      by_cases hlt : j < n
      · have hd : decide ((j : Int) < (n : Int)) = true := by simp; omega
        obtain ⟨j1, hj1⟩ : ∃ j1, j1 = j + 1 := ⟨_, rfl⟩
        have wj : IntKind.i64.wrap ((j : Int) + 1) = (j1 : Int) := by rw [IntWalk.i64_in _ (by omega)]; omega
        obtain ⟨Tj, hTj⟩ : ∃ Tj, Tj = T ++ List.replicate (j - t0) false := ⟨_, rfl⟩
        have hTjl : Tj.length = j := by rw [hTj, List.length_append, List.length_replicate, ← HTT.out]; omega
        have hCj : C = posT Tj Tj.length := by rw [hTj, posT_tail, ← HCE.out]
        rw [← hTj] at HF
        obtain ⟨G, hG⟩ : ∃ G, G = tryF n K M Z l (Tj ++ [true]) (n - j1) m := ⟨_, rfl⟩
        have HSTEP : Hid (tryF n K M Z l T r (m + 1) = G.or (tryF n K M Z l (T ++ List.replicate (j1 - t0) false) (n - j1) (m + 1))) := by
          have e1 : n - j = (n - j1) + 1 := by omega
          have e2 : T ++ List.replicate (j1 - t0) false = Tj ++ [false] := by
            have : j1 - t0 = (j - t0) + 1 := by omega
            rw [this, List.replicate_succ', ← List.append_assoc, ← hTj]
          rw [Hid, HF.out, e1, tryF_step, hG, e2]
        have HIHj : Hid (∀ vc W, Strs6 W (.slice A n cl) l → Ints6 W vc (C ++ [(j : Int)]) → Calls Try.prog 29 #[.agg #[.int .i64 (K : Int), .int .i64 (M : Int), .int .i64 (Z : Int)], .slice A n cl, vc, .int .i64 (j1 : Int)] W fun e w' => ∃ x y, e = .returned (.tuple #[x, y, .bool G.isSome]) ∧ TryR W.heap.size w' x y n l G ∧ Below W.heap.size W w') := fun vc W h1 h2 => by
          have h1' : Strs6 W (.slice A l.length cl) l := by rw [HLL.out]; exact h1
          have h := HIH.out (Tj ++ [true]) (n - j1) (C ++ [(j : Int)]) vc W (by rw [List.length_append, List.length_singleton]; omega) (by rw [posT_yes, ← hCj, hTjl]) (by rw [List.length_append, List.length_singleton]; exact HCK.out) h1' h2
          rw [List.length_append, List.length_singleton, hTjl, ← hj1, ← hG, HLL.out] at h
          exact h
        have T4r := Lib.hid (T4.out.below HBj.out)
        have HLr := Lib.hid (HL0.out.below HBj.out)
        have HCr := Lib.hid (HC0.out.below HBj.out)
        have hj1n : j1 ≤ n := by omega
        have hj2 : t0 ≤ j1 := by omega
        have HJ1 := Lib.hid hj1
        clear hTj hTjl hCj hG HF hj1
        go_upto_region 13 with fail
        go_cut [17, 18, 19] from 65 to 78 (fun vx vy vo wx => vo = .bool G.isSome ∧ Hid (TryR wr.heap.size wx vx vy n l G) ∧ Hid (Below wr.heap.size wr wx))
        case first =>
          refine wp_region_held (S := fun W' => Below wr.heap.size wr W') (by kernel_rfl) ?_
          change wpAnyH _ _ _ _ _ 17 _ _ wr.drew
          have hcum := (Below.refl wr.heap.size wr).drew
          generalize wr.drew = V0 at *
          refine wpAnyH_take (i := 0) (oi := { dst := some 66, op := Op.load 29 (Operand.tmp 4), type := 29, pos := "siloref4.go:87", after := #[], guard := none }) (v := ?_) rfl (by kernel_rfl) (by kernel_rfl) (by kernel_rfl) (fun _ _ _ h => h) (Or.inl ⟨by rfl, fun W' hW' => ?_⟩) hcum ?_
          rotate_left 1
          · (obtain ⟨x0, x1, x2, _, _, _⟩ := T4r.out.below hW'; go_simp)
            try rfl
          try simp only [Act.put, List.setIfInBounds_toArray, List.set_cons_zero, List.set_cons_succ]
          refine wpAnyH_take (i := 1) (oi := { dst := some 67, op := Op.move (Operand.tmp 1), type := 23, pos := "siloref4.go:87", after := #[], guard := none }) (v := ?_) rfl (by kernel_rfl) (by kernel_rfl) (by kernel_rfl) (fun _ _ _ h => h) (Or.inl ⟨by rfl, fun W' hW' => ?_⟩) hcum ?_
          rotate_left 1
          · go_simp
            try rfl
          try simp only [Act.put, List.setIfInBounds_toArray, List.set_cons_zero, List.set_cons_succ]
          refine wpAnyH_take (i := 2) (oi := { dst := some 68, op := Op.move (Operand.tmp 2), type := 34, pos := "siloref4.go:87", after := #[], guard := none }) (v := ?_) rfl (by kernel_rfl) (by kernel_rfl) (by kernel_rfl) (fun _ _ _ h => h) (Or.inl ⟨by rfl, fun W' hW' => ?_⟩) hcum ?_
          rotate_left 1
          · go_simp
            try rfl
          try simp only [Act.put, List.setIfInBounds_toArray, List.set_cons_zero, List.set_cons_succ]
          refine wpAnyH_take (i := 4) (oi := { dst := some 70, op := Op.move (Operand.tmp 16), type := 3, pos := "siloref4.go:87", after := #[], guard := none }) (v := ?_) rfl (by kernel_rfl) (by kernel_rfl) (by kernel_rfl) (fun _ _ _ h => h) (Or.inl ⟨by rfl, fun W' hW' => ?_⟩) hcum ?_
          rotate_left 1
          · go_simp
            try rfl
          try simp only [Act.put, List.setIfInBounds_toArray, List.set_cons_zero, List.set_cons_succ]
          refine wpAnyH_take (i := 7) (oi := { dst := some 73, op := Op.move (Operand.tmp 16), type := 3, pos := "siloref4.go:87", after := #[], guard := none }) (v := ?_) rfl (by kernel_rfl) (by kernel_rfl) (by kernel_rfl) (fun _ _ _ h => h) (Or.inl ⟨by rfl, fun W' hW' => ?_⟩) hcum ?_
          rotate_left 1
          · go_simp
            try rfl
          try simp only [Act.put, List.setIfInBounds_toArray, List.set_cons_zero, List.set_cons_succ]
          refine wpAnyH_take (i := 8) (oi := { dst := some 74, op := Op.binOp BinOp.add 3 (Operand.tmp 73) (Operand.const (Value.int IntKind.i64 1)) 3, type := 3, pos := "siloref4.go:87", after := #[{ on := 7, ground := Ground.data }], guard := none }) (v := ?_) rfl (by kernel_rfl) (by kernel_rfl) (by kernel_rfl) (fun _ _ _ h => h) (Or.inl ⟨by rfl, fun W' hW' => ?_⟩) hcum ?_
          rotate_left 1
          · go_simp
            try rfl
          try simp only [Act.put, List.setIfInBounds_toArray, List.set_cons_zero, List.set_cons_succ]
          refine wpAnyH_ready (rs := [3, 5]) (by kernel_rfl) (by simp) ?_
          refine AllReadyH.cons (o := { dst := some 69, op := Op.call { callee := Callee.value (Operand.func 47), args := #[Operand.tmp 68], argTypes := #[34] }, type := 34, pos := "siloref4.go:87", after := #[{ on := 2, ground := Ground.data }], guard := none }) rfl (fun KK hK => ?_) (AllReadyH.cons (o := { dst := some 71, op := Op.buildSlice 34 1 #[(0, Operand.tmp 70)], type := 34, pos := "siloref4.go:87", after := #[{ on := 4, ground := Ground.data }], guard := none }) rfl (fun KK hK => ?_) AllReadyH.nil)
          · rw [if_pos (by rfl)]
            go_simp
            refine (copyNums_any (.slice Ac C.length cc) C V0 (HCr.out.below hcum) (by omega)).mono ?_
            rintro e V1 ⟨rc, rfl, hcp0, hbe⟩
            obtain ⟨Acp, ccp, rfl⟩ := own_shape hcp0
            have hcp := World.ownsRow.mono hcp0 hcum.size
            clear hcp0
            try (replace hl1 := lit_below hl1 hbe hbl1)
            try (replace hbl1 := Nat.lt_of_lt_of_le hbl1 hbe.size)
            have hcum := hcum.trans (hbe.mono hcum.size)
            refine hK.out _ _ hcum (fun _ => ?_)
            clear hK hbe
            try simp only [Act.put, List.setIfInBounds_toArray, List.set_cons_zero, List.set_cons_succ]
            refine wpAnyH_ready (rs := [5]) (by kernel_rfl) (by simp) ?_
            refine AllReadyH.cons (o := { dst := some 71, op := Op.buildSlice 34 1 #[(0, Operand.tmp 70)], type := 34, pos := "siloref4.go:87", after := #[{ on := 4, ground := Ground.data }], guard := none }) rfl (fun KK hK => ?_) AllReadyH.nil
            rw [if_pos (by rfl)]
            go_simp
            have hbe := (Below.refl V1.heap.size V1).alloc (Nat.le_refl _) (.cells #[.int .i64 (j : Int)] 3)
            have hl1 := cell_one_new' V1 (.int .i64 (j : Int)) 3
            have hbl1 : V1.heap.size < (V1.alloc (.cells #[.int .i64 (j : Int)] 3)).heap.size := by simp
            try (have hlo1 : ∀ q, (Value.slice Acp C.length ccp).ownBlock = some q → q < V1.heap.size := fun q hq => (hcp.lt q hq).2)
            try (replace hcp := hcp.alloc (.cells #[.int .i64 (j : Int)] 3))
            replace hcum := hcum.trans (hbe.mono hcum.size)
            refine hK.out _ _ hcum (fun _ => ?_)
            clear hK hbe
            generalize V1.alloc (.cells #[.int .i64 (j : Int)] 3) = V2 at *
            generalize V1.heap.size = bl1 at *
            try simp only [Act.put, List.setIfInBounds_toArray, List.set_cons_zero, List.set_cons_succ]
            refine wpAnyH_ready (rs := [6]) (by kernel_rfl) (by simp) ?_
            refine AllReadyH.cons (o := { dst := some 72, op := Op.call { callee := Callee.builtin Builtin.append, args := #[Operand.tmp 69, Operand.tmp 71], argTypes := #[34, 34] }, type := 34, pos := "siloref4.go:87", after := #[{ on := 3, ground := Ground.data }, { on := 5, ground := Ground.data }, { on := 3, ground := Ground.chain }], guard := none }) rfl (fun KK hK => ?_) AllReadyH.nil
            have hB0w := hcum.size
            refine step_append_lies _ (by rfl) _ _ _ (by rfl) wr.heap.size 3 i0 _ 1 8 Try.underlying34 hi hz0 hz1 hz2 rfl (by decide) _ _ _ (by rfl) hcp ⟨bl1, 0, none⟩ 1 1 [.int .i64 (j : Int)] (by simp [Act.eval]) (by rfl) hl1 (by intro u hu; simp at hu; subst hu; rfl) (by omega) (by unfold maxLen; omega) (by omega) (by omega) V2.heap.size rfl ?_
            intro g1 cap1 V3 hcp' hgrow hat hltg
            have hbg : Below wr.heap.size V2 V3 := (Below.refl wr.heap.size V2).grown hgrow hcum.size (fun k hk => (hcp.lt k hk).1)
            replace hcum := hcum.trans hbg
            clear hcp hgrow hat hltg hB0w hl1
            try clear hlo1
            have hnew : Ints6 V3 (.slice (some ⟨g1, 0, none⟩) (C.length + 1) cap1) (C ++ [(j : Int)]) := Ints6.own (n := C.length + 1) (by rw [i64s_snoc]; exact hcp') (by simp)
            clear hcp'
            refine hK.out _ _ hcum (fun _ => ?_)
            clear hK hbg
            try simp only [Act.put, List.setIfInBounds_toArray, List.set_cons_zero, List.set_cons_succ]
            refine wpAnyH_ready (rs := [9]) (by kernel_rfl) (by simp) ?_
            refine AllReadyH.cons (o := { dst := some 75, op := Op.call { callee := Callee.value (Operand.func 29), args := #[Operand.tmp 66, Operand.tmp 67, Operand.tmp 72, Operand.tmp 74], argTypes := #[29, 23, 34, 3] }, type := 47, pos := "siloref4.go:87", after := #[{ on := 0, ground := Ground.data }, { on := 1, ground := Ground.data }, { on := 6, ground := Ground.data }, { on := 8, ground := Ground.data }, { on := 6, ground := Ground.chain }], guard := none }) rfl (fun KK hK => ?_) AllReadyH.nil
            rw [if_pos (by rfl)]
            go_simp
            refine (HIHj.out _ V3 (HLr.out.below hcum) hnew).mono ?_
            rintro e V4 ⟨x, y, rfl, htr, hbe⟩
            have hbse := hcum.size
            clear hnew
            have hcum := hcum.trans (hbe.mono hcum.size)
            refine hK.out _ _ hcum (fun _ => ?_)
            clear hK hbe
            try simp only [Act.put, List.setIfInBounds_toArray, List.set_cons_zero, List.set_cons_succ]
            refine wpAnyH_take (i := 10) (oi := { dst := some 65, op := Op.move (Operand.tmp 75), type := 47, pos := "siloref4.go:87", after := #[{ on := 9, ground := Ground.data }], guard := none }) (v := ?_) rfl (by kernel_rfl) (by kernel_rfl) (by kernel_rfl) (fun _ _ _ h => h) (Or.inl ⟨by rfl, fun W' hW' => ?_⟩) hcum ?_
            rotate_left 1
            · go_simp
              try rfl
            try simp only [Act.put, List.setIfInBounds_toArray, List.set_cons_zero, List.set_cons_succ]
            refine wpAnyH_take (i := 11) (oi := { dst := some 76, op := Op.extract (Operand.tmp 65) 0, type := 23, pos := "siloref4.go:87", after := #[{ on := 10, ground := Ground.data }], guard := none }) (v := ?_) rfl (by kernel_rfl) (by kernel_rfl) (by kernel_rfl) (fun _ _ _ h => h) (Or.inl ⟨by rfl, fun W' hW' => ?_⟩) hcum ?_
            rotate_left 1
            · go_simp
              try rfl
            try simp only [Act.put, List.setIfInBounds_toArray, List.set_cons_zero, List.set_cons_succ]
            refine wpAnyH_take (i := 12) (oi := { dst := some 77, op := Op.extract (Operand.tmp 65) 1, type := 34, pos := "siloref4.go:87", after := #[{ on := 10, ground := Ground.data }, { on := 14, ground := Ground.gcOnly Departure.lateStores }], guard := none }) (v := ?_) rfl (by kernel_rfl) (by kernel_rfl) (by kernel_rfl) (fun _ _ _ h => h) (Or.inl ⟨by rfl, fun W' hW' => ?_⟩) hcum ?_
            rotate_left 1
            · go_simp
              try rfl
            try simp only [Act.put, List.setIfInBounds_toArray, List.set_cons_zero, List.set_cons_succ]
            refine wpAnyH_take (i := 13) (oi := { dst := some 78, op := Op.extract (Operand.tmp 65) 2, type := 4, pos := "siloref4.go:87", after := #[{ on := 10, ground := Ground.data }, { on := 15, ground := Ground.gcOnly Departure.lateStores }], guard := none }) (v := ?_) rfl (by kernel_rfl) (by kernel_rfl) (by kernel_rfl) (fun _ _ _ h => h) (Or.inl ⟨by rfl, fun W' hW' => ?_⟩) hcum ?_
            rotate_left 1
            · go_simp
              try rfl
            try simp only [Act.put, List.setIfInBounds_toArray, List.set_cons_zero, List.set_cons_succ]
            refine wpAnyH_take (i := 14) (oi := { dst := some 17, op := Op.assign (Operand.tmp 76), type := 23, pos := "siloref4.go:87", after := #[{ on := 11, ground := Ground.data }, { on := 9, ground := Ground.chain }, { on := 0, ground := Ground.phase }, { on := 1, ground := Ground.phase }, { on := 2, ground := Ground.phase }, { on := 3, ground := Ground.phase }, { on := 4, ground := Ground.phase }, { on := 5, ground := Ground.phase }, { on := 6, ground := Ground.phase }, { on := 7, ground := Ground.phase }, { on := 8, ground := Ground.phase }, { on := 9, ground := Ground.phase }, { on := 10, ground := Ground.phase }, { on := 11, ground := Ground.phase }, { on := 12, ground := Ground.textOnly Departure.lateStores }, { on := 13, ground := Ground.textOnly Departure.lateStores }], guard := none }) (v := ?_) rfl (by kernel_rfl) (by kernel_rfl) (by kernel_rfl) (fun _ _ _ h => h) (Or.inl ⟨by rfl, fun W' hW' => ?_⟩) hcum ?_
            rotate_left 1
            · go_simp
              try rfl
            try simp only [Act.put, List.setIfInBounds_toArray, List.set_cons_zero, List.set_cons_succ]
            refine wpAnyH_take (i := 15) (oi := { dst := some 18, op := Op.assign (Operand.tmp 77), type := 34, pos := "siloref4.go:87", after := #[{ on := 12, ground := Ground.data }, { on := 14, ground := Ground.chain }, { on := 0, ground := Ground.phase }, { on := 1, ground := Ground.phase }, { on := 2, ground := Ground.phase }, { on := 3, ground := Ground.phase }, { on := 4, ground := Ground.phase }, { on := 5, ground := Ground.phase }, { on := 6, ground := Ground.phase }, { on := 7, ground := Ground.phase }, { on := 8, ground := Ground.phase }, { on := 9, ground := Ground.phase }, { on := 10, ground := Ground.phase }, { on := 11, ground := Ground.phase }, { on := 12, ground := Ground.phase }, { on := 13, ground := Ground.textOnly Departure.lateStores }, { on := 14, ground := Ground.phase }], guard := none }) (v := ?_) rfl (by kernel_rfl) (by kernel_rfl) (by kernel_rfl) (fun _ _ _ h => h) (Or.inl ⟨by rfl, fun W' hW' => ?_⟩) hcum ?_
            rotate_left 1
            · go_simp
              try rfl
            try simp only [Act.put, List.setIfInBounds_toArray, List.set_cons_zero, List.set_cons_succ]
            refine wpAnyH_take (i := 16) (oi := { dst := some 19, op := Op.assign (Operand.tmp 78), type := 4, pos := "siloref4.go:87", after := #[{ on := 13, ground := Ground.data }, { on := 15, ground := Ground.chain }, { on := 0, ground := Ground.phase }, { on := 1, ground := Ground.phase }, { on := 2, ground := Ground.phase }, { on := 3, ground := Ground.phase }, { on := 4, ground := Ground.phase }, { on := 5, ground := Ground.phase }, { on := 6, ground := Ground.phase }, { on := 7, ground := Ground.phase }, { on := 8, ground := Ground.phase }, { on := 9, ground := Ground.phase }, { on := 10, ground := Ground.phase }, { on := 11, ground := Ground.phase }, { on := 12, ground := Ground.phase }, { on := 13, ground := Ground.phase }, { on := 14, ground := Ground.phase }, { on := 15, ground := Ground.phase }], guard := none }) (v := ?_) rfl (by kernel_rfl) (by kernel_rfl) (by kernel_rfl) (fun _ _ _ h => h) (Or.inl ⟨by rfl, fun W' hW' => ?_⟩) hcum ?_
            rotate_left 1
            · go_simp
              try rfl
            try simp only [Act.put, List.setIfInBounds_toArray, List.set_cons_zero, List.set_cons_succ]
            refine wpAnyH_done (by kernel_rfl) ?_ _
            have htr2 := htr.mono hbse
            go_wp2_with fail
            go_meet
            exact ⟨rfl, Lib.hid htr2, Lib.hid hcum⟩
          · rw [if_pos (by rfl)]
            go_simp
            have hbe := (Below.refl V0.heap.size V0).alloc (Nat.le_refl _) (.cells #[.int .i64 (j : Int)] 3)
            have hl1 := cell_one_new' V0 (.int .i64 (j : Int)) 3
            have hbl1 : V0.heap.size < (V0.alloc (.cells #[.int .i64 (j : Int)] 3)).heap.size := by simp
            try (have hlo1 : ∀ q, (Value.slice Acp C.length ccp).ownBlock = some q → q < V0.heap.size := fun q hq => (hcp.lt q hq).2)
            try (replace hcp := hcp.alloc (.cells #[.int .i64 (j : Int)] 3))
            replace hcum := hcum.trans (hbe.mono hcum.size)
            refine hK.out _ _ hcum (fun _ => ?_)
            clear hK hbe
            generalize V0.alloc (.cells #[.int .i64 (j : Int)] 3) = V1 at *
            generalize V0.heap.size = bl1 at *
            try simp only [Act.put, List.setIfInBounds_toArray, List.set_cons_zero, List.set_cons_succ]
            refine wpAnyH_ready (rs := [3]) (by kernel_rfl) (by simp) ?_
            refine AllReadyH.cons (o := { dst := some 69, op := Op.call { callee := Callee.value (Operand.func 47), args := #[Operand.tmp 68], argTypes := #[34] }, type := 34, pos := "siloref4.go:87", after := #[{ on := 2, ground := Ground.data }], guard := none }) rfl (fun KK hK => ?_) AllReadyH.nil
            rw [if_pos (by rfl)]
            go_simp
            refine (copyNums_any (.slice Ac C.length cc) C V1 (HCr.out.below hcum) (by omega)).mono ?_
            rintro e V2 ⟨rc, rfl, hcp0, hbe⟩
            obtain ⟨Acp, ccp, rfl⟩ := own_shape hcp0
            have hcp := World.ownsRow.mono hcp0 hcum.size
            clear hcp0
            try (replace hl1 := lit_below hl1 hbe hbl1)
            try (replace hbl1 := Nat.lt_of_lt_of_le hbl1 hbe.size)
            have hcum := hcum.trans (hbe.mono hcum.size)
            refine hK.out _ _ hcum (fun _ => ?_)
            clear hK hbe
            try simp only [Act.put, List.setIfInBounds_toArray, List.set_cons_zero, List.set_cons_succ]
            refine wpAnyH_ready (rs := [6]) (by kernel_rfl) (by simp) ?_
            refine AllReadyH.cons (o := { dst := some 72, op := Op.call { callee := Callee.builtin Builtin.append, args := #[Operand.tmp 69, Operand.tmp 71], argTypes := #[34, 34] }, type := 34, pos := "siloref4.go:87", after := #[{ on := 3, ground := Ground.data }, { on := 5, ground := Ground.data }, { on := 3, ground := Ground.chain }], guard := none }) rfl (fun KK hK => ?_) AllReadyH.nil
            have hB0w := hcum.size
            refine step_append_lies _ (by rfl) _ _ _ (by rfl) wr.heap.size 3 i0 _ 1 8 Try.underlying34 hi hz0 hz1 hz2 rfl (by decide) _ _ _ (by rfl) hcp ⟨bl1, 0, none⟩ 1 1 [.int .i64 (j : Int)] (by simp [Act.eval]) (by rfl) hl1 (by intro u hu; simp at hu; subst hu; rfl) (by omega) (by unfold maxLen; omega) (by omega) (by omega) V2.heap.size rfl ?_
            intro g1 cap1 V3 hcp' hgrow hat hltg
            have hbg : Below wr.heap.size V2 V3 := (Below.refl wr.heap.size V2).grown hgrow hcum.size (fun k hk => (hcp.lt k hk).1)
            replace hcum := hcum.trans hbg
            clear hcp hgrow hat hltg hB0w hl1
            try clear hlo1
            have hnew : Ints6 V3 (.slice (some ⟨g1, 0, none⟩) (C.length + 1) cap1) (C ++ [(j : Int)]) := Ints6.own (n := C.length + 1) (by rw [i64s_snoc]; exact hcp') (by simp)
            clear hcp'
            refine hK.out _ _ hcum (fun _ => ?_)
            clear hK hbg
            try simp only [Act.put, List.setIfInBounds_toArray, List.set_cons_zero, List.set_cons_succ]
            refine wpAnyH_ready (rs := [9]) (by kernel_rfl) (by simp) ?_
            refine AllReadyH.cons (o := { dst := some 75, op := Op.call { callee := Callee.value (Operand.func 29), args := #[Operand.tmp 66, Operand.tmp 67, Operand.tmp 72, Operand.tmp 74], argTypes := #[29, 23, 34, 3] }, type := 47, pos := "siloref4.go:87", after := #[{ on := 0, ground := Ground.data }, { on := 1, ground := Ground.data }, { on := 6, ground := Ground.data }, { on := 8, ground := Ground.data }, { on := 6, ground := Ground.chain }], guard := none }) rfl (fun KK hK => ?_) AllReadyH.nil
            rw [if_pos (by rfl)]
            go_simp
            refine (HIHj.out _ V3 (HLr.out.below hcum) hnew).mono ?_
            rintro e V4 ⟨x, y, rfl, htr, hbe⟩
            have hbse := hcum.size
            clear hnew
            have hcum := hcum.trans (hbe.mono hcum.size)
            refine hK.out _ _ hcum (fun _ => ?_)
            clear hK hbe
            try simp only [Act.put, List.setIfInBounds_toArray, List.set_cons_zero, List.set_cons_succ]
            refine wpAnyH_take (i := 10) (oi := { dst := some 65, op := Op.move (Operand.tmp 75), type := 47, pos := "siloref4.go:87", after := #[{ on := 9, ground := Ground.data }], guard := none }) (v := ?_) rfl (by kernel_rfl) (by kernel_rfl) (by kernel_rfl) (fun _ _ _ h => h) (Or.inl ⟨by rfl, fun W' hW' => ?_⟩) hcum ?_
            rotate_left 1
            · go_simp
              try rfl
            try simp only [Act.put, List.setIfInBounds_toArray, List.set_cons_zero, List.set_cons_succ]
            refine wpAnyH_take (i := 11) (oi := { dst := some 76, op := Op.extract (Operand.tmp 65) 0, type := 23, pos := "siloref4.go:87", after := #[{ on := 10, ground := Ground.data }], guard := none }) (v := ?_) rfl (by kernel_rfl) (by kernel_rfl) (by kernel_rfl) (fun _ _ _ h => h) (Or.inl ⟨by rfl, fun W' hW' => ?_⟩) hcum ?_
            rotate_left 1
            · go_simp
              try rfl
            try simp only [Act.put, List.setIfInBounds_toArray, List.set_cons_zero, List.set_cons_succ]
            refine wpAnyH_take (i := 12) (oi := { dst := some 77, op := Op.extract (Operand.tmp 65) 1, type := 34, pos := "siloref4.go:87", after := #[{ on := 10, ground := Ground.data }, { on := 14, ground := Ground.gcOnly Departure.lateStores }], guard := none }) (v := ?_) rfl (by kernel_rfl) (by kernel_rfl) (by kernel_rfl) (fun _ _ _ h => h) (Or.inl ⟨by rfl, fun W' hW' => ?_⟩) hcum ?_
            rotate_left 1
            · go_simp
              try rfl
            try simp only [Act.put, List.setIfInBounds_toArray, List.set_cons_zero, List.set_cons_succ]
            refine wpAnyH_take (i := 13) (oi := { dst := some 78, op := Op.extract (Operand.tmp 65) 2, type := 4, pos := "siloref4.go:87", after := #[{ on := 10, ground := Ground.data }, { on := 15, ground := Ground.gcOnly Departure.lateStores }], guard := none }) (v := ?_) rfl (by kernel_rfl) (by kernel_rfl) (by kernel_rfl) (fun _ _ _ h => h) (Or.inl ⟨by rfl, fun W' hW' => ?_⟩) hcum ?_
            rotate_left 1
            · go_simp
              try rfl
            try simp only [Act.put, List.setIfInBounds_toArray, List.set_cons_zero, List.set_cons_succ]
            refine wpAnyH_take (i := 14) (oi := { dst := some 17, op := Op.assign (Operand.tmp 76), type := 23, pos := "siloref4.go:87", after := #[{ on := 11, ground := Ground.data }, { on := 9, ground := Ground.chain }, { on := 0, ground := Ground.phase }, { on := 1, ground := Ground.phase }, { on := 2, ground := Ground.phase }, { on := 3, ground := Ground.phase }, { on := 4, ground := Ground.phase }, { on := 5, ground := Ground.phase }, { on := 6, ground := Ground.phase }, { on := 7, ground := Ground.phase }, { on := 8, ground := Ground.phase }, { on := 9, ground := Ground.phase }, { on := 10, ground := Ground.phase }, { on := 11, ground := Ground.phase }, { on := 12, ground := Ground.textOnly Departure.lateStores }, { on := 13, ground := Ground.textOnly Departure.lateStores }], guard := none }) (v := ?_) rfl (by kernel_rfl) (by kernel_rfl) (by kernel_rfl) (fun _ _ _ h => h) (Or.inl ⟨by rfl, fun W' hW' => ?_⟩) hcum ?_
            rotate_left 1
            · go_simp
              try rfl
            try simp only [Act.put, List.setIfInBounds_toArray, List.set_cons_zero, List.set_cons_succ]
            refine wpAnyH_take (i := 15) (oi := { dst := some 18, op := Op.assign (Operand.tmp 77), type := 34, pos := "siloref4.go:87", after := #[{ on := 12, ground := Ground.data }, { on := 14, ground := Ground.chain }, { on := 0, ground := Ground.phase }, { on := 1, ground := Ground.phase }, { on := 2, ground := Ground.phase }, { on := 3, ground := Ground.phase }, { on := 4, ground := Ground.phase }, { on := 5, ground := Ground.phase }, { on := 6, ground := Ground.phase }, { on := 7, ground := Ground.phase }, { on := 8, ground := Ground.phase }, { on := 9, ground := Ground.phase }, { on := 10, ground := Ground.phase }, { on := 11, ground := Ground.phase }, { on := 12, ground := Ground.phase }, { on := 13, ground := Ground.textOnly Departure.lateStores }, { on := 14, ground := Ground.phase }], guard := none }) (v := ?_) rfl (by kernel_rfl) (by kernel_rfl) (by kernel_rfl) (fun _ _ _ h => h) (Or.inl ⟨by rfl, fun W' hW' => ?_⟩) hcum ?_
            rotate_left 1
            · go_simp
              try rfl
            try simp only [Act.put, List.setIfInBounds_toArray, List.set_cons_zero, List.set_cons_succ]
            refine wpAnyH_take (i := 16) (oi := { dst := some 19, op := Op.assign (Operand.tmp 78), type := 4, pos := "siloref4.go:87", after := #[{ on := 13, ground := Ground.data }, { on := 15, ground := Ground.chain }, { on := 0, ground := Ground.phase }, { on := 1, ground := Ground.phase }, { on := 2, ground := Ground.phase }, { on := 3, ground := Ground.phase }, { on := 4, ground := Ground.phase }, { on := 5, ground := Ground.phase }, { on := 6, ground := Ground.phase }, { on := 7, ground := Ground.phase }, { on := 8, ground := Ground.phase }, { on := 9, ground := Ground.phase }, { on := 10, ground := Ground.phase }, { on := 11, ground := Ground.phase }, { on := 12, ground := Ground.phase }, { on := 13, ground := Ground.phase }, { on := 14, ground := Ground.phase }, { on := 15, ground := Ground.phase }], guard := none }) (v := ?_) rfl (by kernel_rfl) (by kernel_rfl) (by kernel_rfl) (fun _ _ _ h => h) (Or.inl ⟨by rfl, fun W' hW' => ?_⟩) hcum ?_
            rotate_left 1
            · go_simp
              try rfl
            try simp only [Act.put, List.setIfInBounds_toArray, List.set_cons_zero, List.set_cons_succ]
            refine wpAnyH_done (by kernel_rfl) ?_ _
            have htr2 := htr.mono hbse
            go_wp2_with fail
            go_meet
            exact ⟨rfl, Lib.hid htr2, Lib.hid hcum⟩
        case rest =>
          obtain ⟨rfl, HTR, HBc⟩ := hcut
          have HBn := Lib.hid (HBj.out.trans (HBc.out.mono HBj.out.size))
          cases G with
          | none =>
            dsimp only [Option.isSome_none]
            go_wp2_with fail
            go_roundw
            case rel => exact ⟨j1, by have := HJ1.out; first | rfl | go_num, hj2, hj1n, HSTEP.out, HBn⟩
            case measure => have := HJ1.out; simp [intOf]; omega
          | some c =>
            have HRES : Hid (tryF n K M Z l T r (m + 1) = some c) := HSTEP.out
            have HBe := Lib.hid (HB0.out.trans (HBn.out.mono HB0.out.size))
            have HTR2 := Lib.hid (TryR.mono HTR.out (Nat.le_trans HB0.out.size HBj.out.size))
            dsimp only [Option.isSome_some]
            clear hjt hjn hlt hj1n hj2
            go_wp2_with fail
            go_ret3
            rw [HRES.out]
            exact ⟨_, _, rfl, HTR2.out, HBe.out⟩
      · have hje : j = n := by omega
        have hd : decide ((j : Int) < (n : Int)) = false := by simp; omega
        have HRES : Hid (tryF n K M Z l T r (m + 1) = none) := by rw [Hid, HF.out, hje, Nat.sub_self]; rfl
        have HBe := Lib.hid (HB0.out.trans (HBj.out.mono HB0.out.size))
        clear hje
        go_wp2_with fail
        go_ret3
        rw [HRES.out]
        exact ⟨_, _, rfl, trivial, HBe.out⟩

set_option maxRecDepth 100000 in
set_option maxHeartbeats 1000000 in
theorem refWrong_any (K M Z n : Nat) (l : List ByteArray) (k1 : 1 ≤ K) (k8 : K ≤ 8) (m6 : M ≤ 6) (z1 : 1 ≤ Z) (z2 : Z ≤ 120) (hn : n = K + M) (hll : l.length = n) (hsz : ∀ s ∈ l, s.size = Z) (vl : Value) (w : World) (hl : Strs6 w vl l) :
    Calls Try.prog 18 #[.agg #[.int .i64 (K : Int), .int .i64 (M : Int), .int .i64 (Z : Int)], vl] w fun e w' =>
      ∃ x y, e = .returned (.tuple #[x, y, .bool (foundL n K M Z l).isSome]) ∧ TryR w.heap.size w' x y n l (foundL n K M Z l) ∧ Below w.heap.size w w' := by
  obtain ⟨A, cl, rfl⟩ := hl.shape
  obtain ⟨o, ho⟩ : ∃ o, o = (Obj.cells #[.int .i64 (K : Int), .int .i64 (M : Int), .int .i64 (Z : Int)] 29) := ⟨_, rfl⟩
  have tA := Three.new w (.int .i64 (K : Int)) (.int .i64 (M : Int)) (.int .i64 (Z : Int)) 29
  have hbe := (Below.refl w.heap.size w).alloc (Nat.le_refl _) (.cells #[.int .i64 (K : Int), .int .i64 (M : Int), .int .i64 (Z : Int)] 29)
  rw [← ho] at tA hbe
  have HB0 := Lib.hid hbe
  have hc : Ints6 (w.alloc o) (.slice none 0 0) [] := RowIs.nil _ _ _ _
  have HC := try_any K M Z n l k1 k8 m6 z1 z2 hn hll hsz (.slice A l.length cl) K [] n [] (.slice none 0 0) (w.alloc o) (by simp) rfl (by simp) (hl.below hbe) hc
  rw [tryF_all, try_found hn (by omega)] at HC
  obtain ⟨fo, hfo⟩ : ∃ fo, fo = foundL n K M Z l := ⟨_, rfl⟩
  rw [← hfo] at HC ⊢
  have HCC := Lib.hid HC
  obtain ⟨x0, x1, x2, _, _, _⟩ := tA
  rw [ho] at x0 x1 x2
  clear hbe hl hc HC hfo hll hsz
  go_enter Try.func18, Try.ntmps18
  go_wp2_with fail
  rw [← ho]
  refine HCC.out.mono ?_
  rintro e w1 ⟨x, y, rfl, htr, hb1⟩
  have HTR := Lib.hid (TryR.mono htr HB0.out.size)
  have HB1 := Lib.hid (HB0.out.trans (hb1.mono HB0.out.size))
  clear htr hb1 HCC x0 x1 x2 ho
  go_wp2_with fail
  go_ret3
  exact ⟨_, _, rfl, HTR.out, HB1.out⟩
end Go.Proofs.Ytijcmdcjjcemfaa
